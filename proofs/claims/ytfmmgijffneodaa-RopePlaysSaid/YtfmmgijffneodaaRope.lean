/- A ROPE IN MEMORY: what it is, and what the functions that only read it answer. -/
import Derived.Test.YtfmmgijffneodaaMap
import Derived.Test.YtfmmgijffneodaaRow
import Derived.BigGuard
import Derived.WalkSpells
namespace Go.Proofs.Ytfmmgijffneodaa
open Go.RowKit Go.Joins
set_option linter.unusedSimpArgs false
set_option linter.unusedVariables false

/-- a run: its block, its slice, its items -/
structure RunG where
  b : Nat
  sl : Value
  ks : List Int
abbrev ptr (b : Nat) : Value := .pointer (some ⟨b, 0, none⟩)
def flat (G : List RunG) : List Int := G.flatMap (·.ks)
/-- how many are shown -/
def cnt (hid : Int → Bool) (ks : List Int) : Nat := (ks.filter fun k => !hid k).length
def whereF (G : List RunG) (k : Int) : Option Value := (G.find? fun g => g.ks.contains k).map fun g => ptr g.b
def hideF (L : List Int) (hid : Int → Bool) (k : Int) : Option Value := if k ∈ L then some (.bool (hid k)) else none
def foot (r wb hb : Nat) (rs : Value) (G : List RunG) : List Nat := r :: wb :: hb :: (rs.ownBlock.toList ++ G.flatMap fun g => g.b :: g.sl.ownBlock.toList)
def ints (ks : List Int) : List Value := ks.map (Value.int .i64)
structure RopeAt (w : World) (r wb hb : Nat) (rs : Value) (G : List RunG) (hid : Int → Bool) : Prop where
  top : w.heap[r]? = some (.cells #[rs, .map (some wb), .map (some hb), .int .i64 (cnt hid (flat G))] 49 (0, 0))
  runs : w.ownsRow 0 50 1 rs G.length (G.map fun g => ptr g.b)
  run : ∀ g ∈ G, w.heap[g.b]? = some (.cells #[g.sl, .int .i64 (cnt hid g.ks)] 52 (0, 0)) ∧ w.ownsRow 0 3 1 g.sl g.ks.length (ints g.ks)
  wh : MapIs w wb encI (whereF G) (flat G).length
  hd : MapIs w hb encI (hideF (flat G) hid) (flat G).length
  nodup : (flat G).Nodup
  apart : (foot r wb hb rs G).Nodup
  ne : ∀ g ∈ G, g.ks ≠ []
  short : ∀ g ∈ G, g.ks.length ≤ 33
/-- a rope of the items L, its blocks among F -/
def Rope (w : World) (r : Nat) (L : List Int) (hid : Int → Bool) (F : Nat → Prop) : Prop :=
  L.length < 4294967296 ∧ ∃ wb hb rs G, RopeAt w r wb hb rs G hid ∧ flat G = L ∧ (∀ x ∈ foot r wb hb rs G, F x) ∧ ∀ g ∈ G, g.ks.length ≤ 32
def offs (G : List RunG) (k : Nat) : Nat := ((G.take k).map (·.ks.length)).sum
theorem offs_zero (G : List RunG) : offs G 0 = 0 := by simp [offs]
theorem offs_succ (G : List RunG) (k : Nat) (h : k < G.length) : offs G (k + 1) = offs G k + G[k].ks.length := by
  unfold offs
  rw [List.take_succ_eq_append_getElem h, List.map_append, List.sum_append]
  rfl
theorem flat_length (G : List RunG) : (flat G).length = offs G G.length := by
  unfold flat offs; simp [List.length_flatMap]
theorem offs_le (G : List RunG) (k : Nat) : offs G k ≤ (flat G).length := by
  have e : (flat G).length = ((G.take k ++ G.drop k).map (·.ks.length)).sum := by
    rw [List.take_append_drop]; unfold flat; rw [List.length_flatMap]
  rw [e, List.map_append, List.sum_append]
  unfold offs
  omega
theorem len_le_flat {w : World} {r wb hb : Nat} {rs : Value} {G : List RunG} {hid : Int → Bool} (h : ∀ g ∈ G, g.ks ≠ []) : G.length ≤ (flat G).length := by
  unfold flat
  rw [List.length_flatMap]
  clear w r wb hb rs hid
  induction G with
  | nil => simp
  | cons g G ih =>
    have h1 := List.length_pos_iff.2 (h g (by simp))
    have h2 := ih (fun x hx => h x (by simp [hx]))
    simp at h2 ⊢
    omega
/-- the slice of the runs -/
theorem runs_form {w : World} {r wb hb : Nat} {rs : Value} {G : List RunG} {hid : Int → Bool} (h : RopeAt w r wb hb rs G hid) (hG : 0 < G.length) :
    ∃ B cap, rs = .slice (some ⟨B, 0, none⟩) G.length cap ∧ ∀ k (hk : k < G.length), w.cell? ⟨B, k, none⟩ = some (ptr G[k].b) := by
  rcases h.runs.2 with ⟨_, h0⟩ | ⟨B, cap, cur, rfl, _, hb, hnc, hc, hs, ht⟩
  · omega
  · refine ⟨B, cap, rfl, fun k hk => ?_⟩
    rw [blk_cell hb, ← Array.getElem?_toList]
    have : (G.map fun g => ptr g.b)[k]? = some (ptr G[k].b) := by rw [List.getElem?_map, List.getElem?_eq_getElem hk]; rfl
    rw [← ht, List.getElem?_take] at this
    split at this
    · exact this
    · cases this
theorem items_form {w : World} {r wb hb : Nat} {rs : Value} {G : List RunG} {hid : Int → Bool} (h : RopeAt w r wb hb rs G hid) (g : RunG) (hg : g ∈ G) :
    ∃ A cap, g.sl = .slice (some ⟨A, 0, none⟩) g.ks.length cap ∧ g.ks.length ≤ cap ∧ cap ≤ maxLen ∧ ∀ k (hk : k < g.ks.length), w.cell? ⟨A, k, none⟩ = some (.int .i64 g.ks[k]) := by
  have hne := List.length_pos_iff.2 (h.ne g hg)
  rcases (h.run g hg).2.2 with ⟨_, h0⟩ | ⟨A, cap, cur, he, _, hb, hnc, hc, hs, ht⟩
  · omega
  · refine ⟨A, cap, he, hnc, hc, fun k hk => ?_⟩
    rw [blk_cell hb, ← Array.getElem?_toList]
    have : (ints g.ks)[k]? = some (.int .i64 g.ks[k]) := by unfold ints; rw [List.getElem?_map, List.getElem?_eq_getElem hk]; rfl
    rw [← ht, List.getElem?_take] at this
    split at this
    · exact this
    · cases this

theorem len_any (w : World) (r : Nat) (L : List Int) (hid : Int → Bool) (F : Nat → Prop) (h : Rope w r L hid F) : Calls Try.prog 25 #[ptr r] w fun e w' => e = .returned (.int .i64 L.length) ∧ w = w' := by
  obtain ⟨hL, wb, hb, rs, G, hR, rfl, hF⟩ := h
  have hl := fun ty => hR.wh.len (P := Try.prog) (t := 45) Try.underlying45 ty
  have e1 := blk_cell hR.top 1
  have f1 := blk_free hR.top 1
  clear hR hL
  go_enter Try.func25, Try.ntmps25
  go_wp2
  go_ret
  exact ⟨rfl, rfl⟩
theorem count_any (w : World) (r : Nat) (L : List Int) (hid : Int → Bool) (F : Nat → Prop) (h : Rope w r L hid F) : Calls Try.prog 13 #[ptr r] w fun e w' => e = .returned (.int .i64 (cnt hid L)) ∧ w = w' := by
  obtain ⟨hL, wb, hb, rs, G, hR, rfl, hF⟩ := h
  have e1 := blk_cell hR.top 3
  have f1 := blk_free hR.top 3
  clear hR hL
  go_enter Try.func13, Try.ntmps13
  go_wp2
  go_ret
  exact ⟨rfl, rfl⟩
end Go.Proofs.Ytfmmgijffneodaa
