/- A ROPE IN MEMORY: what it is, and what the functions that only read it answer. -/
import Derived.Test.YtohpablkgfkelaaSKey
import Derived.Test.YtohpablkgfkelaaRow
import Derived.BigGuard
import Derived.WalkSpells
namespace Go.Proofs.Ytohpablkgfkelaa
open Go.RowKit Go.Joins
set_option linter.unusedSimpArgs false
set_option linter.unusedVariables false

/-- a stamp -/
abbrev St := Int × Int
/-- a run: its block, its slice, its items -/
structure RunG where
  b : Nat
  sl : Value
  ks : List St
abbrev ptr (b : Nat) : Value := .pointer (some ⟨b, 0, none⟩)
def flat (G : List RunG) : List St := G.flatMap (·.ks)
/-- how many are shown -/
def cnt (hid : St → Bool) (ks : List St) : Nat := (ks.filter fun k => !hid k).length
def whereF (G : List RunG) (k : St) : Option Value := (G.find? fun g => g.ks.contains k).map fun g => ptr g.b
def hideF (L : List St) (hid : St → Bool) (k : St) : Option Value := if k ∈ L then some (.bool (hid k)) else none
def foot (r wb hb : Nat) (rs : Value) (G : List RunG) : List Nat := r :: wb :: hb :: (rs.ownBlock.toList ++ G.flatMap fun g => g.b :: g.sl.ownBlock.toList)
def stL (ks : List St) : List Value := ks.flatMap fun k => [.int .i64 k.1, .int .i64 k.2]
theorem stL_length (ks : List St) : (stL ks).length = ks.length * 2 := by
  induction ks with
  | nil => rfl
  | cons k ks ih => unfold stL at *; rw [List.flatMap_cons, List.length_append, ih]; simp; omega
theorem stL_append (a b : List St) : stL (a ++ b) = stL a ++ stL b := by simp [stL]
theorem stL_get : ∀ (ks : List St) (i : Nat) (k : St), ks[i]? = some k → (stL ks)[i * 2]? = some (.int .i64 k.1) ∧ (stL ks)[i * 2 + 1]? = some (.int .i64 k.2)
  | [], i, k, h => by simp at h
  | x :: ks, 0, k, h => by simp at h; subst h; exact ⟨rfl, rfl⟩
  | x :: ks, i + 1, k, h => by
    have := stL_get ks i k (by simpa using h)
    rw [show (i + 1) * 2 = i * 2 + 1 + 1 by omega]
    exact this
theorem stL_one (ks : List St) : ∀ v ∈ stL ks, v.oneCell' = true := by
  intro v hv
  obtain ⟨k, _, hv⟩ := List.mem_flatMap.1 hv
  simp at hv
  rcases hv with rfl | rfl <;> rfl
structure RopeAt (w : World) (r wb hb : Nat) (rs : Value) (G : List RunG) (hid : St → Bool) : Prop where
  top : w.heap[r]? = some (.cells #[rs, .map (some wb), .map (some hb), .int .i64 (cnt hid (flat G))] 98 (0, 0))
  runs : w.ownsRow 0 101 1 rs G.length (G.map fun g => ptr g.b)
  run : ∀ g ∈ G, w.heap[g.b]? = some (.cells #[g.sl, .int .i64 (cnt hid g.ks)] 103 (0, 0)) ∧ w.ownsRow 0 30 2 g.sl g.ks.length (stL g.ks)
  wh : MapIs w wb encS (whereF G) (flat G).length
  hd : MapIs w hb encS (hideF (flat G) hid) (flat G).length
  nodup : (flat G).Nodup
  apart : (foot r wb hb rs G).Nodup
  ne : ∀ g ∈ G, g.ks ≠ []
  short : ∀ g ∈ G, g.ks.length ≤ 33
/-- a rope of the items L, its blocks among F -/
def Rope (w : World) (r : Nat) (L : List St) (hid : St → Bool) (F : Nat → Prop) : Prop :=
  L.length < 4294967296 ∧ ∃ wb hb rs G, RopeAt w r wb hb rs G hid ∧ flat G = L ∧ (∀ x ∈ foot r wb hb rs G, F x) ∧ ∀ g ∈ G, g.ks.length ≤ 32
def offs (G : List RunG) (k : Nat) : Nat := ((G.take k).map (·.ks.length)).sum
theorem offs_zero (G : List RunG) : offs G 0 = 0 := by simp [offs]
theorem offs_succ (G : List RunG) (k : Nat) (h : k < G.length) : offs G (k + 1) = offs G k + G[k].ks.length := by
  unfold offs
  rw [List.take_succ_eq_append_getElem h, List.map_append, List.sum_append]
  rfl
theorem flat_length (G : List RunG) : (flat G).length = offs G G.length := by
  unfold flat offs; simp [List.length_flatMap]
theorem offs_le (G : List RunG) (k : Nat) : offs G k ≤ (flat G).length := by
  have e : (flat G).length = ((G.take k ++ G.drop k).map (·.ks.length)).sum := by
    rw [List.take_append_drop]; unfold flat; rw [List.length_flatMap]
  rw [e, List.map_append, List.sum_append]
  unfold offs
  omega
theorem len_le_flat {w : World} {r wb hb : Nat} {rs : Value} {G : List RunG} {hid : St → Bool} (h : ∀ g ∈ G, g.ks ≠ []) : G.length ≤ (flat G).length := by
  unfold flat
  rw [List.length_flatMap]
  clear w r wb hb rs hid
  induction G with
  | nil => simp
  | cons g G ih =>
    have h1 := List.length_pos_iff.2 (h g (by simp))
    have h2 := ih (fun x hx => h x (by simp [hx]))
    simp at h2 ⊢
    omega
theorem own_below {w w' : World} {base : Nat} {e : TypeId} {size : Nat} {v : Value} {n : Nat} {xs : List Value} (h : w.ownsRow base e size v n xs) (b : Below w.heap.size w w') : w'.ownsRow base e size v n xs := by
  refine ⟨h.1, ?_⟩
  rcases h.2 with h | ⟨B, cap, cur, h1, h2, h3, h4⟩
  · exact .inl h
  · exact .inr ⟨B, cap, cur, h1, h2, (b.block _ (heap_lt h3)).trans h3, h4⟩
/-- the slice of the runs -/
theorem runs_form {w : World} {r wb hb : Nat} {rs : Value} {G : List RunG} {hid : St → Bool} (h : RopeAt w r wb hb rs G hid) (hG : 0 < G.length) :
    ∃ B cap, rs = .slice (some ⟨B, 0, none⟩) G.length cap ∧ ∀ k (hk : k < G.length), w.cell? ⟨B, k, none⟩ = some (ptr G[k].b) := by
  rcases h.runs.2 with ⟨_, h0⟩ | ⟨B, cap, cur, rfl, _, hb, hnc, hc, hs, ht⟩
  · omega
  · refine ⟨B, cap, rfl, fun k hk => ?_⟩
    rw [blk_cell hb, ← Array.getElem?_toList]
    have : (G.map fun g => ptr g.b)[k]? = some (ptr G[k].b) := by rw [List.getElem?_map, List.getElem?_eq_getElem hk]; rfl
    rw [← ht, List.getElem?_take] at this
    split at this
    · exact this
    · cases this
theorem items_form {w : World} {r wb hb : Nat} {rs : Value} {G : List RunG} {hid : St → Bool} (h : RopeAt w r wb hb rs G hid) (g : RunG) (hg : g ∈ G) :
    ∃ A cap, g.sl = .slice (some ⟨A, 0, none⟩) g.ks.length cap ∧ g.ks.length ≤ cap ∧ cap ≤ maxLen ∧ ∀ (k : Nat) (x : St), g.ks[k]? = some x → w.cell? ⟨A, k * 2, none⟩ = some (.int .i64 x.1) ∧ w.cell? ⟨A, k * 2 + 1, none⟩ = some (.int .i64 x.2) := by
  have hne := List.length_pos_iff.2 (h.ne g hg)
  rcases (h.run g hg).2.2 with ⟨_, h0⟩ | ⟨A, cap, cur, he, _, hb, hnc, hc, hs, ht⟩
  · omega
  · refine ⟨A, cap, he, hnc, hc, fun k x hk => ?_⟩
    have hkl := (List.getElem?_eq_some_iff.1 hk).1
    obtain ⟨h1, h2⟩ := stL_get g.ks k x hk
    rw [← ht, List.getElem?_take, if_pos (by omega), Array.getElem?_toList] at h1 h2
    rw [blk_cell hb, blk_cell hb]
    exact ⟨h1, h2⟩
/-- behind whatever only makes memory it stands -/
theorem RopeAt.later {w w' : World} {r wb hb : Nat} {rs : Value} {G : List RunG} {hid : St → Bool} (h : RopeAt w r wb hb rs G hid) (b : Below w.heap.size w w') : RopeAt w' r wb hb rs G hid where
  top := (b.block _ (heap_lt h.top)).trans h.top
  runs := own_below h.runs b
  run := fun g hg => ⟨(b.block _ (heap_lt (h.run g hg).1)).trans (h.run g hg).1, own_below (h.run g hg).2 b⟩
  wh := h.wh.at (b.block _ h.wh.lt)
  hd := h.hd.at (b.block _ h.hd.lt)
  nodup := h.nodup
  apart := h.apart
  ne := h.ne
  short := h.short
theorem Rope.later {w w' : World} {r : Nat} {L : List St} {hid : St → Bool} {F : Nat → Prop} (h : Rope w r L hid F) (b : Below w.heap.size w w') : Rope w' r L hid F := by
  obtain ⟨hL, wb, hb, rs, G, hR, hf, hF⟩ := h
  exact ⟨hL, wb, hb, rs, G, hR.later b, hf, hF⟩
theorem len_any (w : World) (r : Nat) (L : List St) (hid : St → Bool) (F : Nat → Prop) (h : Rope w r L hid F) : Calls Try.prog 52 #[ptr r] w fun e w' => e = .returned (.int .i64 L.length) ∧ w = w' := by
  obtain ⟨hL, wb, hb, rs, G, hR, rfl, hF⟩ := h
  have hl := fun ty => hR.wh.len (P := Try.prog) (t := 95) Try.underlying95 ty
  have e1 := blk_cell hR.top 1
  have f1 := blk_free hR.top 1
  clear hR hL
  go_enter Try.func52, Try.ntmps52
  go_wp2
  go_ret
  exact ⟨rfl, rfl⟩
theorem count_any (w : World) (r : Nat) (L : List St) (hid : St → Bool) (F : Nat → Prop) (h : Rope w r L hid F) : Calls Try.prog 42 #[ptr r] w fun e w' => e = .returned (.int .i64 (cnt hid L)) ∧ w = w' := by
  obtain ⟨hL, wb, hb, rs, G, hR, rfl, hF⟩ := h
  have e1 := blk_cell hR.top 3
  have f1 := blk_free hR.top 3
  clear hR hL
  go_enter Try.func42, Try.ntmps42
  go_wp2
  go_ret
  exact ⟨rfl, rfl⟩
end Go.Proofs.Ytohpablkgfkelaa
