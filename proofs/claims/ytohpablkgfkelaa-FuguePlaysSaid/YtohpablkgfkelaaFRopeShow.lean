/- A ROPE IN MEMORY: New, Show. -/
import Derived.Test.YtohpablkgfkelaaFRopeAll
namespace Go.Proofs.Ytohpablkgfkelaa
open Go.RowKit Go.Joins
set_option linter.unusedSimpArgs false
set_option linter.unusedVariables false

def NewP (w : World) (e : Ending) (w' : World) : Prop := ∃ r, e = .returned (ptr r) ∧ (∀ hid, Rope w' r [] hid (fun x => w.heap.size ≤ x ∧ x < w'.heap.size)) ∧ Below w.heap.size w w'
theorem new_any (w : World) : Calls Try.prog 31 #[] w (NewP w) := by
  have hmm := @run_makeMap Try.prog
  go_enter Try.func31, Try.ntmps31
  go_wp2
  go_ret
  refine ⟨w.heap.size + 1 + 1, rfl, fun hid => ⟨by simp, w.heap.size, w.heap.size + 1, .slice none 0 0, [], ?_, rfl, ?_, fun g hg => (by cases hg)⟩, ?_⟩
  · have m1 := MapIs.made (K := St) w encS
    have m2 := MapIs.made (K := St) (w.alloc (.map #[] 0)) encS
    simp only [World.size_alloc] at m2
    refine ⟨?_, World.ownsRow_nil _ _ _ _, fun g hg => (by cases hg), ?_, ?_, by simp [flat], ?_, fun g hg => (by cases hg), fun g hg => (by cases hg)⟩
    · exact blk_at _ _ _ (by simp)
    · exact ((m1.at (Below.heap_alloc _ _ _ (by simp))).at (Below.heap_alloc _ _ _ (by simp; omega))).eqv (fun k => by simp [whereF])
    · exact (m2.at (Below.heap_alloc _ _ _ (by simp))).eqv (fun k => by simp [hideF, flat])
    · simp [foot, Value.ownBlock]
      omega
  · intro x hx
    simp [foot, Value.ownBlock] at hx
    simp
    omega
  · exact (((Below.refl _ _).alloc (Nat.le_refl _) _).alloc (by simp) _).alloc (by simp; omega) _
/-! ### its blocks are apart -/
theorem flat_apart {α : Type} (f : α → List Nat) : ∀ (G : List α), (G.flatMap f).Nodup → (∀ (i : Nat) (hi : i < G.length), (f G[i]).Nodup) ∧ ∀ (i j : Nat) (hi : i < G.length) (hj : j < G.length), i ≠ j → ∀ x ∈ f G[i], x ∉ f G[j]
  | [], _ => ⟨fun i hi => by simp at hi, fun i j hi => by simp at hi⟩
  | g :: G, h => by
    rw [List.flatMap_cons] at h
    obtain ⟨h1, h2, h3⟩ := List.nodup_append.1 h
    obtain ⟨i1, i2⟩ := flat_apart f G h2
    refine ⟨fun i hi => ?_, fun i j hi hj hne x hx hy => ?_⟩
    · cases i with
      | zero => exact h1
      | succ i => exact i1 i (by simpa using hi)
    · cases i with
      | zero =>
        cases j with
        | zero => exact hne rfl
        | succ j => exact h3 x (by simpa using hx) x (List.mem_flatMap.2 ⟨G[j]'(by simpa using hj), List.getElem_mem _, by simpa using hy⟩) rfl
      | succ i =>
        cases j with
        | zero => exact h3 x (by simpa using hy) x (List.mem_flatMap.2 ⟨G[i]'(by simpa using hi), List.getElem_mem _, by simpa using hx⟩) rfl
        | succ j => exact i2 i j (by simpa using hi) (by simpa using hj) (by omega) x (by simpa using hx) (by simpa using hy)
structure Apart (r wb hb : Nat) (rs : Value) (G : List RunG) : Prop where
  rw : r ≠ wb
  rh : r ≠ hb
  wh : wb ≠ hb
  rs : ∀ x, rs.ownBlock = some x → x ≠ r ∧ x ≠ wb ∧ x ≠ hb ∧ ∀ g ∈ G, x ≠ g.b ∧ g.sl.ownBlock ≠ some x
  run : ∀ g ∈ G, g.b ≠ r ∧ g.b ≠ wb ∧ g.b ≠ hb ∧ ∀ x, g.sl.ownBlock = some x → x ≠ r ∧ x ≠ wb ∧ x ≠ hb ∧ x ≠ g.b
  two : ∀ (i j : Nat) (hi : i < G.length) (hj : j < G.length), i ≠ j → G[i].b ≠ G[j].b ∧ G[i].sl.ownBlock ≠ some G[j].b ∧ ∀ x, G[i].sl.ownBlock = some x → G[j].sl.ownBlock ≠ some x
theorem apart_of {r wb hb : Nat} {rs : Value} {G : List RunG} (h : (foot r wb hb rs G).Nodup) : Apart r wb hb rs G := by
  unfold foot at h
  simp only [List.nodup_cons, List.mem_cons, List.mem_append, not_or] at h
  obtain ⟨⟨a1, a2, a3, a4⟩, ⟨b1, b2, b3⟩, ⟨c1, c2⟩, h⟩ := h
  obtain ⟨d1, d2, d3⟩ := List.nodup_append.1 h
  obtain ⟨e1, e2⟩ := flat_apart _ G d2
  have hm : ∀ g ∈ G, g.b ∈ G.flatMap fun g => g.b :: g.sl.ownBlock.toList := fun g hg => List.mem_flatMap.2 ⟨g, hg, by simp⟩
  have hs : ∀ g ∈ G, ∀ x, g.sl.ownBlock = some x → x ∈ G.flatMap fun g => g.b :: g.sl.ownBlock.toList := fun g hg x hx => List.mem_flatMap.2 ⟨g, hg, by simp [hx]⟩
  refine ⟨a1, a2, b1, fun x hx => ?_, fun g hg => ?_, fun i j hi hj hne => ?_⟩
  · have hx' : x ∈ rs.ownBlock.toList := by simp [hx]
    refine ⟨fun e => a3 (e ▸ hx'), fun e => b2 (e ▸ hx'), fun e => c1 (e ▸ hx'), fun g hg => ⟨d3 x hx' _ (hm g hg), fun e => d3 x hx' x (hs g hg x e) rfl⟩⟩
  · refine ⟨fun e => a4 (e ▸ hm g hg), fun e => b3 (e ▸ hm g hg), fun e => c2 (e ▸ hm g hg), fun x hx => ⟨fun e => a4 (e ▸ hs g hg x hx), fun e => b3 (e ▸ hs g hg x hx), fun e => c2 (e ▸ hs g hg x hx), fun e => ?_⟩⟩
    obtain ⟨i, hi, rfl⟩ := List.mem_iff_getElem.1 hg
    have := e1 i hi
    rw [hx] at this
    simp [e] at this
  · refine ⟨fun e => e2 i j hi hj hne G[i].b (by simp) (by simp [e]), fun e => e2 i j hi hj hne G[j].b (by simp [e]) (by simp), fun x hx hy => e2 i j hi hj hne x (by simp [hx]) (by simp [hy])⟩
def setH (hid : St → Bool) (k : St) (b : Bool) : St → Bool := fun x => if x = k then b else hid x
theorem cnt_other {hid : St → Bool} {k : St} {b : Bool} {ks : List St} (h : k ∉ ks) : cnt (setH hid k b) ks = cnt hid ks := by
  unfold cnt setH
  congr 1
  refine List.filter_congr fun x hx => ?_
  have hne : ¬ x = k := fun e => h (e ▸ hx)
  simp [hne]
theorem cnt_set {hid : St → Bool} {k : St} {b : Bool} : ∀ {ks : List St}, ks.Nodup → k ∈ ks → cnt (setH hid k b) ks + (if hid k then 0 else 1) = cnt hid ks + (if b then 0 else 1)
  | [], _, h => by cases h
  | x :: ks, hn, h => by
    have e : ∀ f : St → Bool, cnt f (x :: ks) = (if f x then 0 else 1) + cnt f ks := fun f => by
      rw [show x :: ks = [x] ++ ks from rfl, cnt_append, cnt_one]
    rw [e, e]
    simp only [List.nodup_cons] at hn
    by_cases hx : x = k
    · subst hx
      rw [cnt_other hn.1]
      have : setH hid x b x = b := by simp [setH]
      rw [this]; omega
    · have hk : k ∈ ks := by
        rcases List.mem_cons.1 h with rfl | h
        · exact absurd rfl hx
        · exact h
      have ih := cnt_set (hid := hid) (b := b) hn.2 hk
      have : setH hid k b x = hid x := by simp [setH, hx]
      rw [this]; omega
theorem hideF_set {L : List St} {hid : St → Bool} {k : St} {b : Bool} (hk : k ∈ L) (x : St) : upd (hideF L hid) k (.bool b) x = hideF L (setH hid k b) x := by
  unfold upd hideF setH
  by_cases hx : x = k
  · subst hx; simp [hk]
  · simp [hx]
/-- one item of run j is shown, or not any more -/
theorem RopeAt.show {w w' : World} {r wb hb : Nat} {rs : Value} {G : List RunG} {hid : St → Bool} (h : RopeAt w r wb hb rs G hid) {k : St} {b : Bool} {j : Nat} (hj : j < G.length) (hk : k ∈ G[j].ks)
    (ht : w'.heap[r]? = some (.cells #[rs, .map (some wb), .map (some hb), .int .i64 (cnt (setH hid k b) (flat G))] 98 (0, 0)))
    (hrun : w'.heap[G[j].b]? = some (.cells #[G[j].sl, .int .i64 (cnt (setH hid k b) G[j].ks)] 103 (0, 0)))
    (hm : MapIs w' hb encS (upd (hideF (flat G) hid) k (.bool b)) (flat G).length) (c : Ch (fun x => x = hb ∨ x = r ∨ x = G[j].b) w w') : RopeAt w' r wb hb rs G (setH hid k b) := by
  have A := apart_of h.apart
  have hg := List.getElem_mem hj
  have hkf : k ∈ flat G := List.mem_flatMap.2 ⟨G[j], hg, hk⟩
  refine ⟨ht, own_ch h.runs c (fun x hx e => ?_), fun g hgm => ?_, h.wh.ch c (fun e => ?_), hm.eqv (fun x => hideF_set hkf x), h.nodup, h.apart, h.ne, h.short⟩
  · obtain ⟨a1, a2, a3, a4⟩ := A.rs x hx
    rcases e with e | e | e
    · exact a3 e
    · exact a1 e
    · exact (a4 _ hg).1 e
  · obtain ⟨i, hi, rfl⟩ := List.mem_iff_getElem.1 hgm
    have hown : w'.ownsRow 0 30 2 G[i].sl G[i].ks.length (stL G[i].ks) := by
      refine own_ch (h.run _ hgm).2 c (fun x hx e => ?_)
      obtain ⟨_, _, _, a4⟩ := A.run _ hgm
      obtain ⟨b1, b2, b3, b4⟩ := a4 x hx
      rcases e with e | e | e
      · exact b3 e
      · exact b1 e
      · by_cases hij : i = j
        · subst hij; exact b4 e
        · exact (A.two i j hi hj hij).2.1 (by rw [hx, e])
    by_cases hij : i = j
    · subst hij; exact ⟨hrun, hown⟩
    · refine ⟨?_, hown⟩
      have hnk : k ∉ G[i].ks := fun hki => hij (run_unique h.nodup hi hj hki hk)
      rw [cnt_other hnk]
      refine c.at (h.run _ hgm).1 (fun e => ?_)
      obtain ⟨a1, a2, a3, _⟩ := A.run _ hgm
      rcases e with e | e | e
      · exact a3 e
      · exact a1 e
      · exact (A.two i j hi hj hij).1 e
  · rcases e with e | e | e
    · exact A.wh e
    · exact A.rw e.symm
    · exact (A.run _ hg).2.1 e.symm
theorem setH_same {hid : St → Bool} {k : St} {b : Bool} (h : hid k = b) : setH hid k b = hid := by
  funext x
  unfold setH
  split
  · rename_i e; rw [e, h]
  · rfl
def ShowP (r : Nat) (L : List St) (hid : St → Bool) (F : Nat → Prop) (v : Int) (w : World) (e : Ending) (w' : World) : Prop := e = .returned (.int .i64 v) ∧ Rope w' r L hid F ∧ Ch F w w'
set_option maxHeartbeats 1000000 in
theorem show_no (w : World) (r : Nat) (L : List St) (hid : St → Bool) (F : Nat → Prop) (h : Rope w r L hid F) (k : St) (s : Bool) (hk : k ∉ L) :
    Calls Try.prog 39 #[ptr r, encS k, .bool s] w (ShowP r L hid F 111 w) := by
  have H := Lib.hid h
  obtain ⟨hL, wb, hb, rs, G, hR, rfl, hF⟩ := h
  have HR := Lib.hid hR
  have HK := Lib.hid hk
  clear hR hk
  go_enter Try.func39, Try.ntmps39
  go_upto_region 3 with fail
  refine wp_let (KB w k w.heap.size) (KB.new w k) (fun x hx => ?_)
  have HX := Lib.hid hx
  have hR2 := HR.out.later hx.drew.b
  have hl := where_run hR2 k
  rw [whereF_none HK.out] at hl
  have e1 := blk_cell hR2.top 1
  have c0 := hx.drew.c0
  have c1 := hx.drew.c1
  clear hR2 hx
  go_region
  go_wp2
  go_ret
  exact ⟨rfl, H.out.later HX.out.drew.b, Ch.of_below HX.out.drew.b⟩
set_option maxHeartbeats 1000000 in
theorem show_same (w : World) (r : Nat) (L : List St) (hid : St → Bool) (F : Nat → Prop) (h : Rope w r L hid F) (k : St) (s : Bool) (hk : k ∈ L) (hs : hid k = !s) :
    Calls Try.prog 39 #[ptr r, encS k, .bool s] w (ShowP r L (setH hid k (!s)) F 0 w) := by
  rw [setH_same hs]
  have H := Lib.hid h
  obtain ⟨hL, wb, hb, rs, G, hR, rfl, hF⟩ := h
  obtain ⟨j, hj, hkj⟩ := mem_run hk
  have HR := Lib.hid hR
  have HK := Lib.hid hk
  have HKJ := Lib.hid hkj
  clear hR hk hkj
  go_enter Try.func39, Try.ntmps39
  go_upto_region 3 with fail
  refine wp_let (KB w k w.heap.size) (KB.new w k) (fun x hx => ?_)
  have HX := Lib.hid hx.drew
  have hR2 := HR.out.later hx.drew.b
  have hl := where_run hR2 k
  rw [whereF_some hR2.nodup hj HKJ.out] at hl
  have e1 := blk_cell hR2.top 1
  have c0 := hx.drew.c0
  have c1 := hx.drew.c1
  clear hR2 hx
  go_region
  clear hl e1 c0 c1
  generalize x.drew = x2 at *
  go_upto_region 6 with fail
  have HX := Lib.hid HX.out.drew
  have hR2 := HR.out.later HX.out.b
  have hl2 := hides_in hR2 k HK.out
  rw [hs] at hl2
  have e2 := blk_cell hR2.top 2
  have c0 := HX.out.c0
  have c1 := HX.out.c1
  clear hR2 hs
  cases s
  all_goals
    go_region
    go_wp2
    go_ret
    exact ⟨rfl, H.out.later HX.out.b, Ch.of_below HX.out.b⟩
theorem show_fin {w w1 : World} {r wb hb : Nat} {rs : Value} {G : List RunG} {hid : St → Bool} {L : List St} {F : Nat → Prop} (hL : L.length < 4294967296) (hR : RopeAt w r wb hb rs G hid) (hfl : flat G = L) (hF : (∀ x ∈ foot r wb hb rs G, F x) ∧ ∀ g ∈ G, g.ks.length ≤ 32) {k : St} {b : Bool} {j : Nat} (hj : j < G.length) (hk : k ∈ G[j].ks)
    (m1 : MapIs w1 hb encS (upd (hideF (flat G) hid) k (.bool b)) (more (hideF (flat G) hid) k (flat G).length)) (c1 : Ch (fun x => x = hb) w w1) (v1 v2 : Int)
    (h1 : v1 = (cnt (setH hid k b) G[j].ks : Nat)) (h2 : v2 = (cnt (setH hid k b) (flat G) : Nat)) :
    Rope ((w1.setCell ⟨G[j].b, 1, none⟩ (.int .i64 v1)).setCell ⟨r, 3, none⟩ (.int .i64 v2)) r L (setH hid k b) F ∧ Ch F w ((w1.setCell ⟨G[j].b, 1, none⟩ (.int .i64 v1)).setCell ⟨r, 3, none⟩ (.int .i64 v2)) := by
  have A := apart_of hR.apart
  have hg := List.getElem_mem hj
  obtain ⟨a1, a2, a3, a4⟩ := A.run _ hg
  have hkf : k ∈ flat G := List.mem_flatMap.2 ⟨G[j], hg, hk⟩
  have hmore : more (hideF (flat G) hid) k (flat G).length = (flat G).length := by unfold more hideF; rw [if_pos hkf]; rfl
  rw [hmore] at m1
  have c2 : Ch (fun x => x = hb ∨ x = r ∨ x = G[j].b) w ((w1.setCell ⟨G[j].b, 1, none⟩ (.int .i64 v1)).setCell ⟨r, 3, none⟩ (.int .i64 v2)) :=
    ((c1.mono (G := fun x => x = hb ∨ x = r ∨ x = G[j].b) (fun x _ e => Or.inl e)).setCell ⟨G[j].b, 1, none⟩ (.int .i64 v1) (fun _ => Or.inr (Or.inr rfl))).setCell ⟨r, 3, none⟩ (.int .i64 v2) (fun _ => Or.inr (Or.inl rfl))
  have t1 : w1.heap[r]? = _ := c1.at hR.top A.rh
  have t2 : w1.heap[G[j].b]? = _ := c1.at (hR.run _ hg).1 a3
  refine ⟨⟨hL, wb, hb, rs, G, hR.show hj hk ?_ ?_ ?_ c2, hfl, hF⟩, c2.mono (fun x _ e => ?_)⟩
  · have := blk_set (i := 3) (blk_other (p := ⟨G[j].b, 1, none⟩) (v := .int .i64 v1) t1 (fun e => a1 e.symm)) (.int .i64 v2)
    rw [this, h2]; rfl
  · have := blk_other (p := ⟨r, 3, none⟩) (v := .int .i64 v2) (blk_set (i := 1) t2 (.int .i64 v1)) a1
    rw [this, h1]; rfl
  · exact (m1.at (Below.heap_setCell _ _ _ _ (fun e => a3 e.symm))).at (Below.heap_setCell _ _ _ _ (fun e => A.rh e.symm))
  · refine hF.1 x ?_
    rcases e with e | e | e
    · rw [e]; simp [foot]
    · rw [e]; simp [foot]
    · rw [e]; exact (mem_foot_run hg).1
theorem show_close {w y z : World} {r : Nat} {L : List St} {hid : St → Bool} {F : Nat → Prop} {v : Int} (h : Rope z r L hid F ∧ Ch F y z) (hb : Below w.heap.size w y) : ShowP r L hid F v w (.returned (.int .i64 v)) z :=
  ⟨rfl, h.1, (Ch.of_below hb).trans h.2 (fun _ _ h => h)⟩
set_option maxHeartbeats 2000000 in
theorem show_turn (w : World) (r : Nat) (L : List St) (hid : St → Bool) (F : Nat → Prop) (h : Rope w r L hid F) (k : St) (s : Bool) (hk : k ∈ L) (hs : hid k = s) :
    Calls Try.prog 39 #[ptr r, encS k, .bool s] w (ShowP r L (setH hid k (!s)) F 0 w) := by
  obtain ⟨hL, wb, hb, rs, G, hR, rfl, hF⟩ := h
  obtain ⟨j, hj, hkj⟩ := mem_run hk
  have A := apart_of hR.apart
  have hg := List.getElem_mem hj
  obtain ⟨a1, a2, a3, a4⟩ := A.run _ hg
  have hnd : G[j].ks.Nodup := by
    have := hR.nodup
    rw [flat_at G j hj] at this
    exact (List.nodup_append.1 (List.nodup_append.1 this).2.1).1
  have c1 := cnt_set (hid := hid) (b := !s) hnd hkj
  have c2 := cnt_set (hid := hid) (b := !s) hR.nodup hk
  rw [hs] at c1 c2
  have hcl := cnt_le hid (flat G)
  have hcl2 := cnt_le hid G[j].ks
  have hcl3 : G[j].ks.length ≤ (flat G).length := by
    have h1 := offs_succ G j hj
    have h2 := offs_le G (j + 1)
    omega
  have HR := Lib.hid hR
  have HK := Lib.hid hk
  have HKJ := Lib.hid hkj
  have C1 := Lib.hid c1
  have C2 := Lib.hid c2
  have hrh := A.rh
  clear hR A hk hkj hnd c1 c2 a2 a4
  go_enter Try.func39, Try.ntmps39
  go_upto_region 3 with fail
  refine wp_let (KB w k w.heap.size) (KB.new w k) (fun x hx => ?_)
  have HX := Lib.hid hx.drew
  have hR2 := HR.out.later hx.drew.b
  have hl := where_run hR2 k
  rw [whereF_some hR2.nodup hj HKJ.out] at hl
  have e1 := blk_cell hR2.top 1
  have c0 := hx.drew.c0
  have c1 := hx.drew.c1
  clear hR2 hx
  go_region
  clear hl e1 c0 c1
  generalize x.drew = x2 at *
  go_upto_region 6 with fail
  have HX := Lib.hid HX.out.drew
  have hR2 := HR.out.later HX.out.b
  have hl2 := hides_in hR2 k HK.out
  rw [hs] at hl2
  have e2 := blk_cell hR2.top 2
  have c0 := HX.out.c0
  have c1 := HX.out.c1
  clear hR2
  cases s
  all_goals
    go_region
    clear hl2 e2 c0 c1
    generalize x2.drew = x3 at *
    go_upto_region 10 with fail
    have HX := Lib.hid HX.out.drew
    have HR3 := Lib.hid (HR.out.later HX.out.b)
    have e2 := blk_cell HR3.out.top 2
    have c0 := HX.out.c0
    have c1 := HX.out.c1
    obtain ⟨w1, hrun, m1, ch1, s1⟩ := HR3.out.hd.update keyS Try.underlying70 k (.bool (!(hid k)))
    rw [hs] at hrun m1
    simp only [Bool.not_true, Bool.not_false] at hrun m1
    have g0 := blk_cell (ch1.at (HR3.out.run _ hg).1 a3) 1
    have g1 := blk_free (ch1.at (HR3.out.run _ hg).1 a3) 1
    have g2 := blk_cell (ch1.at HR3.out.top hrh) 3
    have g3 := blk_free (ch1.at HR3.out.top hrh) 3
    have FIN := Lib.hid (fun v1 v2 => show_fin (w1 := w1) hL HR3.out rfl hF hj HKJ.out m1 ch1 v1 v2)
    have HB := Lib.hid HX.out.b
    clear m1 ch1 s1
    go_region
    clear hrun e2 c0 c1
    go_wp2
    go_ret
    refine show_close (FIN.out _ _ ?_ ?_) HB.out
    · have := C1.out
      simp at this ⊢; omega
    · have := C2.out
      simp at this ⊢; omega
def showH (L : List St) (hid : St → Bool) (k : St) (s : Bool) : St → Bool := if k ∈ L then setH hid k (!s) else hid
theorem show_any (w : World) (r : Nat) (L : List St) (hid : St → Bool) (F : Nat → Prop) (h : Rope w r L hid F) (k : St) (s : Bool) :
    Calls Try.prog 39 #[ptr r, encS k, .bool s] w (ShowP r L (showH L hid k s) F (itemE L k) w) := by
  unfold showH itemE
  by_cases hk : k ∈ L
  · rw [if_pos hk, if_pos hk]
    by_cases hs : hid k = s
    · exact show_turn w r L hid F h k s hk hs
    · exact show_same w r L hid F h k s hk (by cases s <;> cases hx : hid k <;> simp_all)
  · rw [if_neg hk, if_neg hk]
    exact show_no w r L hid F h k s hk
end Go.Proofs.Ytohpablkgfkelaa
