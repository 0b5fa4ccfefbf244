/- THE DOCUMENT's TEXT IN MEMORY: a list of items; Find. -/
import Derived.Test.YtohpablkgfkelaaFRefP
import Derived.Test.YtohpablkgfkelaaFApp
import Derived.Test.YtohpablkgfkelaaFEls
namespace Go.Proofs.Ytohpablkgfkelaa
open Go.RowKit Go.Joins
set_option linter.unusedSimpArgs false
set_option linter.unusedVariables false

def itC (a : It) : List Value := [.int .i64 a.e.k.1, .int .i64 a.e.k.2, .int .i64 a.e.c, .bool a.e.g, .int .i64 a.par.1, .int .i64 a.par.2, .int .i64 a.side]
def itL (l : List It) : List Value := l.flatMap itC
abbrev itV (a : It) : Value := .agg #[.int .i64 a.e.k.1, .int .i64 a.e.k.2, .int .i64 a.e.c, .bool a.e.g, .int .i64 a.par.1, .int .i64 a.par.2, .int .i64 a.side]
theorem itL_length (l : List It) : (itL l).length = l.length * 7 := by
  induction l with
  | nil => rfl
  | cons x l ih => unfold itL at *; rw [List.flatMap_cons, List.length_append, ih]; simp [itC]; omega
theorem itL_append (a b : List It) : itL (a ++ b) = itL a ++ itL b := by simp [itL]
theorem itC_one (x : It) : ∀ v ∈ itC x, v.oneCell' = true := by
  intro v hv
  simp only [itC, List.mem_cons, List.not_mem_nil, or_false] at hv
  rcases hv with rfl | rfl | rfl | rfl | rfl | rfl | rfl <;> rfl
theorem itL_get : ∀ (l : List It) (i : Nat) (a : It) (j : Nat) (v : Value), l[i]? = some a → (itC a)[j]? = some v → (itL l)[i * 7 + j]? = some v
  | [], i, a, j, v, h, _ => by simp at h
  | x :: l, 0, a, j, v, h, hv => by
    simp at h
    subst h
    have hj : j < 7 := (List.getElem?_eq_some_iff.1 hv).1
    unfold itL
    rw [List.flatMap_cons, Nat.zero_mul, Nat.zero_add, List.getElem?_append_left (by simpa [itC] using hj)]
    exact hv
  | x :: l, i + 1, a, j, v, h, hv => by
    have ih := itL_get l i a j v (by simpa using h) hv
    unfold itL at *
    rw [List.flatMap_cons, List.getElem?_append_right (by simp [itC]; omega), ← ih]
    congr 1
    simp [itC]
    omega
def ItsAt (w : World) (ao : Option Addr) (L : List It) : Prop := ∀ (i : Nat) (x : It), L[i]? = some x → ∃ b, ao = some ⟨b, 0, none⟩ ∧ b < w.heap.size ∧ ∀ (j : Nat) (v : Value), (itC x)[j]? = some v → w.cell? ⟨b, i * 7 + j, none⟩ = some v
theorem ItsAt.below {w w' : World} {ao : Option Addr} {L : List It} (h : ItsAt w ao L) (b : Below w.heap.size w w') : ItsAt w' ao L := fun i x hi => by
  obtain ⟨b0, e, hb, hc⟩ := h i x hi
  exact ⟨b0, e, Nat.lt_of_lt_of_le hb b.size, fun j v hv => (b.cell (p := ⟨b0, i * 7 + j, none⟩) hb).trans (hc j v hv)⟩
def RowIt (w : World) (base : Nat) (v : Value) (l : List It) : Prop := w.ownsRow base 92 7 v l.length (itL l)
theorem RowIt.form {w : World} {base : Nat} {v : Value} {l : List It} (h : RowIt w base v l) : ∃ ao cap, v = .slice ao l.length cap ∧ ItsAt w ao l ∧ l.length ≤ cap ∧ cap ≤ maxLen ∧ ∀ b, v.ownBlock = some b → ∃ cur, ao = some ⟨b, 0, none⟩ ∧ base ≤ b ∧ w.heap[b]? = some (.cells cur 92 (0, 0)) ∧ l.length * 7 ≤ cur.size ∧ cur.toList.take (l.length * 7) = itL l ∧ cur.size = cap * 7 := by
  rcases h.2 with ⟨rfl, h0⟩ | ⟨A, cap, cur, he, hbase, hb, hnc, hc, hs, ht⟩
  · have hl := List.length_eq_zero_iff.1 h0
    subst hl
    exact ⟨none, 0, rfl, fun i o h => (by simp at h), Nat.le_refl _, Nat.zero_le _, fun b hb => (by cases hb)⟩
  · refine ⟨some ⟨A, 0, none⟩, cap, he, fun i o hi => ⟨A, rfl, heap_lt hb, fun j v hv => ?_⟩, hnc, hc, fun b hb' => ?_⟩
    · have hil := (List.getElem?_eq_some_iff.1 hi).1
      have hj : j < 7 := (List.getElem?_eq_some_iff.1 hv).1
      have h1 := itL_get l i o j v hi hv
      rw [← ht, List.getElem?_take, if_pos (by omega), Array.getElem?_toList] at h1
      rw [blk_cell hb]
      exact h1
    · subst he
      obtain rfl : A = b := by simpa [Value.ownBlock] using hb'
      exact ⟨cur, rfl, hbase, hb, by omega, ht, hs⟩
theorem RowIt.at {w : World} {base : Nat} {ao : Option Addr} {n cap : Nat} {l : List It} (h : RowIt w base (.slice ao n cap) l) : ItsAt w ao l := by
  obtain ⟨ao', cap', e, hM, _⟩ := h.form
  cases e
  exact hM
theorem RowIt.ch {F : Nat → Prop} {w w' : World} {base : Nat} {v : Value} {l : List It} (h : RowIt w base v l) (c : Ch F w w') (hd : ∀ b, v.ownBlock = some b → ¬ F b) : RowIt w' base v l := own_ch h c hd
theorem RowIt.later {w w' : World} {base : Nat} {v : Value} {l : List It} (h : RowIt w base v l) (b : Below w.heap.size w w') : RowIt w' base v l := own_ch h (Ch.of_below (F := fun _ => False) b) (fun _ _ h => h)
theorem infoIt : (Try.prog.info? 92).map (fun i => (i.zero, i.size, i.bytes)) = some (some (.agg #[.int .i64 0, .int .i64 0, .int .i64 0, .bool false, .int .i64 0, .int .i64 0, .int .i64 0]), 7, 56) := by kernel_rfl
/-- the document's text: its box at m, its blocks among F -/
def RefM (w : World) (m : Nat) (I : List It) (F : Nat → Prop) : Prop :=
  ∃ v, w.heap[m]? = some (.cells #[v] 59 (0, 0)) ∧ RowIt w 0 v I ∧ v.ownBlock ≠ some m ∧ F m ∧ ∀ b, v.ownBlock = some b → F b
theorem RefM.ch {w w' : World} {m : Nat} {I : List It} {F G : Nat → Prop} (h : RefM w m I F) (c : Ch G w w') (hG : ∀ x, F x → ¬ G x) : RefM w' m I F := by
  obtain ⟨v, h1, h2, h3, h4, h5⟩ := h
  exact ⟨v, c.at h1 (hG _ h4), h2.ch c (fun b hb => hG _ (h5 b hb)), h3, h4, h5⟩
theorem RefM.later {w w' : World} {m : Nat} {I : List It} {F : Nat → Prop} (h : RefM w m I F) (b : Below w.heap.size w w') : RefM w' m I F := h.ch (Ch.of_below (F := fun _ => False) b) (fun _ _ => id)
theorem RefM.mono {w : World} {m : Nat} {I : List It} {F G : Nat → Prop} (h : RefM w m I F) (hG : ∀ x, F x → G x) : RefM w m I G := by
  obtain ⟨v, h1, h2, h3, h4, h5⟩ := h
  exact ⟨v, h1, h2, h3, hG _ h4, fun b hb => hG _ (h5 b hb)⟩
theorem RefM.bnd {w : World} {m : Nat} {I : List It} {F : Nat → Prop} (h : RefM w m I F) : RefM w m I (fun x => F x ∧ x < w.heap.size) := by
  obtain ⟨v, h1, h2, h3, h4, h5⟩ := h
  exact ⟨v, h1, h2, h3, ⟨h4, heap_lt h1⟩, fun b hb => ⟨h5 b hb, (World.ownsRow.lt h2 b hb).2⟩⟩
/-- the row in the box -/
theorem RefM.row {w : World} {m : Nat} {I : List It} {F : Nat → Prop} (h : RefM w m I F) : ∃ ao cap, w.heap[m]? = some (.cells #[.slice ao I.length cap] 59 (0, 0)) ∧ ItsAt w ao I := by
  obtain ⟨v, h1, h2, -⟩ := h
  obtain ⟨ao, cap, rfl, h3, -⟩ := h2.form
  exact ⟨ao, cap, h1, h3⟩
/-- where an item stands, or -1 -/
def findI (L : List It) (k : St) : Int := if k ∈ L.map (·.e.k) then ((L.map (·.e.k)).idxOf k : Nat) else -1
set_option maxHeartbeats 4000000 in
set_option maxRecDepth 20000 in
theorem find_it (w : World) (m : Nat) (L : List It) (F : Nat → Prop) (h : RefM w m L F) (hl : L.length < 4294967296) (k : St) :
    Calls Try.prog 45 #[ptr m, encS k] w fun e w' => e = .returned (.int .i64 (findI L k)) ∧ Below w.heap.size w w' := by
  obtain ⟨ao, cap, hm, hA⟩ := h.row
  have HA := Lib.hid hA
  have HM := Lib.hid hm
  clear h hA hm
  have hgs := run_stGuard
  go_enter Try.func45, Try.ntmps45
  go_wp2
  go_loopw [5] (fun i w' => ∃ q : Nat, i = .int .i64 q ∧ q ≤ L.length ∧ Hid (k ∉ (L.take q).map (·.e.k)) ∧ Aside (KB w k w.heap.size w')) (fun i _ => L.length - (intOf i).toNat)
  case atStart => exact ⟨0, rfl, by omega, Lib.hid (by simp), KB.new w k⟩
  case round =>
    obtain ⟨q, rfl, hq, hnk, HX⟩ := hrel
    have m0 := blk_cell ((HX.out.b.block _ (heap_lt HM.out)).trans HM.out) 0
    have m1 := blk_free ((HX.out.b.block _ (heap_lt HM.out)).trans HM.out) 0
    have m2 := blk_cell ((HX.out.drew.b.block _ (heap_lt HM.out)).trans HM.out) 0
    have m3 := blk_free ((HX.out.drew.b.block _ (heap_lt HM.out)).trans HM.out) 0
    by_cases hql : q < L.length
    · obtain ⟨x, hx⟩ : ∃ x, L[q]? = some x := ⟨_, List.getElem?_eq_getElem hql⟩
      obtain ⟨B1, rfl, -, c1⟩ := HA.out.below HX.out.drew.b q x hx
      have d0 := c1 0 _ rfl
      have d1 := c1 1 _ rfl
      simp only [Nat.add_zero] at d0
      have k0 := HX.out.drew.c0
      have k1 := HX.out.drew.c1
      have T1 := Lib.hid (show L.take (q + 1) = L.take q ++ [x] by rw [List.take_add_one, hx]; rfl)
      have HS := Lib.hid (show L = L.take q ++ x :: L.drop (q + 1) by
        obtain ⟨h1, h2⟩ := List.getElem?_eq_some_iff.1 hx
        rw [← h2, ← List.drop_eq_getElem_cons h1, List.take_append_drop])
      have b0 : (0 : Int) ≤ (q : Int) := by omega
      have b1 : (q : Int) < (L.length : Int) := by omega
      clear c1 hx
      by_cases hxk : x.e.k = k
      · have heq := fun w => st_eq (a := x.e.k) (b := k) (decide_eq_true hxk) w
        have HXK := Lib.hid hxk
        have hv : findI L k = q := by
          have hm : L.map (·.e.k) = (L.take q).map (·.e.k) ++ k :: (L.drop (q + 1)).map (·.e.k) := by
            conv => lhs; rw [HS.out]
            rw [List.map_append, List.map_cons, HXK.out]
          unfold findI
          rw [hm, if_pos (by simp), List.idxOf_append, if_neg hnk.out]
          simp
          omega
        have HV := Lib.hid hv
        clear hxk hv
        go_wp2
        go_region
        go_wp2
        go_ret
        exact ⟨congrArg (fun n : Int => Ending.returned (.int .i64 n)) HV.out.symm, HX.out.drew.b⟩
      · have heq := fun w => st_eq (a := x.e.k) (b := k) (decide_eq_false hxk) w
        have HXK := Lib.hid hxk
        clear hxk
        go_wp2
        go_region
        go_wp2
        go_roundw
        case rel => exact ⟨q + 1, by go_num, by omega, Lib.hid (by rw [T1.out, List.map_append, List.mem_append]; rintro (h | h); exact hnk.out h; simp at h; exact HXK.out h.symm), HX.out.drew⟩
        case measure => simp [intOf]; omega
    · obtain rfl : q = L.length := by omega
      have hv : findI L k = -1 := by
        have := hnk.out
        rw [List.take_length] at this
        unfold findI
        rw [if_neg this]
      have HV := Lib.hid hv
      clear hv
      go_wp2
      go_ret
      exact ⟨congrArg (fun n : Int => Ending.returned (.int .i64 n)) HV.out.symm, HX.out.b⟩
end Go.Proofs.Ytohpablkgfkelaa
