/- ROWS OF ELEMENTS: are two of them one; where does one stand. -/
import Derived.Test.YtohpablkgfkelaaFAlive
import Derived.Deep.DeepCutAuto
namespace Go.Proofs.Ytohpablkgfkelaa
open Go.RowKit Go.Joins
set_option linter.unusedSimpArgs false
set_option linter.unusedVariables false

def ElsAt (w : World) (ao : Option Addr) (L : List El) : Prop := ∀ (i : Nat) (x : El), L[i]? = some x → ∃ b, ao = some ⟨b, 0, none⟩ ∧ b < w.heap.size ∧ ∀ (j : Nat) (v : Value), (elC x)[j]? = some v → w.cell? ⟨b, i * 4 + j, none⟩ = some v
theorem ElsAt.below {w w' : World} {ao : Option Addr} {L : List El} (h : ElsAt w ao L) (b : Below w.heap.size w w') : ElsAt w' ao L := fun i x hi => by
  obtain ⟨b0, e, hb, hc⟩ := h i x hi
  exact ⟨b0, e, Nat.lt_of_lt_of_le hb b.size, fun j v hv => (b.cell (p := ⟨b0, i * 4 + j, none⟩) hb).trans (hc j v hv)⟩
theorem elL_get : ∀ (l : List El) (i : Nat) (a : El) (j : Nat) (v : Value), l[i]? = some a → (elC a)[j]? = some v → (elL l)[i * 4 + j]? = some v
  | [], i, a, j, v, h, _ => by simp at h
  | x :: l, 0, a, j, v, h, hv => by
    simp at h
    subst h
    have hj : j < 4 := (List.getElem?_eq_some_iff.1 hv).1
    unfold elL
    rw [List.flatMap_cons, Nat.zero_mul, Nat.zero_add, List.getElem?_append_left (by simpa [elC] using hj)]
    exact hv
  | x :: l, i + 1, a, j, v, h, hv => by
    have ih := elL_get l i a j v (by simpa using h) hv
    unfold elL at *
    rw [List.flatMap_cons, List.getElem?_append_right (by simp [elC]; omega), ← ih]
    congr 1
    simp [elC]
    omega
theorem RowEl.form {w : World} {base : Nat} {v : Value} {l : List El} (h : RowEl w base v l) : ∃ ao cap, v = .slice ao l.length cap ∧ ElsAt w ao l ∧ l.length ≤ cap ∧ cap ≤ maxLen := by
  rcases h.2 with ⟨rfl, h0⟩ | ⟨A, cap, cur, he, _, hb, hnc, hc, hs, ht⟩
  · have hl := List.length_eq_zero_iff.1 h0
    subst hl
    exact ⟨none, 0, rfl, fun i o h => (by simp at h), Nat.le_refl _, Nat.zero_le _⟩
  · refine ⟨some ⟨A, 0, none⟩, cap, he, fun i o hi => ⟨A, rfl, heap_lt hb, fun j v hv => ?_⟩, hnc, hc⟩
    have hil := (List.getElem?_eq_some_iff.1 hi).1
    have hj : j < 4 := (List.getElem?_eq_some_iff.1 hv).1
    have h1 := elL_get l i o j v hi hv
    rw [← ht, List.getElem?_take, if_pos (by omega), Array.getElem?_toList] at h1
    rw [blk_cell hb]
    exact h1
theorem RowEl.at {w : World} {base : Nat} {ao : Option Addr} {n cap : Nat} {l : List El} (h : RowEl w base (.slice ao n cap) l) : ElsAt w ao l := by
  obtain ⟨ao', cap', e, hM, _⟩ := h.form
  cases e
  exact hM
theorem eqEl_run (a b : El) (w : World) : (Op.equalIn 10000 44 (.agg #[.int .i64 a.k.1, .int .i64 a.k.2, .int .i64 a.c, .bool a.g]) (.agg #[.int .i64 b.k.1, .int .i64 b.k.2, .int .i64 b.c, .bool b.g])).run Try.prog w = .ok (decide (a = b)) w := by
  have key : ∀ (d : Nat) (a1 a2 a3 b1 b2 b3 : Int) (a4 b4 : Bool), (Op.equalIn (d + 3) 44 (.agg #[.int .i64 a1, .int .i64 a2, .int .i64 a3, .bool a4]) (.agg #[.int .i64 b1, .int .i64 b2, .int .i64 b3, .bool b4])).run Try.prog w = .ok (a1 == b1 && a2 == b2 && a3 == b3 && a4 == b4) w := fun d a1 a2 a3 b1 b2 b3 a4 b4 => by
    have h := eqS_run (P := Try.prog) (w := w) (d := d + 2) (t := 44) (xs := #[.int .i64 a1, .int .i64 a2, .int .i64 a3, .bool a4]) (ys := #[.int .i64 b1, .int .i64 b2, .int .i64 b3, .bool b4]) Try.underlying44 (by kernel_rfl) (bs := [a1 == b1 && a2 == b2, a3 == b3, a4 == b4])
      (.cons ⟨by decide, st a1 a2, st b1 b2, by kernel_rfl, by kernel_rfl, eqSt_run d a1 a2 b1 b2 w⟩ (.cons ⟨by decide, .int .i64 a3, .int .i64 b3, by kernel_rfl, by kernel_rfl, eqI_run Try.underlying3 a3 b3⟩ (.cons ⟨by decide, .bool a4, .bool b4, by kernel_rfl, by kernel_rfl, eqB_run Try.underlying4 a4 b4⟩ .nil)))
    simpa [Bool.and_assoc] using h
  obtain ⟨⟨a1, a2⟩, a3, a4⟩ := a
  obtain ⟨⟨b1, b2⟩, b3, b4⟩ := b
  refine (key 9997 a1 a2 a3 b1 b2 b3 a4 b4).trans ?_
  congr 1
  rw [Bool.eq_iff_iff]
  simp [El.mk.injEq, Prod.ext_iff, and_assoc]
theorem run_elGuard (xs ys : Array Value) (x y : Operand) (w : World) : (eqGuard .eql 44 x y (.agg xs) (.agg ys)).run Try.prog w = .ok () w := by kernel_rfl
theorem run_elGuardN (xs ys : Array Value) (x y : Operand) (w : World) : (eqGuard .neq 44 x y (.agg xs) (.agg ys)).run Try.prog w = .ok () w := by kernel_rfl
set_option maxHeartbeats 4000000 in
set_option maxRecDepth 20000 in
theorem same_any (w : World) (ao bo : Option Addr) (ca cb : Nat) (L M : List El) (hA : ElsAt w ao L) (hB : ElsAt w bo M) (hl : L.length < 4294967296) (hl2 : M.length < 4294967296) :
    Calls Try.prog 15 #[.slice ao L.length ca, .slice bo M.length cb] w fun e w' => e = .returned (.bool (decide (L = M))) ∧ Below w.heap.size w w' := by
  by_cases hn : L.length = M.length
  · have HA := Lib.hid hA
    have HB := Lib.hid hB
    clear hA hB
    have hgs := run_elGuardN
    go_enter Try.func15, Try.ntmps15
    go_wp2
    go_loopw [5] (fun i w' => ∃ k : Nat, i = .int .i64 k ∧ k ≤ L.length ∧ L.take k = M.take k ∧ Below w.heap.size w w') (fun i _ => L.length - (intOf i).toNat)
    case atStart => exact ⟨0, rfl, by omega, by simp, Below.refl _ _⟩
    case round =>
      obtain ⟨k, rfl, hk, htk, hbel⟩ := hrel
      by_cases hkl : k < L.length
      · obtain ⟨x, hx⟩ : ∃ x, L[k]? = some x := ⟨_, List.getElem?_eq_getElem hkl⟩
        obtain ⟨y, hy⟩ : ∃ y, M[k]? = some y := ⟨_, List.getElem?_eq_getElem (by omega)⟩
        obtain ⟨B1, rfl, -, c1⟩ := (HA.out.below hbel).below ((Below.refl _ _).drew) k x hx
        obtain ⟨B2, rfl, -, c2⟩ := (HB.out.below hbel).below ((Below.refl _ _).drew) k y hy
        have HT := Lib.hid htk
        have T1 := Lib.hid (show L.take (k + 1) = L.take k ++ [x] by rw [List.take_add_one, hx]; rfl)
        have T2 := Lib.hid (show M.take (k + 1) = M.take k ++ [y] by rw [List.take_add_one, hy]; rfl)
        have d0 := c1 0 _ rfl
        have d1 := c1 1 _ rfl
        have d2 := c1 2 _ rfl
        have d3 := c1 3 _ rfl
        have g0 := c2 0 _ rfl
        have g1 := c2 1 _ rfl
        have g2 := c2 2 _ rfl
        have g3 := c2 3 _ rfl
        simp only [Nat.add_zero] at d0 g0
        have HX := Lib.hid hx
        have HY := Lib.hid hy
        have HBE := Lib.hid hbel
        clear htk hx hy c1 c2 hbel
        have b0 : (0 : Int) ≤ (k : Int) := by omega
        have b1 : (k : Int) < (L.length : Int) := by omega
        have b2 : (k : Int) < (M.length : Int) := by omega
        by_cases hxy : x = y
        · have heq := fun w => (eqEl_run x y w).trans (by rw [decide_eq_true hxy])
          have HXY := Lib.hid hxy
          clear hxy
          go_wp2
          go_region
          go_wp2
          go_roundw
          case rel => exact ⟨k + 1, by go_num, by omega, by rw [T1.out, T2.out, HT.out, HXY.out], HBE.out.drew⟩
          case measure => simp [intOf]; omega
        · have hd : decide (L = M) = false := decide_eq_false (fun e => by
            subst e
            have h1 := HX.out
            rw [HY.out] at h1
            exact hxy (Option.some.inj h1).symm)
          have heq := fun w => (eqEl_run x y w).trans (by rw [decide_eq_false hxy])
          have HD := Lib.hid hd
          clear hxy hd
          go_wp2
          go_region
          go_wp2
          go_ret
          exact ⟨congrArg (fun b => Ending.returned (.bool b)) HD.out.symm, HBE.out.drew⟩
      · have hke : k = L.length := by omega
        have hd : decide (L = M) = true := decide_eq_true (by
          rw [hke, List.take_length, hn, List.take_length] at htk
          exact htk)
        have HD := Lib.hid hd
        clear hd htk
        go_wp2
        go_ret
        exact ⟨congrArg (fun b => Ending.returned (.bool b)) HD.out.symm, hbel⟩
  · have hd : decide (L = M) = false := decide_eq_false (fun e => hn (by rw [e]))
    have h1 : ((L.length : Int) != (M.length : Int)) = true := bne_iff_ne.2 (by omega)
    have h2 : ((L.length : Int) == (M.length : Int)) = false := beq_eq_false_iff_ne.2 (by omega)
    rw [hd]
    clear hn hd hA hB
    go_enter Try.func15, Try.ntmps15
    go_wp2
    go_ret
    exact ⟨rfl, Below.refl _ _⟩
/-- where an element stands, or -1 -/
def placeE (L : List El) (k : St) : Int := if k ∈ L.map (·.k) then ((L.map (·.k)).idxOf k : Nat) else -1
set_option maxHeartbeats 4000000 in
set_option maxRecDepth 20000 in
theorem placeR_any (w : World) (ao : Option Addr) (ca : Nat) (L : List El) (hA : ElsAt w ao L) (hl : L.length < 4294967296) (k : St) :
    Calls Try.prog 18 #[.slice ao L.length ca, encS k] w fun e w' => e = .returned (.int .i64 (placeE L k)) ∧ Below w.heap.size w w' := by
  have HA := Lib.hid hA
  clear hA
  have hgs := run_stGuard
  go_enter Try.func18, Try.ntmps18
  go_wp2
  go_loopw [5] (fun i w' => ∃ q : Nat, i = .int .i64 q ∧ q ≤ L.length ∧ Hid (k ∉ (L.take q).map (·.k)) ∧ Aside (KB w k w.heap.size w')) (fun i _ => L.length - (intOf i).toNat)
  case atStart => exact ⟨0, rfl, by omega, Lib.hid (by simp), KB.new w k⟩
  case round =>
    obtain ⟨q, rfl, hq, hnk, HX⟩ := hrel
    by_cases hql : q < L.length
    · obtain ⟨x, hx⟩ : ∃ x, L[q]? = some x := ⟨_, List.getElem?_eq_getElem hql⟩
      obtain ⟨B1, rfl, -, c1⟩ := HA.out.below HX.out.drew.b q x hx
      have d0 := c1 0 _ rfl
      have d1 := c1 1 _ rfl
      simp only [Nat.add_zero] at d0
      have k0 := HX.out.drew.c0
      have k1 := HX.out.drew.c1
      have T1 := Lib.hid (show L.take (q + 1) = L.take q ++ [x] by rw [List.take_add_one, hx]; rfl)
      have HS := Lib.hid (show L = L.take q ++ x :: L.drop (q + 1) by
        obtain ⟨h1, h2⟩ := List.getElem?_eq_some_iff.1 hx
        rw [← h2, ← List.drop_eq_getElem_cons h1, List.take_append_drop])
      have b0 : (0 : Int) ≤ (q : Int) := by omega
      have b1 : (q : Int) < (L.length : Int) := by omega
      clear c1 hx
      by_cases hxk : x.k = k
      · have heq := fun w => st_eq (a := x.k) (b := k) (decide_eq_true hxk) w
        have HXK := Lib.hid hxk
        have hv : placeE L k = q := by
          have hm : L.map (·.k) = (L.take q).map (·.k) ++ k :: (L.drop (q + 1)).map (·.k) := by
            conv => lhs; rw [HS.out]
            rw [List.map_append, List.map_cons, HXK.out]
          unfold placeE
          rw [hm, if_pos (by simp), List.idxOf_append, if_neg hnk.out]
          simp
          omega
        have HV := Lib.hid hv
        clear hxk hv
        go_wp2
        go_region
        go_wp2
        go_ret
        exact ⟨congrArg (fun n : Int => Ending.returned (.int .i64 n)) HV.out.symm, HX.out.drew.b⟩
      · have heq := fun w => st_eq (a := x.k) (b := k) (decide_eq_false hxk) w
        have HXK := Lib.hid hxk
        clear hxk
        go_wp2
        go_region
        go_wp2
        go_roundw
        case rel => exact ⟨q + 1, by go_num, by omega, Lib.hid (by rw [T1.out, List.map_append, List.mem_append]; rintro (h | h); exact hnk.out h; simp at h; exact HXK.out h.symm), HX.out.drew⟩
        case measure => simp [intOf]; omega
    · obtain rfl : q = L.length := by omega
      have hv : placeE L k = -1 := by
        have := hnk.out
        rw [List.take_length] at this
        unfold placeE
        rw [if_neg this]
      have HV := Lib.hid hv
      clear hv
      go_wp2
      go_ret
      exact ⟨congrArg (fun n : Int => Ending.returned (.int .i64 n)) HV.out.symm, HX.out.b⟩
end Go.Proofs.Ytohpablkgfkelaa
