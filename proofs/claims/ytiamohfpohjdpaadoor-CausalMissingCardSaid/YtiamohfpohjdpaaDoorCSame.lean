/- ARE TWO LISTS OF OPERATIONS ONE, by the document: what it answers. -/
import Derived.Test.YtiamohfpohjdpaaDoorCApp
namespace Go.Proofs.YtiamohfpohjdpaaDoor
open Go.RowKit Go.Joins
set_option linter.unusedSimpArgs false
set_option linter.unusedVariables false
theorem run_opGuardN (xs ys : Array Value) (x y : Operand) (w : World) : (eqGuard .neq 39 x y (.agg xs) (.agg ys)).run Tryd.prog w = .ok () w := by kernel_rfl
theorem op_eq {a b : OpG} {c : Bool} (h : a.beq b = c) (w : World) : (Op.equalIn 10000 39 a.val b.val).run Tryd.prog w = .ok c w := by subst h; exact eqOp_run a b w
/-- a cell of a list, in a later world -/
theorem at_ext {x : World} {b off i : Nat} {o : OpG} (h : ∀ (j : Nat) (v : Value), o.cells[j]? = some v → x.cell? ⟨b, off + i * 26 + j, none⟩ = some v) (hb : b < x.heap.size) : ∀ y, (∃ n, y = ext x n) → ∀ (j : Nat) v, o.cells[j]? = some v → y.cell? ⟨b, off + i * 26 + j, none⟩ = some v := by
  rintro y ⟨n, rfl⟩ j v hv
  exact (ext_cell x n _ hb).trans (h j v hv)
set_option maxHeartbeats 4000000 in
theorem sameOps_any (w : World) (ao bo : Option Addr) (ca cb : Nat) (L M : List OpG) (hA : OpsAt w ao L) (hB : OpsAt w bo M) (hl : L.length < 4294967296) :
    Calls Tryd.prog 14 #[.slice ao L.length ca, .slice bo M.length cb] w fun e w' => e = .returned (.bool (decide (L = M))) ∧ Below w.heap.size w w' := by
  by_cases hn : L.length = M.length
  · have HA := Lib.hid hA
    have HB := Lib.hid hB
    have hgn := run_opGuardN
    have hee : ((L.length : Int) != (M.length : Int)) = false := by simp [hn]
    clear hA hB
    go_enter Tryd.func14, Tryd.ntmps14
    go_wp2
    clear hee
    go_loopw [5] (fun i w' => ∃ k : Nat, i = .int .i64 k ∧ k ≤ L.length ∧ L.take k = M.take k ∧ Below w.heap.size w w') (fun i _ => L.length - (intOf i).toNat)
    case atStart => exact ⟨0, rfl, by omega, by simp, Below.refl _ _⟩
    case round =>
      obtain ⟨k, rfl, hk, htk, hbel⟩ := hrel
      have HBL := Lib.hid hbel
      clear hbel
      by_cases hkl : k < L.length
      · obtain ⟨p, hp⟩ : ∃ p, L[k]? = some p := ⟨_, List.getElem?_eq_getElem hkl⟩
        obtain ⟨q, hq⟩ : ∃ q, M[k]? = some q := ⟨_, List.getElem?_eq_getElem (by omega)⟩
        obtain ⟨b, off, rfl, hb1, hc1⟩ := (HA.out.below HBL.out) k p hp
        obtain ⟨b', off', rfl, hb2, hc2⟩ := (HB.out.below HBL.out) k q hq
        have HT := Lib.hid htk
        have t1 : L.take (k + 1) = L.take k ++ [p] := by
          obtain ⟨h1, rfl⟩ := List.getElem?_eq_some_iff.1 hp
          exact List.take_succ_eq_append_getElem h1
        have t2 : M.take (k + 1) = M.take k ++ [q] := by
          obtain ⟨h1, rfl⟩ := List.getElem?_eq_some_iff.1 hq
          exact List.take_succ_eq_append_getElem h1
        have T1 := Lib.hid t1
        have T2 := Lib.hid t2
        have C1 := Lib.hid (at_ext hc1 hb1)
        have C2 := Lib.hid (at_ext hc2 hb2)
        clear htk t1 t2 hc1 hc2 hb1 hb2 hp hq
        have b0 : (0 : Int) ≤ (k : Int) := by omega
        have b1 : (k : Int) < (L.length : Int) := by omega
        have b2 : (k : Int) < (M.length : Int) := by omega
        by_cases hxy : p = q
        · have heq := fun w => op_eq (show p.beq q = true from (OpG.beq_iff p q).2 hxy) w
          have HXY := Lib.hid hxy
          clear hxy
          go_upto_region 6 with fail
          refine region_ext (by kernel_rfl) (by kernel_rfl) ?_
          iterate 3 (go_big_quiet_step (fail))
          go_big_quiet_want
          refine quiet_loadS (.tmp 19) 39 rfl (b := b) (off := off + k * 26) (cs := OpG.cells p) rfl Tryd.underlying39 (by kernel_rfl) C1.out ?_
          go_big_quiet_on
          simp only [Act.put, List.setIfInBounds_toArray, List.set_cons_zero, List.set_cons_succ]
          iterate 3 (go_big_quiet_step (fail))
          go_big_quiet_want
          refine quiet_loadS (.tmp 23) 39 rfl (b := b') (off := off' + k * 26) (cs := OpG.cells q) rfl Tryd.underlying39 (by kernel_rfl) C2.out ?_
          go_big_quiet_on
          simp only [Act.put, List.setIfInBounds_toArray, List.set_cons_zero, List.set_cons_succ]
          repeat (go_big_quiet_step (fail))
          refine wpQuiet_nil ?_
          rintro _ ⟨nq, rfl⟩
          go_wp2_with fail
          go_roundw
          case rel => exact ⟨k + 1, by go_num, by omega, by rw [T1.out, T2.out, HT.out, HXY.out], HBL.out.trans ((ext_below wr nq).mono HBL.out.size)⟩
          case measure => first | omega | (simp [intOf]; omega) | (simp [RowKit.intOf]; omega)
        · have heq := fun w => op_eq (show p.beq q = false from by rw [Bool.eq_false_iff]; exact fun e => hxy ((OpG.beq_iff p q).1 e)) w
          have HXY := Lib.hid hxy
          have HD := Lib.hid (show decide (L = M) = false from decide_eq_false (fun e => by
            subst e
            have := List.append_inj (T1.out.symm.trans T2.out) rfl
            exact HXY.out (by simpa using this.2)))
          clear hxy
          go_upto_region 6 with fail
          refine region_ext (by kernel_rfl) (by kernel_rfl) ?_
          iterate 3 (go_big_quiet_step (fail))
          go_big_quiet_want
          refine quiet_loadS (.tmp 19) 39 rfl (b := b) (off := off + k * 26) (cs := OpG.cells p) rfl Tryd.underlying39 (by kernel_rfl) C1.out ?_
          go_big_quiet_on
          simp only [Act.put, List.setIfInBounds_toArray, List.set_cons_zero, List.set_cons_succ]
          iterate 3 (go_big_quiet_step (fail))
          go_big_quiet_want
          refine quiet_loadS (.tmp 23) 39 rfl (b := b') (off := off' + k * 26) (cs := OpG.cells q) rfl Tryd.underlying39 (by kernel_rfl) C2.out ?_
          go_big_quiet_on
          simp only [Act.put, List.setIfInBounds_toArray, List.set_cons_zero, List.set_cons_succ]
          repeat (go_big_quiet_step (fail))
          refine wpQuiet_nil ?_
          rintro _ ⟨nq, rfl⟩
          go_wp2_with fail
          go_ret
          exact ⟨ret_bool HD.out.symm, HBL.out.trans ((ext_below wr nq).mono HBL.out.size)⟩
      · have HD := Lib.hid (show decide (L = M) = true from decide_eq_true (by
          have hke : k = L.length := by omega
          rw [hke, List.take_length] at htk
          rw [htk, hn, List.take_length]))
        have dk : decide ((k : Int) < (L.length : Int)) = false := decide_eq_false (by omega)
        clear htk
        go_wp2
        go_ret
        exact ⟨ret_bool HD.out.symm, HBL.out⟩
  · have hne : L ≠ M := fun e => hn (by rw [e])
    have hd : decide (L = M) = false := decide_eq_false hne
    have hee : ((L.length : Int) != (M.length : Int)) = true := by simp; omega
    rw [hd]
    clear hA hB
    go_enter Tryd.func14, Tryd.ntmps14
    go_wp2
    go_ret
    exact ⟨rfl, Below.refl _ _⟩
end Go.Proofs.YtiamohfpohjdpaaDoor
