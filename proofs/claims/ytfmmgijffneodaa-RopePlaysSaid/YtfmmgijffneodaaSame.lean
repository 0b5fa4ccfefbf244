/- ARE TWO LISTS ONE -/
import Derived.Test.YtfmmgijffneodaaRopeScript
import Derived.Deep.DeepCutAuto
namespace Go.Proofs.Ytfmmgijffneodaa
open Go.RowKit Go.Joins
set_option linter.unusedSimpArgs false
set_option linter.unusedVariables false
/-- a list of numbers in memory -/
def IntsAt (w : World) (ao : Option Addr) (L : List Int) : Prop := ∀ (k : Nat) (hk : k < L.length), ∃ B, ao = some ⟨B, 0, none⟩ ∧ w.cell? ⟨B, k, none⟩ = some (.int .i64 L[k])
theorem IntsAt.below {w w' : World} {ao : Option Addr} {L : List Int} (h : IntsAt w ao L) (b : Below w.heap.size w w') : IntsAt w' ao L := fun k hk => by
  obtain ⟨B, e, c⟩ := h k hk
  exact ⟨B, e, (b.cell (World.block_lt_of_cell? _ _ c)).trans c⟩
set_option maxHeartbeats 4000000 in
theorem same_any (w : World) (ao bo : Option Addr) (ca cb : Nat) (L M : List Int) (hA : IntsAt w ao L) (hB : IntsAt w bo M) (hl : L.length < 4294967296) :
    Calls Try.prog 15 #[.slice ao L.length ca, .slice bo M.length cb] w fun e w' => e = .returned (.bool (decide (L = M))) ∧ Below w.heap.size w w' := by
  by_cases hn : L.length = M.length
  · have HA := Lib.hid hA
    have HB := Lib.hid hB
    clear hA hB
    go_enter Try.func15, Try.ntmps15
    go_wp2
    go_loopw [5] (fun i w' => ∃ k : Nat, i = .int .i64 k ∧ k ≤ L.length ∧ L.take k = M.take k ∧ Below w.heap.size w w') (fun i _ => L.length - (intOf i).toNat)
    case atStart => exact ⟨0, rfl, by omega, by simp, Below.refl _ _⟩
    case round =>
      obtain ⟨k, rfl, hk, htk, hbel⟩ := hrel
      by_cases hkl : k < L.length
      · obtain ⟨B, rfl, c1⟩ := HA.out.below hbel k hkl
        obtain ⟨B', rfl, c2⟩ := HB.out.below hbel k (by omega)
        have HT := Lib.hid htk
        have t1 := List.take_succ_eq_append_getElem hkl
        have t2 := List.take_succ_eq_append_getElem (l := M) (i := k) (by omega)
        have T1 := Lib.hid t1
        have T2 := Lib.hid t2
        generalize L[k] = x at *
        generalize M[k]'(by omega) = y at *
        clear htk t1 t2
        have b0 : (0 : Int) ≤ (k : Int) := by omega
        have b1 : (k : Int) < (L.length : Int) := by omega
        have b2 : (k : Int) < (M.length : Int) := by omega
        by_cases hxy : x = y
        · subst hxy
          go_wp2
          go_region
          go_wp2
          go_roundw
          case rel => exact ⟨k + 1, by go_num, by omega, by rw [T1.out, T2.out, HT.out], by first | exact hbel.drewN _ | exact below_drewN hbel _ | exact Below.drew hbel⟩
          case measure => simp [intOf]; omega
        · have hd : decide (L = M) = false := decide_eq_false (fun e => by
            subst e
            have := List.append_inj (T1.out.symm.trans T2.out) (by rw [HT.out])
            exact hxy (by simpa using this.2))
          go_wp2
          go_region
          go_wp2
          go_ret
          exact ⟨congrArg (fun b => Ending.returned (.bool b)) hd.symm, by first | exact hbel.drewN _ | exact below_drewN hbel _ | exact Below.drew hbel⟩
      · have hke : k = L.length := by omega
        subst hke
        have hd : decide (L = M) = true := decide_eq_true (by
          rw [List.take_length] at htk
          rw [htk, hn, List.take_length])
        go_wp2
        go_ret
        exact ⟨congrArg (fun b => Ending.returned (.bool b)) hd.symm, hbel⟩
  · have hne : L ≠ M := fun e => hn (by rw [e])
    have hd : decide (L = M) = false := decide_eq_false hne
    rw [hd]
    clear hA hB
    go_enter Try.func15, Try.ntmps15
    go_wp2
    go_ret
    exact ⟨rfl, Below.refl _ _⟩
end Go.Proofs.Ytfmmgijffneodaa
