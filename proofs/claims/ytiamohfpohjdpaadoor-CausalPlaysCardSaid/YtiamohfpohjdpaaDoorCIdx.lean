/- slices.IndexFunc OVER OPERATIONS: the first for which a predicate says yes, the state kept till then. (Written by gen_cidx.py.) -/
import Derived.Test.YtiamohfpohjdpaaDoorCReady
namespace Go.Proofs.YtiamohfpohjdpaaDoor
open Go.RowKit Go.Joins
set_option linter.unusedSimpArgs false
set_option linter.unusedVariables false

def IdxT (L : List OpG) (p : OpG → Bool) (J : World → Prop) (Jh : OpG → World → Prop) (e : Ending) (w' : World) : Prop :=
  (∃ (q : Nat) (x : OpG), L[q]? = some x ∧ p x = true ∧ (∀ j y, j < q → L[j]? = some y → p y = false) ∧ e = .returned (.int .i64 q) ∧ Jh x w') ∨ ((∀ x ∈ L, p x = false) ∧ e = .returned (.int .i64 (-1)) ∧ J w')
set_option maxHeartbeats 8000000 in
set_option maxRecDepth 100000 in
theorem idx_ready (s : Nat) (p : OpG → Bool) (J : World → Prop) (Jh : OpG → World → Prop) (L : List OpG) (ao : Option Addr) (c : Nat) (hrow : ∀ z, J z → OpsAt z ao L) (hcall : ∀ x ∈ L, ∀ z, J z → Calls Tryd.prog 23 #[ptr s, x.val] z fun e z' => e = .returned (.bool (p x)) ∧ (p x = false → J z') ∧ (p x = true → Jh x z'))
    (hn : L.length < 4294967296) (w : World) (h0 : J w) : Calls Tryd.prog 52 #[.slice ao L.length c, .func (.func 23) #[ptr s] #[]] w (IdxT L p J Jh) := by
  have HR := Lib.hid hrow
  have HC := Lib.hid hcall
  have H0 := Lib.hid h0
  clear hrow hcall h0
  go_enter Tryd.func52, Tryd.ntmps52
  go_wp2_with fail
  go_loopw [8] (fun i wr => ∃ q : Nat, q ≤ L.length ∧ i = .int .i64 q ∧ (∀ j y, j < q → L[j]? = some y → p y = false) ∧ J wr) (fun i _ => L.length - (RowKit.intOf i).toNat)
  case atStart => exact ⟨0, by omega, rfl, fun j y h => by omega, H0.out⟩
  case round =>
    obtain ⟨q, hq, rfl, hno, hJ⟩ := hrel
    have HN := Lib.hid hno
    have HJ := Lib.hid hJ
    clear hno
    by_cases hql : q < L.length
    · obtain ⟨o, ho⟩ : ∃ o, L[q]? = some o := ⟨_, List.getElem?_eq_getElem hql⟩
      obtain ⟨b, off, rfl, hbw, hc⟩ := (HR.out _ hJ) q o ho
      have HO := Lib.hid ho
      have HCC := Lib.hid hc
      have HK := Lib.hid (HC.out o (List.mem_of_getElem? ho) _ hJ)
      have b0 : (0 : Int) ≤ (q : Int) := by omega
      have b1 : (q : Int) < (L.length : Int) := by omega
      clear hc ho hbw hJ
      go_wp2_with (refine wpList_load_at (.tmp 14) 39 rfl rfl b (off + q * 26) o.cells rfl Tryd.underlying39 (by kernel_rfl) HCC.out ?_)
      with_reducible refine HK.out.mono ?_
      rintro e z ⟨rfl, h1, h2⟩
      have HH := Lib.hid (And.intro h1 h2)
      clear h1 h2
      cases hp : p o with
      | true =>
        have HP := Lib.hid hp
        go_wp2
        go_ret
        exact .inl ⟨q, o, HO.out, HP.out, HN.out, rfl, HH.out.2 HP.out⟩
      | false =>
        have HP := Lib.hid hp
        go_wp2
        go_roundw
        case rel => exact ⟨q + 1, by omega, by go_num, fun j y hj hy => by
          by_cases e : j = q
          · subst e
            have := HO.out
            rw [hy] at this
            cases this
            exact HP.out
          · exact HN.out j y (by omega) hy, HH.out.1 HP.out⟩
        case measure => simp [intOf]; omega
    · have e : q = L.length := by omega
      subst e
      have hd : decide ((L.length : Int) < (L.length : Int)) = false := by simp
      clear hJ
      go_wp2
      go_ret
      refine .inr ⟨fun x hx => ?_, rfl, HJ.out⟩
      obtain ⟨i, hi⟩ := List.mem_iff_getElem?.1 hx
      exact HN.out i x (List.getElem?_eq_some_iff.1 hi).1 hi
set_option maxHeartbeats 8000000 in
set_option maxRecDepth 100000 in
theorem idx_late (s : Nat) (p : OpG → Bool) (J : World → Prop) (Jh : OpG → World → Prop) (L : List OpG) (ao : Option Addr) (c : Nat) (hrow : ∀ z, J z → OpsAt z ao L) (hcall : ∀ x ∈ L, ∀ z, J z → Calls Tryd.prog 28 #[x.val, ptr s] z fun e z' => e = .returned (.bool (p x)) ∧ (p x = false → J z') ∧ (p x = true → Jh x z'))
    (hn : L.length < 4294967296) (w : World) (h0 : J w) : Calls Tryd.prog 52 #[.slice ao L.length c, .func (.func 28) #[] #[ptr s]] w (IdxT L p J Jh) := by
  have HR := Lib.hid hrow
  have HC := Lib.hid hcall
  have H0 := Lib.hid h0
  clear hrow hcall h0
  go_enter Tryd.func52, Tryd.ntmps52
  go_wp2_with fail
  go_loopw [8] (fun i wr => ∃ q : Nat, q ≤ L.length ∧ i = .int .i64 q ∧ (∀ j y, j < q → L[j]? = some y → p y = false) ∧ J wr) (fun i _ => L.length - (RowKit.intOf i).toNat)
  case atStart => exact ⟨0, by omega, rfl, fun j y h => by omega, H0.out⟩
  case round =>
    obtain ⟨q, hq, rfl, hno, hJ⟩ := hrel
    have HN := Lib.hid hno
    have HJ := Lib.hid hJ
    clear hno
    by_cases hql : q < L.length
    · obtain ⟨o, ho⟩ : ∃ o, L[q]? = some o := ⟨_, List.getElem?_eq_getElem hql⟩
      obtain ⟨b, off, rfl, hbw, hc⟩ := (HR.out _ hJ) q o ho
      have HO := Lib.hid ho
      have HCC := Lib.hid hc
      have HK := Lib.hid (HC.out o (List.mem_of_getElem? ho) _ hJ)
      have b0 : (0 : Int) ≤ (q : Int) := by omega
      have b1 : (q : Int) < (L.length : Int) := by omega
      clear hc ho hbw hJ
      go_wp2_with (refine wpList_load_at (.tmp 14) 39 rfl rfl b (off + q * 26) o.cells rfl Tryd.underlying39 (by kernel_rfl) HCC.out ?_)
      with_reducible refine HK.out.mono ?_
      rintro e z ⟨rfl, h1, h2⟩
      have HH := Lib.hid (And.intro h1 h2)
      clear h1 h2
      cases hp : p o with
      | true =>
        have HP := Lib.hid hp
        go_wp2
        go_ret
        exact .inl ⟨q, o, HO.out, HP.out, HN.out, rfl, HH.out.2 HP.out⟩
      | false =>
        have HP := Lib.hid hp
        go_wp2
        go_roundw
        case rel => exact ⟨q + 1, by omega, by go_num, fun j y hj hy => by
          by_cases e : j = q
          · subst e
            have := HO.out
            rw [hy] at this
            cases this
            exact HP.out
          · exact HN.out j y (by omega) hy, HH.out.1 HP.out⟩
        case measure => simp [intOf]; omega
    · have e : q = L.length := by omega
      subst e
      have hd : decide ((L.length : Int) < (L.length : Int)) = false := by simp
      clear hJ
      go_wp2
      go_ret
      refine .inr ⟨fun x hx => ?_, rfl, HJ.out⟩
      obtain ⟨i, hi⟩ := List.mem_iff_getElem?.1 hx
      exact HN.out i x (List.getElem?_eq_some_iff.1 hi).1 hi
end Go.Proofs.YtiamohfpohjdpaaDoor
