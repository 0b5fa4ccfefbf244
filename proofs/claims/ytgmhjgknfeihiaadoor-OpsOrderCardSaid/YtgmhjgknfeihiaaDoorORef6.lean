/- WHETHER AN OPERATION MAY BE, by the reference: of no kind. -/
import Derived.Test.YtgmhjgknfeihiaaDoorORef
namespace Go.Proofs.YtgmhjgknfeihiaaDoor
open Go.RowKit Go.Joins
set_option linter.unusedSimpArgs false
set_option linter.unusedVariables false
set_option maxHeartbeats 16000000 in
set_option maxRecDepth 100000 in
theorem refRight_k6 (o : OpG) (hf : o.fine) (w : World) (hk : o.kd ≠ 1 ∧ o.kd ≠ 2 ∧ o.kd ≠ 3 ∧ o.kd ≠ 4 ∧ o.kd ≠ 5) : Calls Tryd.prog 10 #[o.val] w fun e w' => e = .returned (.bool o.rightP) ∧ Below w.heap.size w w' := by
  obtain ⟨hf1, hf2, hf3⟩ := hf
  have hgd := run_opGuard
  have hgs := run_stGuard
  have HF := Lib.hid (And.intro hf1 (And.intro hf2 hf3))
  clear hf1 hf2 hf3
  have k1 : (o.kd == 1) = false := by simp [hk]
  have k2 : (o.kd == 2) = false := by simp [hk]
  have k3 : (o.kd == 3) = false := by simp [hk]
  have k4 : (o.kd == 4) = false := by simp [hk]
  have k5 : (o.kd == 5) = false := by simp [hk]
  have HK := Lib.hid hk
  clear hk
  go_enter Tryd.func10, Tryd.ntmps10
  go_wp2_with fail
  refine calls_let' (OpBox o w) (opBox_new o w) (fun x hx => ?_)
  refine (right1_any o.n o.r x).mono ?_
  rintro e w1 ⟨rfl, hb⟩
  have HX := Lib.hid (hx.later hb)
  clear hx hb
  go_wp2
  go_loopw [3, 4] (fun ok i wr => ∃ q : Nat, q ≤ 8 ∧ i = .int .i64 q ∧ ok = .bool (o.preTo q) ∧ OpBox o w wr) (fun _ i _ => 8 - (RowKit.intOf i).toNat)
  case atStart => exact ⟨0, by omega, rfl, rfl, HX.out⟩
  case round =>
    obtain ⟨q, hq, rfl, rfl, hbx⟩ := hrel
    have HB := Lib.hid hbx
    clear hbx HX
    by_cases h8 : q < 8
    · as_aux_lemma =>
      have hc : wr.cell? ⟨w.heap.size, 2 + q, none⟩ = some (.int .i64 (o.d.nth q)) := (blk_cell HB.out.2 (2 + q)).trans (nth_cell o q h8)
      have c0 : wr.cell? ⟨w.heap.size, 0, none⟩ = some (.int .i64 o.n) := blk_cell HB.out.2 0
      clear hgd hgs
      cases hp : o.preTo q with
      | false =>
        have HV := Lib.hid (show false = o.preTo (q + 1) by simp [OpG.preTo, hp])
        clear hp
        go_wp2
        go_quiet (fail)
        go_wp2
        go_roundw
        case rel => exact ⟨q + 1, by omega, by go_num, congrArg Value.bool HV.out, HB.out.later (by first | exact Below.drew (Below.refl _ _) | exact below_drewN (Below.refl _ _) _)⟩
        case measure => simp [RowKit.intOf]; omega
      | true =>
        by_cases h0 : 0 ≤ o.d.nth q
        · have d0 : decide (0 ≤ o.d.nth q) = true := decide_eq_true h0
          have HV := Lib.hid (show decide (o.d.nth q < o.n) = o.preTo (q + 1) by simp [OpG.preTo, hp, h0])
          clear hp
          go_wp2
          go_quiet (fail)
          go_wp2
          go_roundw
          case rel => exact ⟨q + 1, by omega, by go_num, congrArg Value.bool HV.out, HB.out.later (by first | exact Below.drew (Below.refl _ _) | exact below_drewN (Below.refl _ _) _)⟩
          case measure => simp [RowKit.intOf]; omega
        · have d0 : decide (0 ≤ o.d.nth q) = false := decide_eq_false h0
          have HV := Lib.hid (show false = o.preTo (q + 1) by simp [OpG.preTo, hp, h0])
          clear hp h0
          go_wp2
          go_quiet (fail)
          go_wp2
          go_roundw
          case rel => exact ⟨q + 1, by omega, by go_num, congrArg Value.bool HV.out, HB.out.later (by first | exact Below.drew (Below.refl _ _) | exact below_drewN (Below.refl _ _) _)⟩
          case measure => simp [RowKit.intOf]; omega
    · obtain rfl : q = 8 := by omega
      rw [pre_to]
      have c10 : wr.cell? ⟨w.heap.size, 10, none⟩ = some (.int .i64 o.kd) := blk_cell HB.out.2 10
      have hz := heap_lt HB.out.2
      obtain ⟨wk, hwk⟩ : ∃ wk, wk = wr := ⟨_, rfl⟩
      subst hwk
      go_upto_region 8 with (first | refine wpList_load_whole (.tmp 1) 31 rfl rfl w.heap.size o.cells rfl Tryd.underlying31 (by kernel_rfl) HB.out.2 ?_ | refine wpList_store_fresh rfl (.tmp 5) (.tmp 44) 31 rfl wk.heap.size _ _ rfl rfl rfl (by kernel_rfl) (by kernel_rfl) (by kernel_rfl) ?_)
      refine wp_let' (RX w o o wk.heap.size) (rx_new (x := o) HB.out) (fun x hx => ?_)
      have HR := Lib.hid hx
      clear hx c10
      have HV := Lib.hid (show false = o.rightP by obtain ⟨a1, a2, a3, a4, a5⟩ := HK.out; simp [OpG.rightP, a1, a2, a3, a4, a5])
      go_wp2
      go_ret
      exact ⟨ret_bool HV.out, HR.out.below⟩
end Go.Proofs.YtgmhjgknfeihiaaDoor
