/- WHETHER AN OPERATION MAY BE, by the reference: a deletion. WHETHER AN OPERATION MAY BE, by the reference: a move. -/
import Derived.Test.YtiamohfpohjdpaaDoorORef
namespace Go.Proofs.YtiamohfpohjdpaaDoor
open Go.RowKit Go.Joins
set_option linter.unusedSimpArgs false
set_option linter.unusedVariables false
set_option maxHeartbeats 16000000 in
set_option maxRecDepth 100000 in
theorem refRight_k2 (o : OpG) (hf : o.fine) (w : World) (hk : o.kd = 2) : Calls Tryd.prog 30 #[o.val] w fun e w' => e = .returned (.bool o.rightP) ∧ Below w.heap.size w w' := by
  obtain ⟨hf1, hf2, hf3⟩ := hf
  have hgd := run_opGuard
  have hgs := run_stGuard
  have HF := Lib.hid (And.intro hf1 (And.intro hf2 hf3))
  clear hf1 hf2 hf3
  have k1 : (o.kd == 1) = false := by simp [hk]
  have k2 : (o.kd == 2) = true := by simp [hk]
  have HK := Lib.hid hk
  clear hk
  go_enter Tryd.func30, Tryd.ntmps30
  go_wp2_with fail
  refine calls_let' (OpBox o w) (opBox_new o w) (fun x hx => ?_)
  refine (right1_any o.n o.r x).mono ?_
  rintro e w1 ⟨rfl, hb⟩
  have HX := Lib.hid (hx.later hb)
  clear hx hb
  go_wp2
  go_loopw [3, 4] (fun ok i wr => ∃ q : Nat, q ≤ 8 ∧ i = .int .i64 q ∧ ok = .bool (o.preTo q) ∧ OpBox o w wr) (fun _ i _ => 8 - (RowKit.intOf i).toNat)
  case atStart => exact ⟨0, by omega, rfl, rfl, HX.out⟩
  case round =>
    obtain ⟨q, hq, rfl, rfl, hbx⟩ := hrel
    have HB := Lib.hid hbx
    clear hbx HX
    by_cases h8 : q < 8
    · as_aux_lemma =>
      have hc : wr.cell? ⟨w.heap.size, 2 + q, none⟩ = some (.int .i64 (o.d.nth q)) := (blk_cell HB.out.2 (2 + q)).trans (nth_cell o q h8)
      have c0 : wr.cell? ⟨w.heap.size, 0, none⟩ = some (.int .i64 o.n) := blk_cell HB.out.2 0
      clear hgd hgs
      cases hp : o.preTo q with
      | false =>
        have HV := Lib.hid (show false = o.preTo (q + 1) by simp [OpG.preTo, hp])
        clear hp
        go_wp2
        go_quiet (fail)
        go_wp2
        go_roundw
        case rel => exact ⟨q + 1, by omega, by go_num, congrArg Value.bool HV.out, HB.out.later (by first | exact Below.drew (Below.refl _ _) | exact below_drewN (Below.refl _ _) _)⟩
        case measure => simp [RowKit.intOf]; omega
      | true =>
        by_cases h0 : 0 ≤ o.d.nth q
        · have d0 : decide (0 ≤ o.d.nth q) = true := decide_eq_true h0
          have HV := Lib.hid (show decide (o.d.nth q < o.n) = o.preTo (q + 1) by simp [OpG.preTo, hp, h0])
          clear hp
          go_wp2
          go_quiet (fail)
          go_wp2
          go_roundw
          case rel => exact ⟨q + 1, by omega, by go_num, congrArg Value.bool HV.out, HB.out.later (by first | exact Below.drew (Below.refl _ _) | exact below_drewN (Below.refl _ _) _)⟩
          case measure => simp [RowKit.intOf]; omega
        · have d0 : decide (0 ≤ o.d.nth q) = false := decide_eq_false h0
          have HV := Lib.hid (show false = o.preTo (q + 1) by simp [OpG.preTo, hp, h0])
          clear hp h0
          go_wp2
          go_quiet (fail)
          go_wp2
          go_roundw
          case rel => exact ⟨q + 1, by omega, by go_num, congrArg Value.bool HV.out, HB.out.later (by first | exact Below.drew (Below.refl _ _) | exact below_drewN (Below.refl _ _) _)⟩
          case measure => simp [RowKit.intOf]; omega
    · obtain rfl : q = 8 := by omega
      rw [pre_to]
      have c10 : wr.cell? ⟨w.heap.size, 10, none⟩ = some (.int .i64 o.kd) := blk_cell HB.out.2 10
      have hz := heap_lt HB.out.2
      obtain ⟨wk, hwk⟩ : ∃ wk, wk = wr := ⟨_, rfl⟩
      subst hwk
      go_upto_region 15 with (first | refine wpList_load_whole (.tmp 1) 39 rfl rfl w.heap.size o.cells rfl Tryd.underlying39 (by kernel_rfl) HB.out.2 ?_ | refine wpList_store_fresh rfl (.tmp 5) (.tmp 44) 39 rfl wk.heap.size _ _ rfl rfl rfl (by kernel_rfl) (by kernel_rfl) (by kernel_rfl) ?_)
      refine wp_let' (RX w o o wk.heap.size) (rx_new (x := o) HB.out) (fun x hx => ?_)
      have HR := Lib.hid hx
      clear hx c10
      have M1 := Lib.hid (fun w => names_any o o.rn o.rr false w)
      have c11 : x.cell? ⟨w.heap.size, 11, none⟩ = some (.int .i64 o.rn) := blk_cell HR.out.ob 11
      have c12 : x.cell? ⟨w.heap.size, 12, none⟩ = some (.int .i64 o.rr) := blk_cell HR.out.ob 12
      go_wp2_with (first | refine wpList_load_whole (.tmp 1) 39 rfl rfl w.heap.size o.cells rfl Tryd.underlying39 (by kernel_rfl) HR.out.ob ?_)
      with_reducible refine (M1.out _).mono ?_
      rintro e wq ⟨rfl, hb⟩
      have HR := Lib.hid (HR.out.later hb)
      clear hb
      clear c11 c12
      have c11 : wq.cell? ⟨w.heap.size, 11, none⟩ = some (.int .i64 o.rn) := blk_cell HR.out.ob 11
      have c12 : wq.cell? ⟨w.heap.size, 12, none⟩ = some (.int .i64 o.rr) := blk_cell HR.out.ob 12
      go_upto_region 16 with fail
      go_cut [3, 8] (fun c s8 wx => c = .bool (o.pre && o.ok2) ∧ RX w o o wk.heap.size wx)
      case first =>
        clear hgd
        cases hp : o.pre with
        | true =>
          cases hb : o.hasB o.rn o.rr with
          | true =>
            have hm : o.namesB o.rn o.rr false = true := by simp [OpG.namesB, hb]
            rw [hm]
            as_aux_lemma =>
              have HV := Lib.hid (show true = (o.pre && o.ok2) by simp [OpG.ok2, OpG.chB, OpG.namesB, hp, hb])
              go_wp2_with fail
              go_meet
              exact ⟨congrArg Value.bool HV.out, HR.out⟩
          | false =>
            have hm : o.namesB o.rn o.rr false = false := by simp [OpG.namesB, hb]
            rw [hm]
            as_aux_lemma =>
              have HV := Lib.hid (show false = (o.pre && o.ok2) by simp [OpG.ok2, OpG.chB, OpG.namesB, hp, hb])
              go_wp2_with fail
              go_meet
              exact ⟨congrArg Value.bool HV.out, HR.out⟩
        | false =>
          as_aux_lemma =>
            have HV := Lib.hid (show false = (o.pre && o.ok2) by simp [OpG.ok2, OpG.chB, OpG.namesB, hp])
            go_wp2_with fail
            go_meet
            exact ⟨congrArg Value.bool HV.out, HR.out⟩
      case rest =>
        have HR := Lib.hid hcut.2
        have HC1 := Lib.hid hcut.1
        clear hcut c11 c12
        have c0 : wc.cell? ⟨w.heap.size, 0, none⟩ = some (.int .i64 o.n) := blk_cell HR.out.ob 0
        have c1 : wc.cell? ⟨w.heap.size, 1, none⟩ = some (.int .i64 o.r) := blk_cell HR.out.ob 1
        have c2 : wc.cell? ⟨w.heap.size, 2, none⟩ = some (.int .i64 o.d.x0) := blk_cell HR.out.ob 2
        have c3 : wc.cell? ⟨w.heap.size, 3, none⟩ = some (.int .i64 o.d.x1) := blk_cell HR.out.ob 3
        have c4 : wc.cell? ⟨w.heap.size, 4, none⟩ = some (.int .i64 o.d.x2) := blk_cell HR.out.ob 4
        have c5 : wc.cell? ⟨w.heap.size, 5, none⟩ = some (.int .i64 o.d.x3) := blk_cell HR.out.ob 5
        have c6 : wc.cell? ⟨w.heap.size, 6, none⟩ = some (.int .i64 o.d.x4) := blk_cell HR.out.ob 6
        have c7 : wc.cell? ⟨w.heap.size, 7, none⟩ = some (.int .i64 o.d.x5) := blk_cell HR.out.ob 7
        have c8 : wc.cell? ⟨w.heap.size, 8, none⟩ = some (.int .i64 o.d.x6) := blk_cell HR.out.ob 8
        have c9 : wc.cell? ⟨w.heap.size, 9, none⟩ = some (.int .i64 o.d.x7) := blk_cell HR.out.ob 9
        have c10 : wc.cell? ⟨w.heap.size, 10, none⟩ = some (.int .i64 o.kd) := blk_cell HR.out.ob 10
        have c11 : wc.cell? ⟨w.heap.size, 11, none⟩ = some (.int .i64 o.rn) := blk_cell HR.out.ob 11
        have c12 : wc.cell? ⟨w.heap.size, 12, none⟩ = some (.int .i64 o.rr) := blk_cell HR.out.ob 12
        go_upto_region 37 with (refine wpList_store_row rfl (.tmp 5) (.tmp 120) 39 rfl wk.heap.size _ (OpG.cells o.x2) rfl rfl HR.out.xb (by kernel_rfl) (by kernel_rfl) (by kernel_rfl) ?_; intro wz hch hxz; have HR := Lib.hid (HR.out.put hch hxz); clear hch hxz c0 c1 c2 c3 c4 c5 c6 c7 c8 c9 c10 c11 c12)
        have heq := fun w => eqOp_run o.x2 o w
        cases hok : (o.pre && o.ok2) with
        | true => as_aux_lemma =>
          have HV := Lib.hid (show o.x2.beq o = o.rightP by rw [Bool.and_eq_true] at hok; simp [OpG.rightP, HK.out, hok.1, hok.2])
          obtain rfl := HC1.out.trans (congrArg Value.bool hok)
          go_wp2_with (first | refine wpList_load_whole (.tmp 1) 39 rfl rfl w.heap.size o.cells rfl Tryd.underlying39 (by kernel_rfl) HR.out.ob ?_ | refine wpList_load_whole (.tmp 5) 39 rfl rfl wk.heap.size (OpG.cells o.x2) rfl Tryd.underlying39 (by kernel_rfl) HR.out.xb ?_)
          go_ret
          exact ⟨ret_bool HV.out, HR.out.below⟩
        | false => as_aux_lemma =>
          have HV := Lib.hid (show false = o.rightP by
            unfold OpG.rightP
            simp only [HK.out]
            cases hp : o.pre <;> cases hq : o.ok2 <;> simp_all)
          obtain rfl := HC1.out.trans (congrArg Value.bool hok)
          go_wp2_with fail
          go_ret
          exact ⟨ret_bool HV.out, HR.out.below⟩
end Go.Proofs.YtiamohfpohjdpaaDoor
namespace Go.Proofs.YtiamohfpohjdpaaDoor
open Go.RowKit Go.Joins
set_option linter.unusedSimpArgs false
set_option linter.unusedVariables false
set_option maxHeartbeats 16000000 in
set_option maxRecDepth 100000 in
theorem refRight_k3 (o : OpG) (hf : o.fine) (w : World) (hk : o.kd = 3) : Calls Tryd.prog 30 #[o.val] w fun e w' => e = .returned (.bool o.rightP) ∧ Below w.heap.size w w' := by
  obtain ⟨hf1, hf2, hf3⟩ := hf
  have hgd := run_opGuard
  have hgs := run_stGuard
  have HF := Lib.hid (And.intro hf1 (And.intro hf2 hf3))
  clear hf1 hf2 hf3
  have k1 : (o.kd == 1) = false := by simp [hk]
  have k2 : (o.kd == 2) = false := by simp [hk]
  have k3 : (o.kd == 3) = true := by simp [hk]
  have HK := Lib.hid hk
  clear hk
  go_enter Tryd.func30, Tryd.ntmps30
  go_wp2_with fail
  refine calls_let' (OpBox o w) (opBox_new o w) (fun x hx => ?_)
  refine (right1_any o.n o.r x).mono ?_
  rintro e w1 ⟨rfl, hb⟩
  have HX := Lib.hid (hx.later hb)
  clear hx hb
  go_wp2
  go_loopw [3, 4] (fun ok i wr => ∃ q : Nat, q ≤ 8 ∧ i = .int .i64 q ∧ ok = .bool (o.preTo q) ∧ OpBox o w wr) (fun _ i _ => 8 - (RowKit.intOf i).toNat)
  case atStart => exact ⟨0, by omega, rfl, rfl, HX.out⟩
  case round =>
    obtain ⟨q, hq, rfl, rfl, hbx⟩ := hrel
    have HB := Lib.hid hbx
    clear hbx HX
    by_cases h8 : q < 8
    · as_aux_lemma =>
      have hc : wr.cell? ⟨w.heap.size, 2 + q, none⟩ = some (.int .i64 (o.d.nth q)) := (blk_cell HB.out.2 (2 + q)).trans (nth_cell o q h8)
      have c0 : wr.cell? ⟨w.heap.size, 0, none⟩ = some (.int .i64 o.n) := blk_cell HB.out.2 0
      clear hgd hgs
      cases hp : o.preTo q with
      | false =>
        have HV := Lib.hid (show false = o.preTo (q + 1) by simp [OpG.preTo, hp])
        clear hp
        go_wp2
        go_quiet (fail)
        go_wp2
        go_roundw
        case rel => exact ⟨q + 1, by omega, by go_num, congrArg Value.bool HV.out, HB.out.later (by first | exact Below.drew (Below.refl _ _) | exact below_drewN (Below.refl _ _) _)⟩
        case measure => simp [RowKit.intOf]; omega
      | true =>
        by_cases h0 : 0 ≤ o.d.nth q
        · have d0 : decide (0 ≤ o.d.nth q) = true := decide_eq_true h0
          have HV := Lib.hid (show decide (o.d.nth q < o.n) = o.preTo (q + 1) by simp [OpG.preTo, hp, h0])
          clear hp
          go_wp2
          go_quiet (fail)
          go_wp2
          go_roundw
          case rel => exact ⟨q + 1, by omega, by go_num, congrArg Value.bool HV.out, HB.out.later (by first | exact Below.drew (Below.refl _ _) | exact below_drewN (Below.refl _ _) _)⟩
          case measure => simp [RowKit.intOf]; omega
        · have d0 : decide (0 ≤ o.d.nth q) = false := decide_eq_false h0
          have HV := Lib.hid (show false = o.preTo (q + 1) by simp [OpG.preTo, hp, h0])
          clear hp h0
          go_wp2
          go_quiet (fail)
          go_wp2
          go_roundw
          case rel => exact ⟨q + 1, by omega, by go_num, congrArg Value.bool HV.out, HB.out.later (by first | exact Below.drew (Below.refl _ _) | exact below_drewN (Below.refl _ _) _)⟩
          case measure => simp [RowKit.intOf]; omega
    · obtain rfl : q = 8 := by omega
      rw [pre_to]
      have c10 : wr.cell? ⟨w.heap.size, 10, none⟩ = some (.int .i64 o.kd) := blk_cell HB.out.2 10
      have hz := heap_lt HB.out.2
      obtain ⟨wk, hwk⟩ : ∃ wk, wk = wr := ⟨_, rfl⟩
      subst hwk
      go_upto_region 19 with (first | refine wpList_load_whole (.tmp 1) 39 rfl rfl w.heap.size o.cells rfl Tryd.underlying39 (by kernel_rfl) HB.out.2 ?_ | refine wpList_store_fresh rfl (.tmp 5) (.tmp 44) 39 rfl wk.heap.size _ _ rfl rfl rfl (by kernel_rfl) (by kernel_rfl) (by kernel_rfl) ?_)
      refine wp_let' (RX w o o wk.heap.size) (rx_new (x := o) HB.out) (fun x hx => ?_)
      have HR := Lib.hid hx
      clear hx c10
      have M1 := Lib.hid (fun w => names_any o o.rn o.rr false w)
      have M2 := Lib.hid (fun w => names_any o o.un o.ur true w)
      have KY := Lib.hid (fun w => key_any o.key HF.out.1 w)
      have c11 : x.cell? ⟨w.heap.size, 11, none⟩ = some (.int .i64 o.rn) := blk_cell HR.out.ob 11
      have c12 : x.cell? ⟨w.heap.size, 12, none⟩ = some (.int .i64 o.rr) := blk_cell HR.out.ob 12
      go_wp2_with (first | refine wpList_load_whole (.tmp 1) 39 rfl rfl w.heap.size o.cells rfl Tryd.underlying39 (by kernel_rfl) HR.out.ob ?_)
      with_reducible refine (M1.out _).mono ?_
      rintro e wq ⟨rfl, hb⟩
      have HR := Lib.hid (HR.out.later hb)
      clear hb
      clear c11 c12
      have c15 : wq.cell? ⟨w.heap.size, 15, none⟩ = some (.int .i64 o.un) := blk_cell HR.out.ob 15
      have c16 : wq.cell? ⟨w.heap.size, 16, none⟩ = some (.int .i64 o.ur) := blk_cell HR.out.ob 16
      go_wp2_with (first | refine wpList_load_whole (.tmp 1) 39 rfl rfl w.heap.size o.cells rfl Tryd.underlying39 (by kernel_rfl) HR.out.ob ?_)
      with_reducible refine (M2.out _).mono ?_
      rintro e wq ⟨rfl, hb⟩
      have HR := Lib.hid (HR.out.later hb)
      clear hb
      clear c15 c16
      have c17 : wq.cell? ⟨w.heap.size, 17, none⟩ = some (.string o.key) := blk_cell HR.out.ob 17
      go_wp2_with (first | refine wpList_load_whole (.tmp 1) 39 rfl rfl w.heap.size o.cells rfl Tryd.underlying39 (by kernel_rfl) HR.out.ob ?_)
      with_reducible refine (KY.out _).mono ?_
      rintro e wq ⟨rfl, hb⟩
      have HR := Lib.hid (HR.out.later hb)
      clear hb
      clear c17
      have c11 : wq.cell? ⟨w.heap.size, 11, none⟩ = some (.int .i64 o.rn) := blk_cell HR.out.ob 11
      have c12 : wq.cell? ⟨w.heap.size, 12, none⟩ = some (.int .i64 o.rr) := blk_cell HR.out.ob 12
      have c15 : wq.cell? ⟨w.heap.size, 15, none⟩ = some (.int .i64 o.un) := blk_cell HR.out.ob 15
      have c16 : wq.cell? ⟨w.heap.size, 16, none⟩ = some (.int .i64 o.ur) := blk_cell HR.out.ob 16
      have c17 : wq.cell? ⟨w.heap.size, 17, none⟩ = some (.string o.key) := blk_cell HR.out.ob 17
      go_upto_region 22 with fail
      go_cut [3, 9, 10, 11] (fun c s9 s10 s11 wx => c = .bool (o.pre && o.ok3) ∧ RX w o o wk.heap.size wx)
      case first =>
        clear hgd
        cases hp : o.pre with
        | true =>
          cases hb : o.hasB o.rn o.rr with
          | true =>
            have hm : o.namesB o.rn o.rr false = true := by simp [OpG.namesB, hb]
            rw [hm]
            cases hu : o.namesB o.un o.ur true with
            | true =>
              have hv : (noneB o.un o.ur || o.hasB o.un o.ur) = true := by simpa [OpG.namesB] using hu
              cases es : (o.un == o.rn && o.ur == o.rr) with
              | true =>
                have hz2 := st_eq es
                as_aux_lemma =>
                  have HV := Lib.hid (show false = (o.pre && o.ok3) by simp [OpG.ok3, OpG.chB, OpG.namesB, hp, hb, hv, es])
                  go_wp2_with fail
                  go_meet
                  exact ⟨congrArg Value.bool HV.out, HR.out⟩
              | false =>
                have hz2 := st_eq es
                as_aux_lemma =>
                  have HV := Lib.hid (show keyB o.key.data.toList = (o.pre && o.ok3) by simp [OpG.ok3, OpG.chB, OpG.namesB, hp, hb, hv, es])
                  go_wp2_with fail
                  go_meet
                  exact ⟨congrArg Value.bool HV.out, HR.out⟩
            | false =>
              have hv : (noneB o.un o.ur || o.hasB o.un o.ur) = false := by simpa [OpG.namesB] using hu
              as_aux_lemma =>
                have HV := Lib.hid (show false = (o.pre && o.ok3) by simp [OpG.ok3, OpG.chB, OpG.namesB, hp, hb, hv])
                go_wp2_with fail
                go_meet
                exact ⟨congrArg Value.bool HV.out, HR.out⟩
          | false =>
            have hm : o.namesB o.rn o.rr false = false := by simp [OpG.namesB, hb]
            rw [hm]
            as_aux_lemma =>
              have HV := Lib.hid (show false = (o.pre && o.ok3) by simp [OpG.ok3, OpG.chB, OpG.namesB, hp, hb])
              go_wp2_with fail
              go_meet
              exact ⟨congrArg Value.bool HV.out, HR.out⟩
        | false =>
          as_aux_lemma =>
            have HV := Lib.hid (show false = (o.pre && o.ok3) by simp [OpG.ok3, OpG.chB, OpG.namesB, hp])
            go_wp2_with fail
            go_meet
            exact ⟨congrArg Value.bool HV.out, HR.out⟩
      case rest =>
        have HR := Lib.hid hcut.2
        have HC1 := Lib.hid hcut.1
        clear hcut c11 c12 c15 c16 c17
        have c0 : wc.cell? ⟨w.heap.size, 0, none⟩ = some (.int .i64 o.n) := blk_cell HR.out.ob 0
        have c1 : wc.cell? ⟨w.heap.size, 1, none⟩ = some (.int .i64 o.r) := blk_cell HR.out.ob 1
        have c2 : wc.cell? ⟨w.heap.size, 2, none⟩ = some (.int .i64 o.d.x0) := blk_cell HR.out.ob 2
        have c3 : wc.cell? ⟨w.heap.size, 3, none⟩ = some (.int .i64 o.d.x1) := blk_cell HR.out.ob 3
        have c4 : wc.cell? ⟨w.heap.size, 4, none⟩ = some (.int .i64 o.d.x2) := blk_cell HR.out.ob 4
        have c5 : wc.cell? ⟨w.heap.size, 5, none⟩ = some (.int .i64 o.d.x3) := blk_cell HR.out.ob 5
        have c6 : wc.cell? ⟨w.heap.size, 6, none⟩ = some (.int .i64 o.d.x4) := blk_cell HR.out.ob 6
        have c7 : wc.cell? ⟨w.heap.size, 7, none⟩ = some (.int .i64 o.d.x5) := blk_cell HR.out.ob 7
        have c8 : wc.cell? ⟨w.heap.size, 8, none⟩ = some (.int .i64 o.d.x6) := blk_cell HR.out.ob 8
        have c9 : wc.cell? ⟨w.heap.size, 9, none⟩ = some (.int .i64 o.d.x7) := blk_cell HR.out.ob 9
        have c10 : wc.cell? ⟨w.heap.size, 10, none⟩ = some (.int .i64 o.kd) := blk_cell HR.out.ob 10
        have c11 : wc.cell? ⟨w.heap.size, 11, none⟩ = some (.int .i64 o.rn) := blk_cell HR.out.ob 11
        have c12 : wc.cell? ⟨w.heap.size, 12, none⟩ = some (.int .i64 o.rr) := blk_cell HR.out.ob 12
        have c15 : wc.cell? ⟨w.heap.size, 15, none⟩ = some (.int .i64 o.un) := blk_cell HR.out.ob 15
        have c16 : wc.cell? ⟨w.heap.size, 16, none⟩ = some (.int .i64 o.ur) := blk_cell HR.out.ob 16
        have c17 : wc.cell? ⟨w.heap.size, 17, none⟩ = some (.string o.key) := blk_cell HR.out.ob 17
        go_upto_region 37 with (refine wpList_store_row rfl (.tmp 5) (.tmp 163) 39 rfl wk.heap.size _ (OpG.cells o.x3) rfl rfl HR.out.xb (by kernel_rfl) (by kernel_rfl) (by kernel_rfl) ?_; intro wz hch hxz; have HR := Lib.hid (HR.out.put hch hxz); clear hch hxz c0 c1 c2 c3 c4 c5 c6 c7 c8 c9 c10 c11 c12 c15 c16 c17)
        have heq := fun w => eqOp_run o.x3 o w
        cases hok : (o.pre && o.ok3) with
        | true => as_aux_lemma =>
          have HV := Lib.hid (show o.x3.beq o = o.rightP by rw [Bool.and_eq_true] at hok; simp [OpG.rightP, HK.out, hok.1, hok.2])
          obtain rfl := HC1.out.trans (congrArg Value.bool hok)
          go_wp2_with (first | refine wpList_load_whole (.tmp 1) 39 rfl rfl w.heap.size o.cells rfl Tryd.underlying39 (by kernel_rfl) HR.out.ob ?_ | refine wpList_load_whole (.tmp 5) 39 rfl rfl wk.heap.size (OpG.cells o.x3) rfl Tryd.underlying39 (by kernel_rfl) HR.out.xb ?_)
          go_ret
          exact ⟨ret_bool HV.out, HR.out.below⟩
        | false => as_aux_lemma =>
          have HV := Lib.hid (show false = o.rightP by
            unfold OpG.rightP
            simp only [HK.out]
            cases hp : o.pre <;> cases hq : o.ok3 <;> simp_all)
          obtain rfl := HC1.out.trans (congrArg Value.bool hok)
          go_wp2_with fail
          go_ret
          exact ⟨ret_bool HV.out, HR.out.below⟩
end Go.Proofs.YtiamohfpohjdpaaDoor
