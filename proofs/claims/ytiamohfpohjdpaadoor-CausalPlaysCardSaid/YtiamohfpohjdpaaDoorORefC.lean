/- WHETHER AN OPERATION MAY BE, by the reference: a setting. WHETHER AN OPERATION MAY BE, by the reference: a mark. WHETHER AN OPERATION MAY BE, by the reference: any operation. -/
import Derived.Test.YtiamohfpohjdpaaDoorORefA
import Derived.Test.YtiamohfpohjdpaaDoorORefB
import Derived.Test.YtiamohfpohjdpaaDoorORef
namespace Go.Proofs.YtiamohfpohjdpaaDoor
open Go.RowKit Go.Joins
set_option linter.unusedSimpArgs false
set_option linter.unusedVariables false
set_option maxHeartbeats 16000000 in
set_option maxRecDepth 100000 in
theorem refRight_k4 (o : OpG) (hf : o.fine) (w : World) (hk : o.kd = 4) : Calls Tryd.prog 30 #[o.val] w fun e w' => e = .returned (.bool o.rightP) ∧ Below w.heap.size w w' := by
  obtain ⟨hf1, hf2, hf3⟩ := hf
  have hgd := run_opGuard
  have hgs := run_stGuard
  have HF := Lib.hid (And.intro hf1 (And.intro hf2 hf3))
  clear hf1 hf2 hf3
  have k1 : (o.kd == 1) = false := by simp [hk]
  have k2 : (o.kd == 2) = false := by simp [hk]
  have k3 : (o.kd == 3) = false := by simp [hk]
  have k4 : (o.kd == 4) = true := by simp [hk]
  have HK := Lib.hid hk
  clear hk
  go_enter Tryd.func30, Tryd.ntmps30
  go_wp2_with fail
  refine calls_let' (OpBox o w) (opBox_new o w) (fun x hx => ?_)
  refine (right1_any o.n o.r x).mono ?_
  rintro e w1 ⟨rfl, hb⟩
  have HX := Lib.hid (hx.later hb)
  clear hx hb
  go_wp2
  go_loopw [3, 4] (fun ok i wr => ∃ q : Nat, q ≤ 8 ∧ i = .int .i64 q ∧ ok = .bool (o.preTo q) ∧ OpBox o w wr) (fun _ i _ => 8 - (RowKit.intOf i).toNat)
  case atStart => exact ⟨0, by omega, rfl, rfl, HX.out⟩
  case round =>
    obtain ⟨q, hq, rfl, rfl, hbx⟩ := hrel
    have HB := Lib.hid hbx
    clear hbx HX
    by_cases h8 : q < 8
    · as_aux_lemma =>
      have hc : wr.cell? ⟨w.heap.size, 2 + q, none⟩ = some (.int .i64 (o.d.nth q)) := (blk_cell HB.out.2 (2 + q)).trans (nth_cell o q h8)
      have c0 : wr.cell? ⟨w.heap.size, 0, none⟩ = some (.int .i64 o.n) := blk_cell HB.out.2 0
      clear hgd hgs
      cases hp : o.preTo q with
      | false =>
        have HV := Lib.hid (show false = o.preTo (q + 1) by simp [OpG.preTo, hp])
        clear hp
        go_wp2
        go_quiet (fail)
        go_wp2
        go_roundw
        case rel => exact ⟨q + 1, by omega, by go_num, congrArg Value.bool HV.out, HB.out.later (by first | exact Below.drew (Below.refl _ _) | exact below_drewN (Below.refl _ _) _)⟩
        case measure => simp [RowKit.intOf]; omega
      | true =>
        by_cases h0 : 0 ≤ o.d.nth q
        · have d0 : decide (0 ≤ o.d.nth q) = true := decide_eq_true h0
          have HV := Lib.hid (show decide (o.d.nth q < o.n) = o.preTo (q + 1) by simp [OpG.preTo, hp, h0])
          clear hp
          go_wp2
          go_quiet (fail)
          go_wp2
          go_roundw
          case rel => exact ⟨q + 1, by omega, by go_num, congrArg Value.bool HV.out, HB.out.later (by first | exact Below.drew (Below.refl _ _) | exact below_drewN (Below.refl _ _) _)⟩
          case measure => simp [RowKit.intOf]; omega
        · have d0 : decide (0 ≤ o.d.nth q) = false := decide_eq_false h0
          have HV := Lib.hid (show false = o.preTo (q + 1) by simp [OpG.preTo, hp, h0])
          clear hp h0
          go_wp2
          go_quiet (fail)
          go_wp2
          go_roundw
          case rel => exact ⟨q + 1, by omega, by go_num, congrArg Value.bool HV.out, HB.out.later (by first | exact Below.drew (Below.refl _ _) | exact below_drewN (Below.refl _ _) _)⟩
          case measure => simp [RowKit.intOf]; omega
    · obtain rfl : q = 8 := by omega
      rw [pre_to]
      have c10 : wr.cell? ⟨w.heap.size, 10, none⟩ = some (.int .i64 o.kd) := blk_cell HB.out.2 10
      have hz := heap_lt HB.out.2
      obtain ⟨wk, hwk⟩ : ∃ wk, wk = wr := ⟨_, rfl⟩
      subst hwk
      go_upto_region 25 with (first | refine wpList_load_whole (.tmp 1) 39 rfl rfl w.heap.size o.cells rfl Tryd.underlying39 (by kernel_rfl) HB.out.2 ?_ | refine wpList_store_fresh rfl (.tmp 5) (.tmp 44) 39 rfl wk.heap.size _ _ rfl rfl rfl (by kernel_rfl) (by kernel_rfl) (by kernel_rfl) ?_)
      refine wp_let' (RX w o o wk.heap.size) (rx_new (x := o) HB.out) (fun x hx => ?_)
      have HR := Lib.hid hx
      clear hx c10
      have M1 := Lib.hid (fun w => names_any o o.rn o.rr false w)
      have WD := Lib.hid (fun w => refWord_any o.name HF.out.2.1 w)
      have VL := Lib.hid (fun w => refValue_any o.value HF.out.2.2 w)
      have c11 : x.cell? ⟨w.heap.size, 11, none⟩ = some (.int .i64 o.rn) := blk_cell HR.out.ob 11
      have c12 : x.cell? ⟨w.heap.size, 12, none⟩ = some (.int .i64 o.rr) := blk_cell HR.out.ob 12
      go_wp2_with (first | refine wpList_load_whole (.tmp 1) 39 rfl rfl w.heap.size o.cells rfl Tryd.underlying39 (by kernel_rfl) HR.out.ob ?_)
      with_reducible refine (M1.out _).mono ?_
      rintro e wq ⟨rfl, hb⟩
      have HR := Lib.hid (HR.out.later hb)
      clear hb
      clear c11 c12
      have c18 : wq.cell? ⟨w.heap.size, 18, none⟩ = some (.string o.name) := blk_cell HR.out.ob 18
      go_wp2_with (first | refine wpList_load_whole (.tmp 1) 39 rfl rfl w.heap.size o.cells rfl Tryd.underlying39 (by kernel_rfl) HR.out.ob ?_)
      with_reducible refine (WD.out _).mono ?_
      rintro e wq ⟨rfl, hb⟩
      have HR := Lib.hid (HR.out.later hb)
      clear hb
      clear c18
      have c19 : wq.cell? ⟨w.heap.size, 19, none⟩ = some (.string o.value) := blk_cell HR.out.ob 19
      go_wp2_with (first | refine wpList_load_whole (.tmp 1) 39 rfl rfl w.heap.size o.cells rfl Tryd.underlying39 (by kernel_rfl) HR.out.ob ?_)
      with_reducible refine (VL.out _).mono ?_
      rintro e wq ⟨rfl, hb⟩
      have HR := Lib.hid (HR.out.later hb)
      clear hb
      clear c19
      have c11 : wq.cell? ⟨w.heap.size, 11, none⟩ = some (.int .i64 o.rn) := blk_cell HR.out.ob 11
      have c12 : wq.cell? ⟨w.heap.size, 12, none⟩ = some (.int .i64 o.rr) := blk_cell HR.out.ob 12
      have c18 : wq.cell? ⟨w.heap.size, 18, none⟩ = some (.string o.name) := blk_cell HR.out.ob 18
      have c19 : wq.cell? ⟨w.heap.size, 19, none⟩ = some (.string o.value) := blk_cell HR.out.ob 19
      go_upto_region 28 with fail
      go_cut [3, 12, 13, 14] (fun c s12 s13 s14 wx => c = .bool (o.pre && o.ok4) ∧ RX w o o wk.heap.size wx)
      case first =>
        clear hgd
        cases hp : o.pre with
        | true =>
          cases hb : o.hasB o.rn o.rr with
          | true =>
            have hm : o.namesB o.rn o.rr false = true := by simp [OpG.namesB, hb]
            rw [hm]
            cases hn : nameB o.name with
            | true =>
              as_aux_lemma =>
                have HV := Lib.hid (show valB o.value = (o.pre && o.ok4) by simp [OpG.ok4, OpG.chB, OpG.namesB, OpG.ok2, hp, hb, hn])
                go_wp2_with fail
                go_meet
                exact ⟨congrArg Value.bool HV.out, HR.out⟩
            | false =>
              as_aux_lemma =>
                have HV := Lib.hid (show false = (o.pre && o.ok4) by simp [OpG.ok4, OpG.chB, OpG.namesB, OpG.ok2, hp, hb, hn])
                go_wp2_with fail
                go_meet
                exact ⟨congrArg Value.bool HV.out, HR.out⟩
          | false =>
            have hm : o.namesB o.rn o.rr false = false := by simp [OpG.namesB, hb]
            rw [hm]
            as_aux_lemma =>
              have HV := Lib.hid (show false = (o.pre && o.ok4) by simp [OpG.ok4, OpG.chB, OpG.namesB, OpG.ok2, hp, hb])
              go_wp2_with fail
              go_meet
              exact ⟨congrArg Value.bool HV.out, HR.out⟩
        | false =>
          as_aux_lemma =>
            have HV := Lib.hid (show false = (o.pre && o.ok4) by simp [OpG.ok4, OpG.chB, OpG.namesB, hp])
            go_wp2_with fail
            go_meet
            exact ⟨congrArg Value.bool HV.out, HR.out⟩
      case rest =>
        have HR := Lib.hid hcut.2
        have HC1 := Lib.hid hcut.1
        clear hcut c11 c12 c18 c19
        have c0 : wc.cell? ⟨w.heap.size, 0, none⟩ = some (.int .i64 o.n) := blk_cell HR.out.ob 0
        have c1 : wc.cell? ⟨w.heap.size, 1, none⟩ = some (.int .i64 o.r) := blk_cell HR.out.ob 1
        have c2 : wc.cell? ⟨w.heap.size, 2, none⟩ = some (.int .i64 o.d.x0) := blk_cell HR.out.ob 2
        have c3 : wc.cell? ⟨w.heap.size, 3, none⟩ = some (.int .i64 o.d.x1) := blk_cell HR.out.ob 3
        have c4 : wc.cell? ⟨w.heap.size, 4, none⟩ = some (.int .i64 o.d.x2) := blk_cell HR.out.ob 4
        have c5 : wc.cell? ⟨w.heap.size, 5, none⟩ = some (.int .i64 o.d.x3) := blk_cell HR.out.ob 5
        have c6 : wc.cell? ⟨w.heap.size, 6, none⟩ = some (.int .i64 o.d.x4) := blk_cell HR.out.ob 6
        have c7 : wc.cell? ⟨w.heap.size, 7, none⟩ = some (.int .i64 o.d.x5) := blk_cell HR.out.ob 7
        have c8 : wc.cell? ⟨w.heap.size, 8, none⟩ = some (.int .i64 o.d.x6) := blk_cell HR.out.ob 8
        have c9 : wc.cell? ⟨w.heap.size, 9, none⟩ = some (.int .i64 o.d.x7) := blk_cell HR.out.ob 9
        have c10 : wc.cell? ⟨w.heap.size, 10, none⟩ = some (.int .i64 o.kd) := blk_cell HR.out.ob 10
        have c11 : wc.cell? ⟨w.heap.size, 11, none⟩ = some (.int .i64 o.rn) := blk_cell HR.out.ob 11
        have c12 : wc.cell? ⟨w.heap.size, 12, none⟩ = some (.int .i64 o.rr) := blk_cell HR.out.ob 12
        have c18 : wc.cell? ⟨w.heap.size, 18, none⟩ = some (.string o.name) := blk_cell HR.out.ob 18
        have c19 : wc.cell? ⟨w.heap.size, 19, none⟩ = some (.string o.value) := blk_cell HR.out.ob 19
        go_upto_region 37 with (refine wpList_store_row rfl (.tmp 5) (.tmp 198) 39 rfl wk.heap.size _ (OpG.cells o.x4) rfl rfl HR.out.xb (by kernel_rfl) (by kernel_rfl) (by kernel_rfl) ?_; intro wz hch hxz; have HR := Lib.hid (HR.out.put hch hxz); clear hch hxz c0 c1 c2 c3 c4 c5 c6 c7 c8 c9 c10 c11 c12 c18 c19)
        have heq := fun w => eqOp_run o.x4 o w
        cases hok : (o.pre && o.ok4) with
        | true => as_aux_lemma =>
          have HV := Lib.hid (show o.x4.beq o = o.rightP by rw [Bool.and_eq_true] at hok; simp [OpG.rightP, HK.out, hok.1, hok.2])
          obtain rfl := HC1.out.trans (congrArg Value.bool hok)
          go_wp2_with (first | refine wpList_load_whole (.tmp 1) 39 rfl rfl w.heap.size o.cells rfl Tryd.underlying39 (by kernel_rfl) HR.out.ob ?_ | refine wpList_load_whole (.tmp 5) 39 rfl rfl wk.heap.size (OpG.cells o.x4) rfl Tryd.underlying39 (by kernel_rfl) HR.out.xb ?_)
          go_ret
          exact ⟨ret_bool HV.out, HR.out.below⟩
        | false => as_aux_lemma =>
          have HV := Lib.hid (show false = o.rightP by
            unfold OpG.rightP
            simp only [HK.out]
            cases hp : o.pre <;> cases hq : o.ok4 <;> simp_all)
          obtain rfl := HC1.out.trans (congrArg Value.bool hok)
          go_wp2_with fail
          go_ret
          exact ⟨ret_bool HV.out, HR.out.below⟩
end Go.Proofs.YtiamohfpohjdpaaDoor
namespace Go.Proofs.YtiamohfpohjdpaaDoor
open Go.RowKit Go.Joins
set_option linter.unusedSimpArgs false
set_option linter.unusedVariables false
set_option maxHeartbeats 16000000 in
set_option maxRecDepth 100000 in
theorem refRight_k5 (o : OpG) (hf : o.fine) (w : World) (hk : o.kd = 5) : Calls Tryd.prog 30 #[o.val] w fun e w' => e = .returned (.bool o.rightP) ∧ Below w.heap.size w w' := by
  obtain ⟨hf1, hf2, hf3⟩ := hf
  have hgd := run_opGuard
  have hgs := run_stGuard
  have HF := Lib.hid (And.intro hf1 (And.intro hf2 hf3))
  clear hf1 hf2 hf3
  have k1 : (o.kd == 1) = false := by simp [hk]
  have k2 : (o.kd == 2) = false := by simp [hk]
  have k3 : (o.kd == 3) = false := by simp [hk]
  have k4 : (o.kd == 4) = false := by simp [hk]
  have k5 : (o.kd == 5) = true := by simp [hk]
  have HK := Lib.hid hk
  clear hk
  go_enter Tryd.func30, Tryd.ntmps30
  go_wp2_with fail
  refine calls_let' (OpBox o w) (opBox_new o w) (fun x hx => ?_)
  refine (right1_any o.n o.r x).mono ?_
  rintro e w1 ⟨rfl, hb⟩
  have HX := Lib.hid (hx.later hb)
  clear hx hb
  go_wp2
  go_loopw [3, 4] (fun ok i wr => ∃ q : Nat, q ≤ 8 ∧ i = .int .i64 q ∧ ok = .bool (o.preTo q) ∧ OpBox o w wr) (fun _ i _ => 8 - (RowKit.intOf i).toNat)
  case atStart => exact ⟨0, by omega, rfl, rfl, HX.out⟩
  case round =>
    obtain ⟨q, hq, rfl, rfl, hbx⟩ := hrel
    have HB := Lib.hid hbx
    clear hbx HX
    by_cases h8 : q < 8
    · as_aux_lemma =>
      have hc : wr.cell? ⟨w.heap.size, 2 + q, none⟩ = some (.int .i64 (o.d.nth q)) := (blk_cell HB.out.2 (2 + q)).trans (nth_cell o q h8)
      have c0 : wr.cell? ⟨w.heap.size, 0, none⟩ = some (.int .i64 o.n) := blk_cell HB.out.2 0
      clear hgd hgs
      cases hp : o.preTo q with
      | false =>
        have HV := Lib.hid (show false = o.preTo (q + 1) by simp [OpG.preTo, hp])
        clear hp
        go_wp2
        go_quiet (fail)
        go_wp2
        go_roundw
        case rel => exact ⟨q + 1, by omega, by go_num, congrArg Value.bool HV.out, HB.out.later (by first | exact Below.drew (Below.refl _ _) | exact below_drewN (Below.refl _ _) _)⟩
        case measure => simp [RowKit.intOf]; omega
      | true =>
        by_cases h0 : 0 ≤ o.d.nth q
        · have d0 : decide (0 ≤ o.d.nth q) = true := decide_eq_true h0
          have HV := Lib.hid (show decide (o.d.nth q < o.n) = o.preTo (q + 1) by simp [OpG.preTo, hp, h0])
          clear hp
          go_wp2
          go_quiet (fail)
          go_wp2
          go_roundw
          case rel => exact ⟨q + 1, by omega, by go_num, congrArg Value.bool HV.out, HB.out.later (by first | exact Below.drew (Below.refl _ _) | exact below_drewN (Below.refl _ _) _)⟩
          case measure => simp [RowKit.intOf]; omega
        · have d0 : decide (0 ≤ o.d.nth q) = false := decide_eq_false h0
          have HV := Lib.hid (show false = o.preTo (q + 1) by simp [OpG.preTo, hp, h0])
          clear hp h0
          go_wp2
          go_quiet (fail)
          go_wp2
          go_roundw
          case rel => exact ⟨q + 1, by omega, by go_num, congrArg Value.bool HV.out, HB.out.later (by first | exact Below.drew (Below.refl _ _) | exact below_drewN (Below.refl _ _) _)⟩
          case measure => simp [RowKit.intOf]; omega
    · obtain rfl : q = 8 := by omega
      rw [pre_to]
      have c10 : wr.cell? ⟨w.heap.size, 10, none⟩ = some (.int .i64 o.kd) := blk_cell HB.out.2 10
      have hz := heap_lt HB.out.2
      obtain ⟨wk, hwk⟩ : ∃ wk, wk = wr := ⟨_, rfl⟩
      subst hwk
      go_upto_region 31 with (first | refine wpList_load_whole (.tmp 1) 39 rfl rfl w.heap.size o.cells rfl Tryd.underlying39 (by kernel_rfl) HB.out.2 ?_ | refine wpList_store_fresh rfl (.tmp 5) (.tmp 44) 39 rfl wk.heap.size _ _ rfl rfl rfl (by kernel_rfl) (by kernel_rfl) (by kernel_rfl) ?_)
      refine wp_let' (RX w o o wk.heap.size) (rx_new (x := o) HB.out) (fun x hx => ?_)
      have HR := Lib.hid hx
      clear hx c10
      have M1 := Lib.hid (fun w => names_any o o.fn o.fr false w)
      have M2 := Lib.hid (fun w => names_any o o.tn o.tr false w)
      have WD := Lib.hid (fun w => refWord_any o.name HF.out.2.1 w)
      have VL := Lib.hid (fun w => refValue_any o.value HF.out.2.2 w)
      have c20 : x.cell? ⟨w.heap.size, 20, none⟩ = some (.int .i64 o.fn) := blk_cell HR.out.ob 20
      have c21 : x.cell? ⟨w.heap.size, 21, none⟩ = some (.int .i64 o.fr) := blk_cell HR.out.ob 21
      go_wp2_with (first | refine wpList_load_whole (.tmp 1) 39 rfl rfl w.heap.size o.cells rfl Tryd.underlying39 (by kernel_rfl) HR.out.ob ?_)
      with_reducible refine (M1.out _).mono ?_
      rintro e wq ⟨rfl, hb⟩
      have HR := Lib.hid (HR.out.later hb)
      clear hb
      clear c20 c21
      have c23 : wq.cell? ⟨w.heap.size, 23, none⟩ = some (.int .i64 o.tn) := blk_cell HR.out.ob 23
      have c24 : wq.cell? ⟨w.heap.size, 24, none⟩ = some (.int .i64 o.tr) := blk_cell HR.out.ob 24
      go_wp2_with (first | refine wpList_load_whole (.tmp 1) 39 rfl rfl w.heap.size o.cells rfl Tryd.underlying39 (by kernel_rfl) HR.out.ob ?_)
      with_reducible refine (M2.out _).mono ?_
      rintro e wq ⟨rfl, hb⟩
      have HR := Lib.hid (HR.out.later hb)
      clear hb
      clear c23 c24
      have c18 : wq.cell? ⟨w.heap.size, 18, none⟩ = some (.string o.name) := blk_cell HR.out.ob 18
      go_wp2_with (first | refine wpList_load_whole (.tmp 1) 39 rfl rfl w.heap.size o.cells rfl Tryd.underlying39 (by kernel_rfl) HR.out.ob ?_)
      with_reducible refine (WD.out _).mono ?_
      rintro e wq ⟨rfl, hb⟩
      have HR := Lib.hid (HR.out.later hb)
      clear hb
      clear c18
      have c19 : wq.cell? ⟨w.heap.size, 19, none⟩ = some (.string o.value) := blk_cell HR.out.ob 19
      go_wp2_with (first | refine wpList_load_whole (.tmp 1) 39 rfl rfl w.heap.size o.cells rfl Tryd.underlying39 (by kernel_rfl) HR.out.ob ?_)
      with_reducible refine (VL.out _).mono ?_
      rintro e wq ⟨rfl, hb⟩
      have HR := Lib.hid (HR.out.later hb)
      clear hb
      clear c19
      have c18 : wq.cell? ⟨w.heap.size, 18, none⟩ = some (.string o.name) := blk_cell HR.out.ob 18
      have c19 : wq.cell? ⟨w.heap.size, 19, none⟩ = some (.string o.value) := blk_cell HR.out.ob 19
      have c20 : wq.cell? ⟨w.heap.size, 20, none⟩ = some (.int .i64 o.fn) := blk_cell HR.out.ob 20
      have c21 : wq.cell? ⟨w.heap.size, 21, none⟩ = some (.int .i64 o.fr) := blk_cell HR.out.ob 21
      have c22 : wq.cell? ⟨w.heap.size, 22, none⟩ = some (.bool o.fa) := blk_cell HR.out.ob 22
      have c23 : wq.cell? ⟨w.heap.size, 23, none⟩ = some (.int .i64 o.tn) := blk_cell HR.out.ob 23
      have c24 : wq.cell? ⟨w.heap.size, 24, none⟩ = some (.int .i64 o.tr) := blk_cell HR.out.ob 24
      have c25 : wq.cell? ⟨w.heap.size, 25, none⟩ = some (.bool o.ta) := blk_cell HR.out.ob 25
      go_upto_region 35 with fail
      go_cut [3, 15, 16, 17, 18] (fun c s15 s16 s17 s18 wx => c = .bool (o.pre && o.ok5) ∧ RX w o o wk.heap.size wx)
      case first =>
        clear hgd
        cases hp : o.pre with
        | true =>
          cases hb : o.hasB o.fn o.fr with
          | true =>
            have hm : o.namesB o.fn o.fr false = true := by simp [OpG.namesB, hb]
            rw [hm]
            cases hc : o.hasB o.tn o.tr with
            | true =>
              have hm2 : o.namesB o.tn o.tr false = true := by simp [OpG.namesB, hc]
              rw [hm2]
              cases hn : nameB o.name with
              | true =>
                as_aux_lemma =>
                  have HV := Lib.hid (show valB o.value = (o.pre && o.ok5) by simp [OpG.ok5, OpG.chB, OpG.namesB, OpG.ok50, hp, hb, hc, hn])
                  go_wp2_with fail
                  go_meet
                  exact ⟨congrArg Value.bool HV.out, HR.out⟩
              | false =>
                as_aux_lemma =>
                  have HV := Lib.hid (show false = (o.pre && o.ok5) by simp [OpG.ok5, OpG.chB, OpG.namesB, OpG.ok50, hp, hb, hc, hn])
                  go_wp2_with fail
                  go_meet
                  exact ⟨congrArg Value.bool HV.out, HR.out⟩
            | false =>
              have hm2 : o.namesB o.tn o.tr false = false := by simp [OpG.namesB, hc]
              rw [hm2]
              as_aux_lemma =>
                have HV := Lib.hid (show false = (o.pre && o.ok5) by simp [OpG.ok5, OpG.chB, OpG.namesB, OpG.ok50, hp, hb, hc])
                go_wp2_with fail
                go_meet
                exact ⟨congrArg Value.bool HV.out, HR.out⟩
          | false =>
            have hm : o.namesB o.fn o.fr false = false := by simp [OpG.namesB, hb]
            rw [hm]
            as_aux_lemma =>
              have HV := Lib.hid (show false = (o.pre && o.ok5) by simp [OpG.ok5, OpG.chB, OpG.namesB, OpG.ok50, hp, hb])
              go_wp2_with fail
              go_meet
              exact ⟨congrArg Value.bool HV.out, HR.out⟩
        | false =>
          as_aux_lemma =>
            have HV := Lib.hid (show false = (o.pre && o.ok5) by simp [OpG.ok5, OpG.chB, OpG.namesB, hp])
            go_wp2_with fail
            go_meet
            exact ⟨congrArg Value.bool HV.out, HR.out⟩
      case rest =>
        have HR := Lib.hid hcut.2
        have HC1 := Lib.hid hcut.1
        clear hcut c18 c19 c20 c21 c22 c23 c24 c25
        have c0 : wc.cell? ⟨w.heap.size, 0, none⟩ = some (.int .i64 o.n) := blk_cell HR.out.ob 0
        have c1 : wc.cell? ⟨w.heap.size, 1, none⟩ = some (.int .i64 o.r) := blk_cell HR.out.ob 1
        have c2 : wc.cell? ⟨w.heap.size, 2, none⟩ = some (.int .i64 o.d.x0) := blk_cell HR.out.ob 2
        have c3 : wc.cell? ⟨w.heap.size, 3, none⟩ = some (.int .i64 o.d.x1) := blk_cell HR.out.ob 3
        have c4 : wc.cell? ⟨w.heap.size, 4, none⟩ = some (.int .i64 o.d.x2) := blk_cell HR.out.ob 4
        have c5 : wc.cell? ⟨w.heap.size, 5, none⟩ = some (.int .i64 o.d.x3) := blk_cell HR.out.ob 5
        have c6 : wc.cell? ⟨w.heap.size, 6, none⟩ = some (.int .i64 o.d.x4) := blk_cell HR.out.ob 6
        have c7 : wc.cell? ⟨w.heap.size, 7, none⟩ = some (.int .i64 o.d.x5) := blk_cell HR.out.ob 7
        have c8 : wc.cell? ⟨w.heap.size, 8, none⟩ = some (.int .i64 o.d.x6) := blk_cell HR.out.ob 8
        have c9 : wc.cell? ⟨w.heap.size, 9, none⟩ = some (.int .i64 o.d.x7) := blk_cell HR.out.ob 9
        have c10 : wc.cell? ⟨w.heap.size, 10, none⟩ = some (.int .i64 o.kd) := blk_cell HR.out.ob 10
        have c18 : wc.cell? ⟨w.heap.size, 18, none⟩ = some (.string o.name) := blk_cell HR.out.ob 18
        have c19 : wc.cell? ⟨w.heap.size, 19, none⟩ = some (.string o.value) := blk_cell HR.out.ob 19
        have c20 : wc.cell? ⟨w.heap.size, 20, none⟩ = some (.int .i64 o.fn) := blk_cell HR.out.ob 20
        have c21 : wc.cell? ⟨w.heap.size, 21, none⟩ = some (.int .i64 o.fr) := blk_cell HR.out.ob 21
        have c22 : wc.cell? ⟨w.heap.size, 22, none⟩ = some (.bool o.fa) := blk_cell HR.out.ob 22
        have c23 : wc.cell? ⟨w.heap.size, 23, none⟩ = some (.int .i64 o.tn) := blk_cell HR.out.ob 23
        have c24 : wc.cell? ⟨w.heap.size, 24, none⟩ = some (.int .i64 o.tr) := blk_cell HR.out.ob 24
        have c25 : wc.cell? ⟨w.heap.size, 25, none⟩ = some (.bool o.ta) := blk_cell HR.out.ob 25
        go_upto_region 37 with (refine wpList_store_row rfl (.tmp 5) (.tmp 244) 39 rfl wk.heap.size _ (OpG.cells o.x5) rfl rfl HR.out.xb (by kernel_rfl) (by kernel_rfl) (by kernel_rfl) ?_; intro wz hch hxz; have HR := Lib.hid (HR.out.put hch hxz); clear hch hxz c0 c1 c2 c3 c4 c5 c6 c7 c8 c9 c10 c18 c19 c20 c21 c22 c23 c24 c25)
        have heq := fun w => eqOp_run o.x5 o w
        cases hok : (o.pre && o.ok5) with
        | true => as_aux_lemma =>
          have HV := Lib.hid (show o.x5.beq o = o.rightP by rw [Bool.and_eq_true] at hok; simp [OpG.rightP, HK.out, hok.1, hok.2])
          obtain rfl := HC1.out.trans (congrArg Value.bool hok)
          go_wp2_with (first | refine wpList_load_whole (.tmp 1) 39 rfl rfl w.heap.size o.cells rfl Tryd.underlying39 (by kernel_rfl) HR.out.ob ?_ | refine wpList_load_whole (.tmp 5) 39 rfl rfl wk.heap.size (OpG.cells o.x5) rfl Tryd.underlying39 (by kernel_rfl) HR.out.xb ?_)
          go_ret
          exact ⟨ret_bool HV.out, HR.out.below⟩
        | false => as_aux_lemma =>
          have HV := Lib.hid (show false = o.rightP by
            unfold OpG.rightP
            simp only [HK.out]
            cases hp : o.pre <;> cases hq : o.ok5 <;> simp_all)
          obtain rfl := HC1.out.trans (congrArg Value.bool hok)
          go_wp2_with fail
          go_ret
          exact ⟨ret_bool HV.out, HR.out.below⟩
end Go.Proofs.YtiamohfpohjdpaaDoor
namespace Go.Proofs.YtiamohfpohjdpaaDoor
open Go.RowKit Go.Joins
theorem refRight_any (o : OpG) (hf : o.fine) (w : World) : Calls Tryd.prog 30 #[o.val] w fun e w' => e = .returned (.bool o.rightP) ∧ Below w.heap.size w w' := by
  by_cases k1 : o.kd = 1
  · exact refRight_k1 o hf w k1
  by_cases k2 : o.kd = 2
  · exact refRight_k2 o hf w k2
  by_cases k3 : o.kd = 3
  · exact refRight_k3 o hf w k3
  by_cases k4 : o.kd = 4
  · exact refRight_k4 o hf w k4
  by_cases k5 : o.kd = 5
  · exact refRight_k5 o hf w k5
  exact refRight_k6 o hf w ⟨k1, k2, k3, k4, k5⟩
end Go.Proofs.YtiamohfpohjdpaaDoor
