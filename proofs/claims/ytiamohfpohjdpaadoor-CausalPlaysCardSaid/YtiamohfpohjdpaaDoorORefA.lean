/- WHETHER AN OPERATION MAY BE, by the reference: an insertion. WHETHER AN OPERATION MAY BE, by the reference: of no kind. -/
import Derived.Test.YtiamohfpohjdpaaDoorORef
namespace Go.Proofs.YtiamohfpohjdpaaDoor
open Go.RowKit Go.Joins
set_option linter.unusedSimpArgs false
set_option linter.unusedVariables false
set_option maxHeartbeats 16000000 in
set_option maxRecDepth 100000 in
theorem refRight_k1 (o : OpG) (hf : o.fine) (w : World) (hk : o.kd = 1) : Calls Tryd.prog 30 #[o.val] w fun e w' => e = .returned (.bool o.rightP) ∧ Below w.heap.size w w' := by
  obtain ⟨hf1, hf2, hf3⟩ := hf
  have hgd := run_opGuard
  have hgs := run_stGuard
  have HF := Lib.hid (And.intro hf1 (And.intro hf2 hf3))
  clear hf1 hf2 hf3
  have k1 : (o.kd == 1) = true := by simp [hk]
  have HK := Lib.hid hk
  clear hk
  go_enter Tryd.func30, Tryd.ntmps30
  go_wp2_with fail
  refine calls_let' (OpBox o w) (opBox_new o w) (fun x hx => ?_)
  refine (right1_any o.n o.r x).mono ?_
  rintro e w1 ⟨rfl, hb⟩
  have HX := Lib.hid (hx.later hb)
  clear hx hb
  go_wp2
  go_loopw [3, 4] (fun ok i wr => ∃ q : Nat, q ≤ 8 ∧ i = .int .i64 q ∧ ok = .bool (o.preTo q) ∧ OpBox o w wr) (fun _ i _ => 8 - (RowKit.intOf i).toNat)
  case atStart => exact ⟨0, by omega, rfl, rfl, HX.out⟩
  case round =>
    obtain ⟨q, hq, rfl, rfl, hbx⟩ := hrel
    have HB := Lib.hid hbx
    clear hbx HX
    by_cases h8 : q < 8
    · as_aux_lemma =>
      have hc : wr.cell? ⟨w.heap.size, 2 + q, none⟩ = some (.int .i64 (o.d.nth q)) := (blk_cell HB.out.2 (2 + q)).trans (nth_cell o q h8)
      have c0 : wr.cell? ⟨w.heap.size, 0, none⟩ = some (.int .i64 o.n) := blk_cell HB.out.2 0
      clear hgd hgs
      cases hp : o.preTo q with
      | false =>
        have HV := Lib.hid (show false = o.preTo (q + 1) by simp [OpG.preTo, hp])
        clear hp
        go_wp2
        go_quiet (fail)
        go_wp2
        go_roundw
        case rel => exact ⟨q + 1, by omega, by go_num, congrArg Value.bool HV.out, HB.out.later (by first | exact Below.drew (Below.refl _ _) | exact below_drewN (Below.refl _ _) _)⟩
        case measure => simp [RowKit.intOf]; omega
      | true =>
        by_cases h0 : 0 ≤ o.d.nth q
        · have d0 : decide (0 ≤ o.d.nth q) = true := decide_eq_true h0
          have HV := Lib.hid (show decide (o.d.nth q < o.n) = o.preTo (q + 1) by simp [OpG.preTo, hp, h0])
          clear hp
          go_wp2
          go_quiet (fail)
          go_wp2
          go_roundw
          case rel => exact ⟨q + 1, by omega, by go_num, congrArg Value.bool HV.out, HB.out.later (by first | exact Below.drew (Below.refl _ _) | exact below_drewN (Below.refl _ _) _)⟩
          case measure => simp [RowKit.intOf]; omega
        · have d0 : decide (0 ≤ o.d.nth q) = false := decide_eq_false h0
          have HV := Lib.hid (show false = o.preTo (q + 1) by simp [OpG.preTo, hp, h0])
          clear hp h0
          go_wp2
          go_quiet (fail)
          go_wp2
          go_roundw
          case rel => exact ⟨q + 1, by omega, by go_num, congrArg Value.bool HV.out, HB.out.later (by first | exact Below.drew (Below.refl _ _) | exact below_drewN (Below.refl _ _) _)⟩
          case measure => simp [RowKit.intOf]; omega
    · obtain rfl : q = 8 := by omega
      rw [pre_to]
      have c10 : wr.cell? ⟨w.heap.size, 10, none⟩ = some (.int .i64 o.kd) := blk_cell HB.out.2 10
      have hz := heap_lt HB.out.2
      obtain ⟨wk, hwk⟩ : ∃ wk, wk = wr := ⟨_, rfl⟩
      subst hwk
      go_upto_region 10 with (first | refine wpList_load_whole (.tmp 1) 39 rfl rfl w.heap.size o.cells rfl Tryd.underlying39 (by kernel_rfl) HB.out.2 ?_ | refine wpList_store_fresh rfl (.tmp 5) (.tmp 44) 39 rfl wk.heap.size _ _ rfl rfl rfl (by kernel_rfl) (by kernel_rfl) (by kernel_rfl) ?_)
      refine wp_let' (RX w o o wk.heap.size) (rx_new (x := o) HB.out) (fun x hx => ?_)
      have HR := Lib.hid hx
      clear hx c10
      have N1 := Lib.hid (fun w => none_any o.rn o.rr w)
      have M1 := Lib.hid (fun w => names_any o o.rn o.rr true w)
      have c11 : x.cell? ⟨w.heap.size, 11, none⟩ = some (.int .i64 o.rn) := blk_cell HR.out.ob 11
      have c12 : x.cell? ⟨w.heap.size, 12, none⟩ = some (.int .i64 o.rr) := blk_cell HR.out.ob 12
      go_wp2_with (first | refine wpList_load_whole (.tmp 1) 39 rfl rfl w.heap.size o.cells rfl Tryd.underlying39 (by kernel_rfl) HR.out.ob ?_)
      with_reducible refine (N1.out _).mono ?_
      rintro e wq ⟨rfl, hb⟩
      have HR := Lib.hid (HR.out.later hb)
      clear hb
      clear c11 c12
      have c11 : wq.cell? ⟨w.heap.size, 11, none⟩ = some (.int .i64 o.rn) := blk_cell HR.out.ob 11
      have c12 : wq.cell? ⟨w.heap.size, 12, none⟩ = some (.int .i64 o.rr) := blk_cell HR.out.ob 12
      go_wp2_with (first | refine wpList_load_whole (.tmp 1) 39 rfl rfl w.heap.size o.cells rfl Tryd.underlying39 (by kernel_rfl) HR.out.ob ?_)
      with_reducible refine (M1.out _).mono ?_
      rintro e wq ⟨rfl, hb⟩
      have HR := Lib.hid (HR.out.later hb)
      clear hb
      clear c11 c12
      have c11 : wq.cell? ⟨w.heap.size, 11, none⟩ = some (.int .i64 o.rn) := blk_cell HR.out.ob 11
      have c12 : wq.cell? ⟨w.heap.size, 12, none⟩ = some (.int .i64 o.rr) := blk_cell HR.out.ob 12
      have c13 : wq.cell? ⟨w.heap.size, 13, none⟩ = some (.int .i64 o.side) := blk_cell HR.out.ob 13
      have c14 : wq.cell? ⟨w.heap.size, 14, none⟩ = some (.int .i64 o.ch) := blk_cell HR.out.ob 14
      go_upto_region 12 with fail
      go_cut [3, 6, 7] (fun c s6 s7 wx => c = .bool (o.pre && o.ok1) ∧ RX w o o wk.heap.size wx)
      case first =>
        clear hgd
        cases hp : o.pre with
        | true =>
          cases rz : noneB o.rn o.rr with
          | true =>
            have hb := none_has (o := o) rz
            have hm : o.namesB o.rn o.rr true = true := by simp [OpG.namesB, rz]
            rw [hm]
            cases s2 : (o.side == 2) with
            | true =>
              by_cases e0 : o.ch = 0
              · have q0 : (o.ch == 0) = true := by simp [e0]
                have E0 := Lib.hid e0
                clear e0
                as_aux_lemma =>
                  have HV := Lib.hid (show true = (o.pre && o.ok1) by simp [OpG.ok1, OpG.chB, OpG.namesB, hp, rz, hb, s2, q0])
                  go_wp2_with fail
                  go_meet
                  exact ⟨congrArg Value.bool HV.out, HR.out⟩
              · have q0 : (o.ch == 0) = false := by simp [e0]
                clear e0
                by_cases e1 : 32 ≤ o.ch
                · have q1 : decide (32 ≤ o.ch) = true := decide_eq_true e1
                  as_aux_lemma =>
                    have HV := Lib.hid (show decide (o.ch ≤ 126) = (o.pre && o.ok1) by simp [OpG.ok1, OpG.chB, OpG.namesB, hp, rz, hb, s2, q0, q1])
                    go_wp2_with fail
                    go_meet
                    exact ⟨congrArg Value.bool HV.out, HR.out⟩
                · have q1 : decide (32 ≤ o.ch) = false := decide_eq_false e1
                  as_aux_lemma =>
                    have HV := Lib.hid (show false = (o.pre && o.ok1) by simp [OpG.ok1, OpG.chB, OpG.namesB, hp, rz, hb, s2, q0, q1])
                    go_wp2_with fail
                    go_meet
                    exact ⟨congrArg Value.bool HV.out, HR.out⟩
            | false =>
              cases s1 : (o.side == 1) with
              | true =>
                as_aux_lemma =>
                  have HV := Lib.hid (show false = (o.pre && o.ok1) by simp [OpG.ok1, OpG.chB, OpG.namesB, hp, rz, hb, s2, s1])
                  go_wp2_with fail
                  go_meet
                  exact ⟨congrArg Value.bool HV.out, HR.out⟩
              | false =>
                as_aux_lemma =>
                  have HV := Lib.hid (show false = (o.pre && o.ok1) by simp [OpG.ok1, OpG.chB, OpG.namesB, hp, rz, hb, s2, s1])
                  go_wp2_with fail
                  go_meet
                  exact ⟨congrArg Value.bool HV.out, HR.out⟩
          | false =>
            cases hb : o.hasB o.rn o.rr with
            | true =>
              have hm : o.namesB o.rn o.rr true = true := by simp [OpG.namesB, hb]
              rw [hm]
              cases s2 : (o.side == 2) with
              | true =>
                by_cases e0 : o.ch = 0
                · have q0 : (o.ch == 0) = true := by simp [e0]
                  have E0 := Lib.hid e0
                  clear e0
                  as_aux_lemma =>
                    have HV := Lib.hid (show true = (o.pre && o.ok1) by simp [OpG.ok1, OpG.chB, OpG.namesB, hp, rz, hb, s2, q0])
                    go_wp2_with fail
                    go_meet
                    exact ⟨congrArg Value.bool HV.out, HR.out⟩
                · have q0 : (o.ch == 0) = false := by simp [e0]
                  clear e0
                  by_cases e1 : 32 ≤ o.ch
                  · have q1 : decide (32 ≤ o.ch) = true := decide_eq_true e1
                    as_aux_lemma =>
                      have HV := Lib.hid (show decide (o.ch ≤ 126) = (o.pre && o.ok1) by simp [OpG.ok1, OpG.chB, OpG.namesB, hp, rz, hb, s2, q0, q1])
                      go_wp2_with fail
                      go_meet
                      exact ⟨congrArg Value.bool HV.out, HR.out⟩
                  · have q1 : decide (32 ≤ o.ch) = false := decide_eq_false e1
                    as_aux_lemma =>
                      have HV := Lib.hid (show false = (o.pre && o.ok1) by simp [OpG.ok1, OpG.chB, OpG.namesB, hp, rz, hb, s2, q0, q1])
                      go_wp2_with fail
                      go_meet
                      exact ⟨congrArg Value.bool HV.out, HR.out⟩
              | false =>
                cases s1 : (o.side == 1) with
                | true =>
                  by_cases e0 : o.ch = 0
                  · have q0 : (o.ch == 0) = true := by simp [e0]
                    have E0 := Lib.hid e0
                    clear e0
                    as_aux_lemma =>
                      have HV := Lib.hid (show true = (o.pre && o.ok1) by simp [OpG.ok1, OpG.chB, OpG.namesB, hp, rz, hb, s2, s1, q0])
                      go_wp2_with fail
                      go_meet
                      exact ⟨congrArg Value.bool HV.out, HR.out⟩
                  · have q0 : (o.ch == 0) = false := by simp [e0]
                    clear e0
                    by_cases e1 : 32 ≤ o.ch
                    · have q1 : decide (32 ≤ o.ch) = true := decide_eq_true e1
                      as_aux_lemma =>
                        have HV := Lib.hid (show decide (o.ch ≤ 126) = (o.pre && o.ok1) by simp [OpG.ok1, OpG.chB, OpG.namesB, hp, rz, hb, s2, s1, q0, q1])
                        go_wp2_with fail
                        go_meet
                        exact ⟨congrArg Value.bool HV.out, HR.out⟩
                    · have q1 : decide (32 ≤ o.ch) = false := decide_eq_false e1
                      as_aux_lemma =>
                        have HV := Lib.hid (show false = (o.pre && o.ok1) by simp [OpG.ok1, OpG.chB, OpG.namesB, hp, rz, hb, s2, s1, q0, q1])
                        go_wp2_with fail
                        go_meet
                        exact ⟨congrArg Value.bool HV.out, HR.out⟩
                | false =>
                  as_aux_lemma =>
                    have HV := Lib.hid (show false = (o.pre && o.ok1) by simp [OpG.ok1, OpG.chB, OpG.namesB, hp, rz, hb, s2, s1])
                    go_wp2_with fail
                    go_meet
                    exact ⟨congrArg Value.bool HV.out, HR.out⟩
            | false =>
              have hm : o.namesB o.rn o.rr true = false := by simp [OpG.namesB, hb, rz]
              rw [hm]
              as_aux_lemma =>
                have HV := Lib.hid (show false = (o.pre && o.ok1) by simp [OpG.ok1, OpG.chB, OpG.namesB, hp, rz, hb])
                go_wp2_with fail
                go_meet
                exact ⟨congrArg Value.bool HV.out, HR.out⟩
        | false =>
          as_aux_lemma =>
            have HV := Lib.hid (show false = (o.pre && o.ok1) by simp [OpG.ok1, OpG.chB, OpG.namesB, hp])
            go_wp2_with fail
            go_meet
            exact ⟨congrArg Value.bool HV.out, HR.out⟩
      case rest =>
        have HR := Lib.hid hcut.2
        have HC1 := Lib.hid hcut.1
        clear hcut c11 c12 c13 c14
        have c0 : wc.cell? ⟨w.heap.size, 0, none⟩ = some (.int .i64 o.n) := blk_cell HR.out.ob 0
        have c1 : wc.cell? ⟨w.heap.size, 1, none⟩ = some (.int .i64 o.r) := blk_cell HR.out.ob 1
        have c2 : wc.cell? ⟨w.heap.size, 2, none⟩ = some (.int .i64 o.d.x0) := blk_cell HR.out.ob 2
        have c3 : wc.cell? ⟨w.heap.size, 3, none⟩ = some (.int .i64 o.d.x1) := blk_cell HR.out.ob 3
        have c4 : wc.cell? ⟨w.heap.size, 4, none⟩ = some (.int .i64 o.d.x2) := blk_cell HR.out.ob 4
        have c5 : wc.cell? ⟨w.heap.size, 5, none⟩ = some (.int .i64 o.d.x3) := blk_cell HR.out.ob 5
        have c6 : wc.cell? ⟨w.heap.size, 6, none⟩ = some (.int .i64 o.d.x4) := blk_cell HR.out.ob 6
        have c7 : wc.cell? ⟨w.heap.size, 7, none⟩ = some (.int .i64 o.d.x5) := blk_cell HR.out.ob 7
        have c8 : wc.cell? ⟨w.heap.size, 8, none⟩ = some (.int .i64 o.d.x6) := blk_cell HR.out.ob 8
        have c9 : wc.cell? ⟨w.heap.size, 9, none⟩ = some (.int .i64 o.d.x7) := blk_cell HR.out.ob 9
        have c10 : wc.cell? ⟨w.heap.size, 10, none⟩ = some (.int .i64 o.kd) := blk_cell HR.out.ob 10
        have c11 : wc.cell? ⟨w.heap.size, 11, none⟩ = some (.int .i64 o.rn) := blk_cell HR.out.ob 11
        have c12 : wc.cell? ⟨w.heap.size, 12, none⟩ = some (.int .i64 o.rr) := blk_cell HR.out.ob 12
        have c13 : wc.cell? ⟨w.heap.size, 13, none⟩ = some (.int .i64 o.side) := blk_cell HR.out.ob 13
        have c14 : wc.cell? ⟨w.heap.size, 14, none⟩ = some (.int .i64 o.ch) := blk_cell HR.out.ob 14
        go_upto_region 37 with (refine wpList_store_row rfl (.tmp 5) (.tmp 101) 39 rfl wk.heap.size _ (OpG.cells o.x1) rfl rfl HR.out.xb (by kernel_rfl) (by kernel_rfl) (by kernel_rfl) ?_; intro wz hch hxz; have HR := Lib.hid (HR.out.put hch hxz); clear hch hxz c0 c1 c2 c3 c4 c5 c6 c7 c8 c9 c10 c11 c12 c13 c14)
        have heq := fun w => eqOp_run o.x1 o w
        cases hok : (o.pre && o.ok1) with
        | true => as_aux_lemma =>
          have HV := Lib.hid (show o.x1.beq o = o.rightP by rw [Bool.and_eq_true] at hok; simp [OpG.rightP, HK.out, hok.1, hok.2])
          obtain rfl := HC1.out.trans (congrArg Value.bool hok)
          go_wp2_with (first | refine wpList_load_whole (.tmp 1) 39 rfl rfl w.heap.size o.cells rfl Tryd.underlying39 (by kernel_rfl) HR.out.ob ?_ | refine wpList_load_whole (.tmp 5) 39 rfl rfl wk.heap.size (OpG.cells o.x1) rfl Tryd.underlying39 (by kernel_rfl) HR.out.xb ?_)
          go_ret
          exact ⟨ret_bool HV.out, HR.out.below⟩
        | false => as_aux_lemma =>
          have HV := Lib.hid (show false = o.rightP by
            unfold OpG.rightP
            simp only [HK.out]
            cases hp : o.pre <;> cases hq : o.ok1 <;> simp_all)
          obtain rfl := HC1.out.trans (congrArg Value.bool hok)
          go_wp2_with fail
          go_ret
          exact ⟨ret_bool HV.out, HR.out.below⟩
end Go.Proofs.YtiamohfpohjdpaaDoor
namespace Go.Proofs.YtiamohfpohjdpaaDoor
open Go.RowKit Go.Joins
set_option linter.unusedSimpArgs false
set_option linter.unusedVariables false
set_option maxHeartbeats 16000000 in
set_option maxRecDepth 100000 in
theorem refRight_k6 (o : OpG) (hf : o.fine) (w : World) (hk : o.kd ≠ 1 ∧ o.kd ≠ 2 ∧ o.kd ≠ 3 ∧ o.kd ≠ 4 ∧ o.kd ≠ 5) : Calls Tryd.prog 30 #[o.val] w fun e w' => e = .returned (.bool o.rightP) ∧ Below w.heap.size w w' := by
  obtain ⟨hf1, hf2, hf3⟩ := hf
  have hgd := run_opGuard
  have hgs := run_stGuard
  have HF := Lib.hid (And.intro hf1 (And.intro hf2 hf3))
  clear hf1 hf2 hf3
  have k1 : (o.kd == 1) = false := by simp [hk]
  have k2 : (o.kd == 2) = false := by simp [hk]
  have k3 : (o.kd == 3) = false := by simp [hk]
  have k4 : (o.kd == 4) = false := by simp [hk]
  have k5 : (o.kd == 5) = false := by simp [hk]
  have HK := Lib.hid hk
  clear hk
  go_enter Tryd.func30, Tryd.ntmps30
  go_wp2_with fail
  refine calls_let' (OpBox o w) (opBox_new o w) (fun x hx => ?_)
  refine (right1_any o.n o.r x).mono ?_
  rintro e w1 ⟨rfl, hb⟩
  have HX := Lib.hid (hx.later hb)
  clear hx hb
  go_wp2
  go_loopw [3, 4] (fun ok i wr => ∃ q : Nat, q ≤ 8 ∧ i = .int .i64 q ∧ ok = .bool (o.preTo q) ∧ OpBox o w wr) (fun _ i _ => 8 - (RowKit.intOf i).toNat)
  case atStart => exact ⟨0, by omega, rfl, rfl, HX.out⟩
  case round =>
    obtain ⟨q, hq, rfl, rfl, hbx⟩ := hrel
    have HB := Lib.hid hbx
    clear hbx HX
    by_cases h8 : q < 8
    · as_aux_lemma =>
      have hc : wr.cell? ⟨w.heap.size, 2 + q, none⟩ = some (.int .i64 (o.d.nth q)) := (blk_cell HB.out.2 (2 + q)).trans (nth_cell o q h8)
      have c0 : wr.cell? ⟨w.heap.size, 0, none⟩ = some (.int .i64 o.n) := blk_cell HB.out.2 0
      clear hgd hgs
      cases hp : o.preTo q with
      | false =>
        have HV := Lib.hid (show false = o.preTo (q + 1) by simp [OpG.preTo, hp])
        clear hp
        go_wp2
        go_quiet (fail)
        go_wp2
        go_roundw
        case rel => exact ⟨q + 1, by omega, by go_num, congrArg Value.bool HV.out, HB.out.later (by first | exact Below.drew (Below.refl _ _) | exact below_drewN (Below.refl _ _) _)⟩
        case measure => simp [RowKit.intOf]; omega
      | true =>
        by_cases h0 : 0 ≤ o.d.nth q
        · have d0 : decide (0 ≤ o.d.nth q) = true := decide_eq_true h0
          have HV := Lib.hid (show decide (o.d.nth q < o.n) = o.preTo (q + 1) by simp [OpG.preTo, hp, h0])
          clear hp
          go_wp2
          go_quiet (fail)
          go_wp2
          go_roundw
          case rel => exact ⟨q + 1, by omega, by go_num, congrArg Value.bool HV.out, HB.out.later (by first | exact Below.drew (Below.refl _ _) | exact below_drewN (Below.refl _ _) _)⟩
          case measure => simp [RowKit.intOf]; omega
        · have d0 : decide (0 ≤ o.d.nth q) = false := decide_eq_false h0
          have HV := Lib.hid (show false = o.preTo (q + 1) by simp [OpG.preTo, hp, h0])
          clear hp h0
          go_wp2
          go_quiet (fail)
          go_wp2
          go_roundw
          case rel => exact ⟨q + 1, by omega, by go_num, congrArg Value.bool HV.out, HB.out.later (by first | exact Below.drew (Below.refl _ _) | exact below_drewN (Below.refl _ _) _)⟩
          case measure => simp [RowKit.intOf]; omega
    · obtain rfl : q = 8 := by omega
      rw [pre_to]
      have c10 : wr.cell? ⟨w.heap.size, 10, none⟩ = some (.int .i64 o.kd) := blk_cell HB.out.2 10
      have hz := heap_lt HB.out.2
      obtain ⟨wk, hwk⟩ : ∃ wk, wk = wr := ⟨_, rfl⟩
      subst hwk
      go_upto_region 8 with (first | refine wpList_load_whole (.tmp 1) 39 rfl rfl w.heap.size o.cells rfl Tryd.underlying39 (by kernel_rfl) HB.out.2 ?_ | refine wpList_store_fresh rfl (.tmp 5) (.tmp 44) 39 rfl wk.heap.size _ _ rfl rfl rfl (by kernel_rfl) (by kernel_rfl) (by kernel_rfl) ?_)
      refine wp_let' (RX w o o wk.heap.size) (rx_new (x := o) HB.out) (fun x hx => ?_)
      have HR := Lib.hid hx
      clear hx c10
      have HV := Lib.hid (show false = o.rightP by obtain ⟨a1, a2, a3, a4, a5⟩ := HK.out; simp [OpG.rightP, a1, a2, a3, a4, a5])
      go_wp2
      go_ret
      exact ⟨ret_bool HV.out, HR.out.below⟩
end Go.Proofs.YtiamohfpohjdpaaDoor
