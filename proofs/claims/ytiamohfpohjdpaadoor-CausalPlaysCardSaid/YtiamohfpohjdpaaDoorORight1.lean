/- WHETHER AN OPERATION MAY BE, by package ops: an insertion. -/
import Derived.Test.YtiamohfpohjdpaaDoorORight
namespace Go.Proofs.YtiamohfpohjdpaaDoor
open Go.RowKit Go.Joins
set_option linter.unusedSimpArgs false
set_option linter.unusedVariables false
set_option maxHeartbeats 8000000 in
set_option maxRecDepth 100000 in
theorem opsRight_k1 (o : OpG) (hf : o.fine) (w : World) (hk : o.kd = 1) : Calls Tryd.prog 21 #[o.val] w fun e w' => e = .returned (.bool o.rightP) ∧ Below w.heap.size w w' := by
  obtain ⟨hf1, hf2, hf3⟩ := hf
  have hgd := run_opGuard
  have hgs := run_stGuard
  have HF := Lib.hid (And.intro hf1 (And.intro hf2 hf3))
  clear hf1 hf2 hf3
  have k1 : (o.kd == 1) = true := by simp [hk]
  have HK := Lib.hid hk
  clear hk
  go_enter Tryd.func21, Tryd.ntmps21
  go_upto_region 1 with fail
  go_cut [24] (fun c wx => c = .bool (!o.pre) ∧ OpBox o w wx)
  case first => as_aux_lemma =>
    clear hgd hgs
    refine wp_let' (OpBox o w) (opBox_new o w) (fun x hx => ?_)
    have hc : ∀ n i, (ext x n).cell? ⟨w.heap.size, i, none⟩ = o.cells[i]? := fun n i => blk_cell (hx.ext n).2 i
    have HX := Lib.hid hx
    clear hx
    have M := Lib.hid (fun n => min_call o HX.out n)
    have N := Lib.hid (fun w => most_any o.d w)
    cases h1 : rightB o.n o.r with
    | false =>
      have HV := Lib.hid (show true = !o.pre by simp [OpG.pre, h1])
      have R := Lib.hid (fun w => bool_of h1 (right0_any o.n o.r w))
      clear h1
      refine region_ext (by kernel_rfl) (by kernel_rfl) ?_
      repeat (go_big_quiet_step (first | with_reducible exact calls_ext (R.out _)))
      refine wpQuiet_nil ?_
      rintro _ ⟨nq, rfl⟩
      go_wp2_with fail
      go_meet
      exact ⟨congrArg Value.bool HV.out, HX.out.ext nq⟩
    | true =>
      have R := Lib.hid (fun w => bool_of h1 (right0_any o.n o.r w))
      by_cases h2 : Lib.minOf o.d.list < 0
      · have d2 : decide (Lib.minOf o.d.list < 0) = true := decide_eq_true h2
        have HV := Lib.hid (show true = !o.pre by simp [OpG.pre, h1]; omega)
        clear h1 h2
        refine region_ext (by kernel_rfl) (by kernel_rfl) ?_
        repeat (go_big_quiet_step (first | with_reducible exact calls_ext (R.out _) | with_reducible exact M.out _))
        refine wpQuiet_nil ?_
        rintro _ ⟨nq, rfl⟩
        go_wp2_with fail
        go_meet
        exact ⟨congrArg Value.bool HV.out, HX.out.ext nq⟩
      · have d2 : decide (Lib.minOf o.d.list < 0) = false := decide_eq_false h2
        have HV := Lib.hid (show decide (o.n ≤ o.d.most) = !o.pre by
          simp only [OpG.pre, h1, Bool.true_and, decide_eq_true (show 0 ≤ Lib.minOf o.d.list by omega)]
          by_cases h3 : o.n ≤ o.d.most
          · rw [decide_eq_true h3, decide_eq_false (by omega)]; rfl
          · rw [decide_eq_false h3, decide_eq_true (by omega)]; rfl)
        clear h1 h2
        refine region_ext (by kernel_rfl) (by kernel_rfl) ?_
        repeat (go_big_quiet_step (first | with_reducible exact calls_ext (R.out _) | with_reducible exact M.out _ | with_reducible exact calls_ext (N.out _)))
        refine wpQuiet_nil ?_
        rintro _ ⟨nq, rfl⟩
        go_wp2_with fail
        go_meet
        exact ⟨congrArg Value.bool HV.out, HX.out.ext nq⟩
  case rest =>
    obtain ⟨rfl, hx⟩ := hcut
    cases hp : o.pre with
    | false => as_aux_lemma =>
      have hd : (!o.pre) = true := by rw [hp]; rfl
      have HX := Lib.hid hx
      clear hx
      go_wp2
      go_ret
      exact ⟨ret_bool (by simp [OpG.rightP, hp]), HX.out.1⟩
    | true =>
      have hd : (!o.pre) = false := by rw [hp]; rfl
      have hz := heap_lt hx.2
      have HX := Lib.hid hx
      have HP := Lib.hid hp
      clear hx hp
      obtain ⟨wk, hwk⟩ : ∃ wk, wk = wc := ⟨_, rfl⟩
      subst hwk
      have c0 : wk.cell? ⟨w.heap.size, 0, none⟩ = some (.int .i64 o.n) := blk_cell HX.out.2 0
      have c1 : wk.cell? ⟨w.heap.size, 1, none⟩ = some (.int .i64 o.r) := blk_cell HX.out.2 1
      have c2 : wk.cell? ⟨w.heap.size, 2, none⟩ = some (.int .i64 o.d.x0) := blk_cell HX.out.2 2
      have c3 : wk.cell? ⟨w.heap.size, 3, none⟩ = some (.int .i64 o.d.x1) := blk_cell HX.out.2 3
      have c4 : wk.cell? ⟨w.heap.size, 4, none⟩ = some (.int .i64 o.d.x2) := blk_cell HX.out.2 4
      have c5 : wk.cell? ⟨w.heap.size, 5, none⟩ = some (.int .i64 o.d.x3) := blk_cell HX.out.2 5
      have c6 : wk.cell? ⟨w.heap.size, 6, none⟩ = some (.int .i64 o.d.x4) := blk_cell HX.out.2 6
      have c7 : wk.cell? ⟨w.heap.size, 7, none⟩ = some (.int .i64 o.d.x5) := blk_cell HX.out.2 7
      have c8 : wk.cell? ⟨w.heap.size, 8, none⟩ = some (.int .i64 o.d.x6) := blk_cell HX.out.2 8
      have c9 : wk.cell? ⟨w.heap.size, 9, none⟩ = some (.int .i64 o.d.x7) := blk_cell HX.out.2 9
      have c10 : wk.cell? ⟨w.heap.size, 10, none⟩ = some (.int .i64 o.kd) := blk_cell HX.out.2 10
      go_wp2_with (refine wpList_store_fresh rfl (.tmp 4) (.tmp 32) 39 rfl (wk.heap.size + 1) _ _ rfl (by simp) rfl (by kernel_rfl) (by kernel_rfl) (by kernel_rfl) ?_)
      refine wp_let' (RW w o o.x0 wk.heap.size) (rw_new (x := o.x0) HX.out) (fun x hx => ?_)
      have HR := Lib.hid hx
      clear hx c0 c1 c2 c3 c4 c5 c6 c7 c8 c9 c10
      have hlt := HR.out.lt
      have hne : ¬ w.heap.size = wk.heap.size + 1 := by omega
      have hne' : ¬ wk.heap.size + 1 = w.heap.size := by omega
      have c11 : x.cell? ⟨w.heap.size, 11, none⟩ = some (.int .i64 o.rn) := blk_cell HR.out.ob 11
      have c12 : x.cell? ⟨w.heap.size, 12, none⟩ = some (.int .i64 o.rr) := blk_cell HR.out.ob 12
      have c13 : x.cell? ⟨w.heap.size, 13, none⟩ = some (.int .i64 o.side) := blk_cell HR.out.ob 13
      have c14 : x.cell? ⟨w.heap.size, 14, none⟩ = some (.int .i64 o.ch) := blk_cell HR.out.ob 14
      have f11 := blk_free HR.out.xb 11
      have g11 := blk_cell HR.out.xb 11
      have f12 := blk_free HR.out.xb 12
      have g12 := blk_cell HR.out.xb 12
      have f13 := blk_free HR.out.xb 13
      have g13 := blk_cell HR.out.xb 13
      have f14 := blk_free HR.out.xb 14
      have g14 := blk_cell HR.out.xb 14
      go_cut [] (fun wx => RW w o o.x1 wk.heap.size wx)
      case first => as_aux_lemma =>
        clear hgd hgs
        go_region_held3 (fun w' => w'.cell? ⟨w.heap.size, 11, none⟩ = some (.int .i64 o.rn) ∧ w'.cell? ⟨w.heap.size, 12, none⟩ = some (.int .i64 o.rr) ∧ w'.cell? ⟨w.heap.size, 13, none⟩ = some (.int .i64 o.side) ∧ w'.cell? ⟨w.heap.size, 14, none⟩ = some (.int .i64 o.ch)) (go_keep) (fail)
        all_goals (go_wp2_with fail)
        all_goals go_meet
        all_goals exact RC.to (RC.drew (RC.set (RC.set (RC.set (RC.set (RC.of HR.out)))))) (by kernel_rfl)
      case rest =>
        have HR := Lib.hid hcut
        clear hcut c11 c12 c13 c14 f11 f12 f13 f14 g11 g12 g13 g14 hlt hne hne'
        have c11 : wc.cell? ⟨w.heap.size, 11, none⟩ = some (.int .i64 o.rn) := blk_cell HR.out.ob 11
        have c12 : wc.cell? ⟨w.heap.size, 12, none⟩ = some (.int .i64 o.rr) := blk_cell HR.out.ob 12
        have c13 : wc.cell? ⟨w.heap.size, 13, none⟩ = some (.int .i64 o.side) := blk_cell HR.out.ob 13
        have c14 : wc.cell? ⟨w.heap.size, 14, none⟩ = some (.int .i64 o.ch) := blk_cell HR.out.ob 14
        obtain ⟨z0, z1⟩ := nb_cells HR.out.nb
        go_upto_region 13 with fail
        go_cut [5] (fun c wx => c = .bool o.ok1 ∧ RW w o o.x1 wk.heap.size wx)
        case first =>
          cases s2 : (o.side == 2) with
          | true =>
            cases rz : noneB o.rn o.rr with
            | true =>
              have hz := st_eq rz
              by_cases e0 : o.ch = 0
              · have q0 : (o.ch == 0) = true := by simp [e0]
                have E0 := Lib.hid e0
                clear e0
                as_aux_lemma =>
                  have HV := Lib.hid (show true = o.ok1 by simp [OpG.ok1, OpG.chB, s2, rz, q0])
                  go_wp2_with fail
                  go_meet
                  exact ⟨congrArg Value.bool HV.out, HR.out⟩
              · have q0 : (o.ch == 0) = false := by simp [e0]
                clear e0
                by_cases e1 : 32 ≤ o.ch
                · have q1 : decide (32 ≤ o.ch) = true := decide_eq_true e1
                  as_aux_lemma =>
                    have HV := Lib.hid (show decide (o.ch ≤ 126) = o.ok1 by simp [OpG.ok1, OpG.chB, s2, rz, q0, q1])
                    go_wp2_with fail
                    go_meet
                    exact ⟨congrArg Value.bool HV.out, HR.out⟩
                · have q1 : decide (32 ≤ o.ch) = false := decide_eq_false e1
                  as_aux_lemma =>
                    have HV := Lib.hid (show false = o.ok1 by simp [OpG.ok1, OpG.chB, s2, rz, q0, q1])
                    go_wp2_with fail
                    go_meet
                    exact ⟨congrArg Value.bool HV.out, HR.out⟩
            | false =>
              have hz := st_eq rz
              have s1 : (o.side == 1) = false := by simp only [beq_iff_eq] at s2; simp [s2]
              cases hb : o.hasB o.rn o.rr with
              | true =>
                have H := Lib.hid (fun w => bool_of hb (has_call o o.rn o.rr w))
                by_cases e0 : o.ch = 0
                · have q0 : (o.ch == 0) = true := by simp [e0]
                  have E0 := Lib.hid e0
                  clear e0
                  as_aux_lemma =>
                    have HV := Lib.hid (show true = o.ok1 by simp [OpG.ok1, OpG.chB, s2, rz, hb, s1, q0])
                    go_wp2_with (first | refine wpList_load_whole (.tmp 1) 39 rfl rfl w.heap.size o.cells rfl Tryd.underlying39 (by kernel_rfl) HR.out.ob ?_)
                    with_reducible refine (H.out _).mono ?_
                    rintro e wq ⟨rfl, hb⟩
                    have HR := Lib.hid (HR.out.later hb)
                    clear hb c11 c12 c13 c14 z0 z1
                    have c11 : wq.cell? ⟨w.heap.size, 11, none⟩ = some (.int .i64 o.rn) := blk_cell HR.out.ob 11
                    have c12 : wq.cell? ⟨w.heap.size, 12, none⟩ = some (.int .i64 o.rr) := blk_cell HR.out.ob 12
                    have c13 : wq.cell? ⟨w.heap.size, 13, none⟩ = some (.int .i64 o.side) := blk_cell HR.out.ob 13
                    have c14 : wq.cell? ⟨w.heap.size, 14, none⟩ = some (.int .i64 o.ch) := blk_cell HR.out.ob 14
                    obtain ⟨z0, z1⟩ := nb_cells HR.out.nb
                    go_wp2_with fail
                    go_meet
                    exact ⟨congrArg Value.bool HV.out, HR.out⟩
                · have q0 : (o.ch == 0) = false := by simp [e0]
                  clear e0
                  by_cases e1 : 32 ≤ o.ch
                  · have q1 : decide (32 ≤ o.ch) = true := decide_eq_true e1
                    as_aux_lemma =>
                      have HV := Lib.hid (show decide (o.ch ≤ 126) = o.ok1 by simp [OpG.ok1, OpG.chB, s2, rz, hb, s1, q0, q1])
                      go_wp2_with (first | refine wpList_load_whole (.tmp 1) 39 rfl rfl w.heap.size o.cells rfl Tryd.underlying39 (by kernel_rfl) HR.out.ob ?_)
                      with_reducible refine (H.out _).mono ?_
                      rintro e wq ⟨rfl, hb⟩
                      have HR := Lib.hid (HR.out.later hb)
                      clear hb c11 c12 c13 c14 z0 z1
                      have c11 : wq.cell? ⟨w.heap.size, 11, none⟩ = some (.int .i64 o.rn) := blk_cell HR.out.ob 11
                      have c12 : wq.cell? ⟨w.heap.size, 12, none⟩ = some (.int .i64 o.rr) := blk_cell HR.out.ob 12
                      have c13 : wq.cell? ⟨w.heap.size, 13, none⟩ = some (.int .i64 o.side) := blk_cell HR.out.ob 13
                      have c14 : wq.cell? ⟨w.heap.size, 14, none⟩ = some (.int .i64 o.ch) := blk_cell HR.out.ob 14
                      obtain ⟨z0, z1⟩ := nb_cells HR.out.nb
                      go_wp2_with fail
                      go_meet
                      exact ⟨congrArg Value.bool HV.out, HR.out⟩
                  · have q1 : decide (32 ≤ o.ch) = false := decide_eq_false e1
                    as_aux_lemma =>
                      have HV := Lib.hid (show false = o.ok1 by simp [OpG.ok1, OpG.chB, s2, rz, hb, s1, q0, q1])
                      go_wp2_with (first | refine wpList_load_whole (.tmp 1) 39 rfl rfl w.heap.size o.cells rfl Tryd.underlying39 (by kernel_rfl) HR.out.ob ?_)
                      with_reducible refine (H.out _).mono ?_
                      rintro e wq ⟨rfl, hb⟩
                      have HR := Lib.hid (HR.out.later hb)
                      clear hb c11 c12 c13 c14 z0 z1
                      have c11 : wq.cell? ⟨w.heap.size, 11, none⟩ = some (.int .i64 o.rn) := blk_cell HR.out.ob 11
                      have c12 : wq.cell? ⟨w.heap.size, 12, none⟩ = some (.int .i64 o.rr) := blk_cell HR.out.ob 12
                      have c13 : wq.cell? ⟨w.heap.size, 13, none⟩ = some (.int .i64 o.side) := blk_cell HR.out.ob 13
                      have c14 : wq.cell? ⟨w.heap.size, 14, none⟩ = some (.int .i64 o.ch) := blk_cell HR.out.ob 14
                      obtain ⟨z0, z1⟩ := nb_cells HR.out.nb
                      go_wp2_with fail
                      go_meet
                      exact ⟨congrArg Value.bool HV.out, HR.out⟩
              | false =>
                have H := Lib.hid (fun w => bool_of hb (has_call o o.rn o.rr w))
                as_aux_lemma =>
                  have HV := Lib.hid (show false = o.ok1 by simp [OpG.ok1, OpG.chB, s2, rz, hb])
                  go_wp2_with (first | refine wpList_load_whole (.tmp 1) 39 rfl rfl w.heap.size o.cells rfl Tryd.underlying39 (by kernel_rfl) HR.out.ob ?_)
                  with_reducible refine (H.out _).mono ?_
                  rintro e wq ⟨rfl, hb⟩
                  have HR := Lib.hid (HR.out.later hb)
                  clear hb c11 c12 c13 c14 z0 z1
                  have c11 : wq.cell? ⟨w.heap.size, 11, none⟩ = some (.int .i64 o.rn) := blk_cell HR.out.ob 11
                  have c12 : wq.cell? ⟨w.heap.size, 12, none⟩ = some (.int .i64 o.rr) := blk_cell HR.out.ob 12
                  have c13 : wq.cell? ⟨w.heap.size, 13, none⟩ = some (.int .i64 o.side) := blk_cell HR.out.ob 13
                  have c14 : wq.cell? ⟨w.heap.size, 14, none⟩ = some (.int .i64 o.ch) := blk_cell HR.out.ob 14
                  obtain ⟨z0, z1⟩ := nb_cells HR.out.nb
                  go_wp2_with fail
                  go_meet
                  exact ⟨congrArg Value.bool HV.out, HR.out⟩
          | false =>
            cases hb : o.hasB o.rn o.rr with
            | true =>
              have H := Lib.hid (fun w => bool_of hb (has_call o o.rn o.rr w))
              cases s1 : (o.side == 1) with
              | true =>
                by_cases e0 : o.ch = 0
                · have q0 : (o.ch == 0) = true := by simp [e0]
                  have E0 := Lib.hid e0
                  clear e0
                  as_aux_lemma =>
                    have HV := Lib.hid (show true = o.ok1 by simp [OpG.ok1, OpG.chB, s2, hb, s1, q0])
                    go_wp2_with (first | refine wpList_load_whole (.tmp 1) 39 rfl rfl w.heap.size o.cells rfl Tryd.underlying39 (by kernel_rfl) HR.out.ob ?_)
                    with_reducible refine (H.out _).mono ?_
                    rintro e wq ⟨rfl, hb⟩
                    have HR := Lib.hid (HR.out.later hb)
                    clear hb c11 c12 c13 c14 z0 z1
                    have c11 : wq.cell? ⟨w.heap.size, 11, none⟩ = some (.int .i64 o.rn) := blk_cell HR.out.ob 11
                    have c12 : wq.cell? ⟨w.heap.size, 12, none⟩ = some (.int .i64 o.rr) := blk_cell HR.out.ob 12
                    have c13 : wq.cell? ⟨w.heap.size, 13, none⟩ = some (.int .i64 o.side) := blk_cell HR.out.ob 13
                    have c14 : wq.cell? ⟨w.heap.size, 14, none⟩ = some (.int .i64 o.ch) := blk_cell HR.out.ob 14
                    obtain ⟨z0, z1⟩ := nb_cells HR.out.nb
                    go_wp2_with fail
                    go_meet
                    exact ⟨congrArg Value.bool HV.out, HR.out⟩
                · have q0 : (o.ch == 0) = false := by simp [e0]
                  clear e0
                  by_cases e1 : 32 ≤ o.ch
                  · have q1 : decide (32 ≤ o.ch) = true := decide_eq_true e1
                    as_aux_lemma =>
                      have HV := Lib.hid (show decide (o.ch ≤ 126) = o.ok1 by simp [OpG.ok1, OpG.chB, s2, hb, s1, q0, q1])
                      go_wp2_with (first | refine wpList_load_whole (.tmp 1) 39 rfl rfl w.heap.size o.cells rfl Tryd.underlying39 (by kernel_rfl) HR.out.ob ?_)
                      with_reducible refine (H.out _).mono ?_
                      rintro e wq ⟨rfl, hb⟩
                      have HR := Lib.hid (HR.out.later hb)
                      clear hb c11 c12 c13 c14 z0 z1
                      have c11 : wq.cell? ⟨w.heap.size, 11, none⟩ = some (.int .i64 o.rn) := blk_cell HR.out.ob 11
                      have c12 : wq.cell? ⟨w.heap.size, 12, none⟩ = some (.int .i64 o.rr) := blk_cell HR.out.ob 12
                      have c13 : wq.cell? ⟨w.heap.size, 13, none⟩ = some (.int .i64 o.side) := blk_cell HR.out.ob 13
                      have c14 : wq.cell? ⟨w.heap.size, 14, none⟩ = some (.int .i64 o.ch) := blk_cell HR.out.ob 14
                      obtain ⟨z0, z1⟩ := nb_cells HR.out.nb
                      go_wp2_with fail
                      go_meet
                      exact ⟨congrArg Value.bool HV.out, HR.out⟩
                  · have q1 : decide (32 ≤ o.ch) = false := decide_eq_false e1
                    as_aux_lemma =>
                      have HV := Lib.hid (show false = o.ok1 by simp [OpG.ok1, OpG.chB, s2, hb, s1, q0, q1])
                      go_wp2_with (first | refine wpList_load_whole (.tmp 1) 39 rfl rfl w.heap.size o.cells rfl Tryd.underlying39 (by kernel_rfl) HR.out.ob ?_)
                      with_reducible refine (H.out _).mono ?_
                      rintro e wq ⟨rfl, hb⟩
                      have HR := Lib.hid (HR.out.later hb)
                      clear hb c11 c12 c13 c14 z0 z1
                      have c11 : wq.cell? ⟨w.heap.size, 11, none⟩ = some (.int .i64 o.rn) := blk_cell HR.out.ob 11
                      have c12 : wq.cell? ⟨w.heap.size, 12, none⟩ = some (.int .i64 o.rr) := blk_cell HR.out.ob 12
                      have c13 : wq.cell? ⟨w.heap.size, 13, none⟩ = some (.int .i64 o.side) := blk_cell HR.out.ob 13
                      have c14 : wq.cell? ⟨w.heap.size, 14, none⟩ = some (.int .i64 o.ch) := blk_cell HR.out.ob 14
                      obtain ⟨z0, z1⟩ := nb_cells HR.out.nb
                      go_wp2_with fail
                      go_meet
                      exact ⟨congrArg Value.bool HV.out, HR.out⟩
              | false =>
                as_aux_lemma =>
                  have HV := Lib.hid (show false = o.ok1 by simp [OpG.ok1, OpG.chB, s2, hb, s1])
                  go_wp2_with (first | refine wpList_load_whole (.tmp 1) 39 rfl rfl w.heap.size o.cells rfl Tryd.underlying39 (by kernel_rfl) HR.out.ob ?_)
                  with_reducible refine (H.out _).mono ?_
                  rintro e wq ⟨rfl, hb⟩
                  have HR := Lib.hid (HR.out.later hb)
                  clear hb c11 c12 c13 c14 z0 z1
                  have c11 : wq.cell? ⟨w.heap.size, 11, none⟩ = some (.int .i64 o.rn) := blk_cell HR.out.ob 11
                  have c12 : wq.cell? ⟨w.heap.size, 12, none⟩ = some (.int .i64 o.rr) := blk_cell HR.out.ob 12
                  have c13 : wq.cell? ⟨w.heap.size, 13, none⟩ = some (.int .i64 o.side) := blk_cell HR.out.ob 13
                  have c14 : wq.cell? ⟨w.heap.size, 14, none⟩ = some (.int .i64 o.ch) := blk_cell HR.out.ob 14
                  obtain ⟨z0, z1⟩ := nb_cells HR.out.nb
                  go_wp2_with fail
                  go_meet
                  exact ⟨congrArg Value.bool HV.out, HR.out⟩
            | false =>
              have H := Lib.hid (fun w => bool_of hb (has_call o o.rn o.rr w))
              as_aux_lemma =>
                have HV := Lib.hid (show false = o.ok1 by simp [OpG.ok1, OpG.chB, s2, hb])
                go_wp2_with (first | refine wpList_load_whole (.tmp 1) 39 rfl rfl w.heap.size o.cells rfl Tryd.underlying39 (by kernel_rfl) HR.out.ob ?_)
                with_reducible refine (H.out _).mono ?_
                rintro e wq ⟨rfl, hb⟩
                have HR := Lib.hid (HR.out.later hb)
                clear hb c11 c12 c13 c14 z0 z1
                have c11 : wq.cell? ⟨w.heap.size, 11, none⟩ = some (.int .i64 o.rn) := blk_cell HR.out.ob 11
                have c12 : wq.cell? ⟨w.heap.size, 12, none⟩ = some (.int .i64 o.rr) := blk_cell HR.out.ob 12
                have c13 : wq.cell? ⟨w.heap.size, 13, none⟩ = some (.int .i64 o.side) := blk_cell HR.out.ob 13
                have c14 : wq.cell? ⟨w.heap.size, 14, none⟩ = some (.int .i64 o.ch) := blk_cell HR.out.ob 14
                obtain ⟨z0, z1⟩ := nb_cells HR.out.nb
                go_wp2_with fail
                go_meet
                exact ⟨congrArg Value.bool HV.out, HR.out⟩
        case rest =>
          have HR := Lib.hid hcut.2
          have HC1 := Lib.hid hcut.1
          clear hcut c11 c12 c13 c14 z0 z1
          have heq := fun w => eqOp_run o.x1 o w
          cases hok : o.ok1 with
          | true => as_aux_lemma =>
            have HV := Lib.hid (show o.x1.beq o = o.rightP by simp [OpG.rightP, HP.out, HK.out, hok])
            obtain rfl := HC1.out.trans (congrArg Value.bool hok)
            go_wp2_with (first | refine wpList_load_whole (.tmp 1) 39 rfl rfl w.heap.size o.cells rfl Tryd.underlying39 (by kernel_rfl) HR.out.ob ?_ | refine wpList_load_whole (.tmp 4) 39 rfl rfl (wk.heap.size + 1) (OpG.cells o.x1) rfl Tryd.underlying39 (by kernel_rfl) HR.out.xb ?_)
            go_ret
            exact ⟨ret_bool HV.out, HR.out.below⟩
          | false => as_aux_lemma =>
            have HV := Lib.hid (show false = o.rightP by simp [OpG.rightP, HP.out, HK.out, hok])
            obtain rfl := HC1.out.trans (congrArg Value.bool hok)
            go_wp2_with (first | refine wpList_load_whole (.tmp 1) 39 rfl rfl w.heap.size o.cells rfl Tryd.underlying39 (by kernel_rfl) HR.out.ob ?_ | refine wpList_load_whole (.tmp 4) 39 rfl rfl (wk.heap.size + 1) (OpG.cells o.x1) rfl Tryd.underlying39 (by kernel_rfl) HR.out.xb ?_)
            go_ret
            exact ⟨ret_bool (by first | exact HV.out | exact hok.trans HV.out), HR.out.below⟩
end Go.Proofs.YtiamohfpohjdpaaDoor
