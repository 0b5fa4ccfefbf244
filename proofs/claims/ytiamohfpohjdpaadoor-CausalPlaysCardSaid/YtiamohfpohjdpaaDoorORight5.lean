/- WHETHER AN OPERATION MAY BE, by package ops: a mark. -/
import Derived.Test.YtiamohfpohjdpaaDoorORight
namespace Go.Proofs.YtiamohfpohjdpaaDoor
open Go.RowKit Go.Joins
set_option linter.unusedSimpArgs false
set_option linter.unusedVariables false
/-- the operation's block stands -/
def An (o : OpG) (b : Nat) (y : World) : Prop := y.heap[b]? = some (.cells o.cells 39 (0, 0))
theorem An.set {o : OpG} {b q i : Nat} {y : World} {v : Value} (h : An o b y) (hne : ¬ b = q) : An o b (y.setCell ⟨q, i, none⟩ v) := blk_other h hne
theorem An.drew {o : OpG} {b : Nat} {y : World} (h : An o b y) : An o b y.drew := h
theorem x5_cells (o : OpG) : (((((((OpG.cells o.x50).setIfInBounds 20 (.int .i64 o.fn)).setIfInBounds 21 (.int .i64 o.fr)).setIfInBounds 22 (.bool o.fa)).setIfInBounds 23 (.int .i64 o.tn)).setIfInBounds 24 (.int .i64 o.tr)).setIfInBounds 25 (.bool o.ta)) = OpG.cells o.x5 := by
  simp only [OpG.cells, OpG.x50, OpG.x5, List.setIfInBounds_toArray, List.set_cons_zero, List.set_cons_succ]
def W5 (o : OpG) (s : Nat) (x : World) : World := ((((((x.setCell ⟨s + 1, 20, none⟩ (.int .i64 o.fn)).setCell ⟨s + 1, 21, none⟩ (.int .i64 o.fr)).setCell ⟨s + 1, 22, none⟩ (.bool o.fa)).setCell ⟨s + 1, 23, none⟩ (.int .i64 o.tn)).setCell ⟨s + 1, 24, none⟩ (.int .i64 o.tr)).setCell ⟨s + 1, 25, none⟩ (.bool o.ta)).drew
theorem rc5 {w : World} {o : OpG} {s : Nat} {x : World} (h : RW w o o.x50 s x) : RW w o o.x5 s (W5 o s x) :=
  RC.to (RC.drew (RC.set (RC.set (RC.set (RC.set (RC.set (RC.set (RC.of h))))))) ) (x5_cells o)
set_option maxHeartbeats 80000000 in
set_option maxRecDepth 100000 in
theorem opsRight_k5 (o : OpG) (hf : o.fine) (w : World) (hk : o.kd = 5) : Calls Tryd.prog 21 #[o.val] w fun e w' => e = .returned (.bool o.rightP) ∧ Below w.heap.size w w' := by
  obtain ⟨hf1, hf2, hf3⟩ := hf
  have hgd := run_opGuard
  have hgs := run_stGuard
  have HF := Lib.hid (And.intro hf1 (And.intro hf2 hf3))
  clear hf1 hf2 hf3
  have k1 : (o.kd == 1) = false := by simp [hk]
  have k2 : (o.kd == 2) = false := by simp [hk]
  have k3 : (o.kd == 3) = false := by simp [hk]
  have k4 : (o.kd == 4) = false := by simp [hk]
  have k5 : (o.kd == 5) = true := by simp [hk]
  have HK := Lib.hid hk
  clear hk
  go_enter Tryd.func21, Tryd.ntmps21
  go_upto_region 1 with fail
  go_cut [24] (fun c wx => c = .bool (!o.pre) ∧ OpBox o w wx)
  case first => as_aux_lemma =>
    clear hgd hgs
    refine wp_let' (OpBox o w) (opBox_new o w) (fun x hx => ?_)
    have hc : ∀ n i, (ext x n).cell? ⟨w.heap.size, i, none⟩ = o.cells[i]? := fun n i => blk_cell (hx.ext n).2 i
    have HX := Lib.hid hx
    clear hx
    have M := Lib.hid (fun n => min_call o HX.out n)
    have N := Lib.hid (fun w => most_any o.d w)
    cases h1 : rightB o.n o.r with
    | false =>
      have HV := Lib.hid (show true = !o.pre by simp [OpG.pre, h1])
      have R := Lib.hid (fun w => bool_of h1 (right0_any o.n o.r w))
      clear h1
      refine region_ext (by kernel_rfl) (by kernel_rfl) ?_
      repeat (go_big_quiet_step (first | with_reducible exact calls_ext (R.out _)))
      refine wpQuiet_nil ?_
      rintro _ ⟨nq, rfl⟩
      go_wp2_with fail
      go_meet
      exact ⟨congrArg Value.bool HV.out, HX.out.ext nq⟩
    | true =>
      have R := Lib.hid (fun w => bool_of h1 (right0_any o.n o.r w))
      by_cases h2 : Lib.minOf o.d.list < 0
      · have d2 : decide (Lib.minOf o.d.list < 0) = true := decide_eq_true h2
        have HV := Lib.hid (show true = !o.pre by simp [OpG.pre, h1]; omega)
        clear h1 h2
        refine region_ext (by kernel_rfl) (by kernel_rfl) ?_
        repeat (go_big_quiet_step (first | with_reducible exact calls_ext (R.out _) | with_reducible exact M.out _))
        refine wpQuiet_nil ?_
        rintro _ ⟨nq, rfl⟩
        go_wp2_with fail
        go_meet
        exact ⟨congrArg Value.bool HV.out, HX.out.ext nq⟩
      · have d2 : decide (Lib.minOf o.d.list < 0) = false := decide_eq_false h2
        have HV := Lib.hid (show decide (o.n ≤ o.d.most) = !o.pre by
          simp only [OpG.pre, h1, Bool.true_and, decide_eq_true (show 0 ≤ Lib.minOf o.d.list by omega)]
          by_cases h3 : o.n ≤ o.d.most
          · rw [decide_eq_true h3, decide_eq_false (by omega)]; rfl
          · rw [decide_eq_false h3, decide_eq_true (by omega)]; rfl)
        clear h1 h2
        refine region_ext (by kernel_rfl) (by kernel_rfl) ?_
        repeat (go_big_quiet_step (first | with_reducible exact calls_ext (R.out _) | with_reducible exact M.out _ | with_reducible exact calls_ext (N.out _)))
        refine wpQuiet_nil ?_
        rintro _ ⟨nq, rfl⟩
        go_wp2_with fail
        go_meet
        exact ⟨congrArg Value.bool HV.out, HX.out.ext nq⟩
  case rest =>
    obtain ⟨rfl, hx⟩ := hcut
    cases hp : o.pre with
    | false => as_aux_lemma =>
      have hd : (!o.pre) = true := by rw [hp]; rfl
      have HX := Lib.hid hx
      clear hx
      go_wp2
      go_ret
      exact ⟨ret_bool (by simp [OpG.rightP, hp]), HX.out.1⟩
    | true =>
      have hd : (!o.pre) = false := by rw [hp]; rfl
      have hz := heap_lt hx.2
      have HX := Lib.hid hx
      have HP := Lib.hid hp
      clear hx hp
      obtain ⟨wk, hwk⟩ : ∃ wk, wk = wc := ⟨_, rfl⟩
      subst hwk
      have c0 : wk.cell? ⟨w.heap.size, 0, none⟩ = some (.int .i64 o.n) := blk_cell HX.out.2 0
      have c1 : wk.cell? ⟨w.heap.size, 1, none⟩ = some (.int .i64 o.r) := blk_cell HX.out.2 1
      have c2 : wk.cell? ⟨w.heap.size, 2, none⟩ = some (.int .i64 o.d.x0) := blk_cell HX.out.2 2
      have c3 : wk.cell? ⟨w.heap.size, 3, none⟩ = some (.int .i64 o.d.x1) := blk_cell HX.out.2 3
      have c4 : wk.cell? ⟨w.heap.size, 4, none⟩ = some (.int .i64 o.d.x2) := blk_cell HX.out.2 4
      have c5 : wk.cell? ⟨w.heap.size, 5, none⟩ = some (.int .i64 o.d.x3) := blk_cell HX.out.2 5
      have c6 : wk.cell? ⟨w.heap.size, 6, none⟩ = some (.int .i64 o.d.x4) := blk_cell HX.out.2 6
      have c7 : wk.cell? ⟨w.heap.size, 7, none⟩ = some (.int .i64 o.d.x5) := blk_cell HX.out.2 7
      have c8 : wk.cell? ⟨w.heap.size, 8, none⟩ = some (.int .i64 o.d.x6) := blk_cell HX.out.2 8
      have c9 : wk.cell? ⟨w.heap.size, 9, none⟩ = some (.int .i64 o.d.x7) := blk_cell HX.out.2 9
      have c10 : wk.cell? ⟨w.heap.size, 10, none⟩ = some (.int .i64 o.kd) := blk_cell HX.out.2 10
      go_wp2_with (refine wpList_store_fresh rfl (.tmp 4) (.tmp 32) 39 rfl (wk.heap.size + 1) _ _ rfl (by simp) rfl (by kernel_rfl) (by kernel_rfl) (by kernel_rfl) ?_)
      refine wp_let' (RW w o o.x0 wk.heap.size) (rw_new (x := o.x0) HX.out) (fun x hx => ?_)
      have HR := Lib.hid hx
      clear hx c0 c1 c2 c3 c4 c5 c6 c7 c8 c9 c10
      have hlt := HR.out.lt
      have hne : ¬ w.heap.size = wk.heap.size + 1 := by omega
      have hne' : ¬ wk.heap.size + 1 = w.heap.size := by omega
      have c18 : x.cell? ⟨w.heap.size, 18, none⟩ = some (.string o.name) := blk_cell HR.out.ob 18
      have c19 : x.cell? ⟨w.heap.size, 19, none⟩ = some (.string o.value) := blk_cell HR.out.ob 19
      have f18 := blk_free HR.out.xb 18
      have g18 := blk_cell HR.out.xb 18
      have f19 := blk_free HR.out.xb 19
      have g19 := blk_cell HR.out.xb 19
      clear hgd hgs
      go_region_held3 (fun w' => w'.cell? ⟨w.heap.size, 18, none⟩ = some (.string o.name) ∧ w'.cell? ⟨w.heap.size, 19, none⟩ = some (.string o.value)) (go_keep) (fail)
      have HR2 : RW w o o.x50 wk.heap.size ((((x.setCell ⟨wk.heap.size + 1, 18, none⟩ (.string o.name)).setCell ⟨wk.heap.size + 1, 19, none⟩ (.string o.value))).drew) := RC.to (RC.drew (RC.set (RC.set (RC.of HR.out)))) (by kernel_rfl)
      generalize ((x.setCell ⟨wk.heap.size + 1, 18, none⟩ (.string o.name)).setCell ⟨wk.heap.size + 1, 19, none⟩ (.string o.value)).drew = y at HR2 ⊢
      have HR := Lib.hid HR2
      clear HR2 c18 c19 f18 f19 g18 g19
      have c10 : y.cell? ⟨w.heap.size, 10, none⟩ = some (.int .i64 o.kd) := blk_cell HR.out.ob 10
      go_wp2_with fail
      clear c10
      have HA : An o w.heap.size y := HR.out.ob
      have l20 : ∀ y, An o w.heap.size y → y.cell? ⟨w.heap.size, 20, none⟩ = some (.int .i64 o.fn) := fun y h => blk_cell h 20
      have l21 : ∀ y, An o w.heap.size y → y.cell? ⟨w.heap.size, 21, none⟩ = some (.int .i64 o.fr) := fun y h => blk_cell h 21
      have l22 : ∀ y, An o w.heap.size y → y.cell? ⟨w.heap.size, 22, none⟩ = some (.bool o.fa) := fun y h => blk_cell h 22
      have l23 : ∀ y, An o w.heap.size y → y.cell? ⟨w.heap.size, 23, none⟩ = some (.int .i64 o.tn) := fun y h => blk_cell h 23
      have l24 : ∀ y, An o w.heap.size y → y.cell? ⟨w.heap.size, 24, none⟩ = some (.int .i64 o.tr) := fun y h => blk_cell h 24
      have l25 : ∀ y, An o w.heap.size y → y.cell? ⟨w.heap.size, 25, none⟩ = some (.bool o.ta) := fun y h => blk_cell h 25
      have f20 := blk_free HR.out.xb 20
      have g20 := blk_cell HR.out.xb 20
      have f21 := blk_free HR.out.xb 21
      have g21 := blk_cell HR.out.xb 21
      have f22 := blk_free HR.out.xb 22
      have g22 := blk_cell HR.out.xb 22
      have f23 := blk_free HR.out.xb 23
      have g23 := blk_cell HR.out.xb 23
      have f24 := blk_free HR.out.xb 24
      have g24 := blk_cell HR.out.xb 24
      have f25 := blk_free HR.out.xb 25
      have g25 := blk_cell HR.out.xb 25
      go_region_held3 (fun w' => An o w.heap.size w') (first | with_reducible exact An.drew HA | with_reducible exact An.drew (An.set (An.set (An.set HA hne) hne) hne) | with_reducible exact An.drew (An.set (An.set (An.set (An.set (An.set (An.set HA hne) hne) hne) hne) hne) hne)) (fail)
      have HF : RW w o o.x5 wk.heap.size (((((((y.setCell ⟨wk.heap.size + 1, 20, none⟩ (.int .i64 o.fn)).setCell ⟨wk.heap.size + 1, 21, none⟩ (.int .i64 o.fr)).setCell ⟨wk.heap.size + 1, 22, none⟩ (.bool o.fa)).setCell ⟨wk.heap.size + 1, 23, none⟩ (.int .i64 o.tn)).setCell ⟨wk.heap.size + 1, 24, none⟩ (.int .i64 o.tr)).setCell ⟨wk.heap.size + 1, 25, none⟩ (.bool o.ta)).drew) := rc5 HR.out
      generalize ((((((y.setCell ⟨wk.heap.size + 1, 20, none⟩ (.int .i64 o.fn)).setCell ⟨wk.heap.size + 1, 21, none⟩ (.int .i64 o.fr)).setCell ⟨wk.heap.size + 1, 22, none⟩ (.bool o.fa)).setCell ⟨wk.heap.size + 1, 23, none⟩ (.int .i64 o.tn)).setCell ⟨wk.heap.size + 1, 24, none⟩ (.int .i64 o.tr)).setCell ⟨wk.heap.size + 1, 25, none⟩ (.bool o.ta)).drew = wc at HF ⊢
      have HR := Lib.hid HF
      clear HF HA l20 l21 l22 l23 l24 l25 f20 f21 f22 f23 f24 f25 g20 g21 g22 g23 g24 g25 hlt hne hne'
      have hgd := run_opGuard
      have hgs := run_stGuard
      have c20 : wc.cell? ⟨w.heap.size, 20, none⟩ = some (.int .i64 o.fn) := blk_cell HR.out.ob 20
      have c21 : wc.cell? ⟨w.heap.size, 21, none⟩ = some (.int .i64 o.fr) := blk_cell HR.out.ob 21
      have c22 : wc.cell? ⟨w.heap.size, 22, none⟩ = some (.bool o.fa) := blk_cell HR.out.ob 22
      have c23 : wc.cell? ⟨w.heap.size, 23, none⟩ = some (.int .i64 o.tn) := blk_cell HR.out.ob 23
      have c24 : wc.cell? ⟨w.heap.size, 24, none⟩ = some (.int .i64 o.tr) := blk_cell HR.out.ob 24
      have c25 : wc.cell? ⟨w.heap.size, 25, none⟩ = some (.bool o.ta) := blk_cell HR.out.ob 25
      obtain ⟨z0, z1⟩ := nb_cells HR.out.nb
      go_upto_region 25 with fail
      go_cut [5] (fun c wx => c = .bool o.ok50 ∧ RW w o o.x5 wk.heap.size wx)
      case first =>
        cases hb : o.hasB o.fn o.fr with
        | true =>
          have HA := Lib.hid (fun w => bool_of hb (has_call o o.fn o.fr w))
          cases hc : o.hasB o.tn o.tr with
          | true =>
            have HB := Lib.hid (fun w => bool_of hc (has_call o o.tn o.tr w))
            as_aux_lemma =>
              have HV := Lib.hid (show true = o.ok50 by simp [OpG.ok50, OpG.chB, hb, hc])
              go_wp2_with (first | refine wpList_load_whole (.tmp 1) 39 rfl rfl w.heap.size o.cells rfl Tryd.underlying39 (by kernel_rfl) HR.out.ob ?_)
              with_reducible refine (HA.out _).mono ?_
              rintro e wq ⟨rfl, hb⟩
              have HR := Lib.hid (HR.out.later hb)
              clear hb c20 c21 c22 c23 c24 c25 z0 z1
              have c20 : wq.cell? ⟨w.heap.size, 20, none⟩ = some (.int .i64 o.fn) := blk_cell HR.out.ob 20
              have c21 : wq.cell? ⟨w.heap.size, 21, none⟩ = some (.int .i64 o.fr) := blk_cell HR.out.ob 21
              have c22 : wq.cell? ⟨w.heap.size, 22, none⟩ = some (.bool o.fa) := blk_cell HR.out.ob 22
              have c23 : wq.cell? ⟨w.heap.size, 23, none⟩ = some (.int .i64 o.tn) := blk_cell HR.out.ob 23
              have c24 : wq.cell? ⟨w.heap.size, 24, none⟩ = some (.int .i64 o.tr) := blk_cell HR.out.ob 24
              have c25 : wq.cell? ⟨w.heap.size, 25, none⟩ = some (.bool o.ta) := blk_cell HR.out.ob 25
              obtain ⟨z0, z1⟩ := nb_cells HR.out.nb
              go_wp2_with (first | refine wpList_load_whole (.tmp 1) 39 rfl rfl w.heap.size o.cells rfl Tryd.underlying39 (by kernel_rfl) HR.out.ob ?_)
              with_reducible refine (HB.out _).mono ?_
              rintro e wq ⟨rfl, hb⟩
              have HR := Lib.hid (HR.out.later hb)
              clear hb c20 c21 c22 c23 c24 c25 z0 z1
              have c20 : wq.cell? ⟨w.heap.size, 20, none⟩ = some (.int .i64 o.fn) := blk_cell HR.out.ob 20
              have c21 : wq.cell? ⟨w.heap.size, 21, none⟩ = some (.int .i64 o.fr) := blk_cell HR.out.ob 21
              have c22 : wq.cell? ⟨w.heap.size, 22, none⟩ = some (.bool o.fa) := blk_cell HR.out.ob 22
              have c23 : wq.cell? ⟨w.heap.size, 23, none⟩ = some (.int .i64 o.tn) := blk_cell HR.out.ob 23
              have c24 : wq.cell? ⟨w.heap.size, 24, none⟩ = some (.int .i64 o.tr) := blk_cell HR.out.ob 24
              have c25 : wq.cell? ⟨w.heap.size, 25, none⟩ = some (.bool o.ta) := blk_cell HR.out.ob 25
              obtain ⟨z0, z1⟩ := nb_cells HR.out.nb
              go_wp2_with fail
              go_meet
              exact ⟨congrArg Value.bool HV.out, HR.out⟩
          | false =>
            have HB := Lib.hid (fun w => bool_of hc (has_call o o.tn o.tr w))
            as_aux_lemma =>
              have HV := Lib.hid (show false = o.ok50 by simp [OpG.ok50, OpG.chB, hb, hc])
              go_wp2_with (first | refine wpList_load_whole (.tmp 1) 39 rfl rfl w.heap.size o.cells rfl Tryd.underlying39 (by kernel_rfl) HR.out.ob ?_)
              with_reducible refine (HA.out _).mono ?_
              rintro e wq ⟨rfl, hb⟩
              have HR := Lib.hid (HR.out.later hb)
              clear hb c20 c21 c22 c23 c24 c25 z0 z1
              have c20 : wq.cell? ⟨w.heap.size, 20, none⟩ = some (.int .i64 o.fn) := blk_cell HR.out.ob 20
              have c21 : wq.cell? ⟨w.heap.size, 21, none⟩ = some (.int .i64 o.fr) := blk_cell HR.out.ob 21
              have c22 : wq.cell? ⟨w.heap.size, 22, none⟩ = some (.bool o.fa) := blk_cell HR.out.ob 22
              have c23 : wq.cell? ⟨w.heap.size, 23, none⟩ = some (.int .i64 o.tn) := blk_cell HR.out.ob 23
              have c24 : wq.cell? ⟨w.heap.size, 24, none⟩ = some (.int .i64 o.tr) := blk_cell HR.out.ob 24
              have c25 : wq.cell? ⟨w.heap.size, 25, none⟩ = some (.bool o.ta) := blk_cell HR.out.ob 25
              obtain ⟨z0, z1⟩ := nb_cells HR.out.nb
              go_wp2_with (first | refine wpList_load_whole (.tmp 1) 39 rfl rfl w.heap.size o.cells rfl Tryd.underlying39 (by kernel_rfl) HR.out.ob ?_)
              with_reducible refine (HB.out _).mono ?_
              rintro e wq ⟨rfl, hb⟩
              have HR := Lib.hid (HR.out.later hb)
              clear hb c20 c21 c22 c23 c24 c25 z0 z1
              have c20 : wq.cell? ⟨w.heap.size, 20, none⟩ = some (.int .i64 o.fn) := blk_cell HR.out.ob 20
              have c21 : wq.cell? ⟨w.heap.size, 21, none⟩ = some (.int .i64 o.fr) := blk_cell HR.out.ob 21
              have c22 : wq.cell? ⟨w.heap.size, 22, none⟩ = some (.bool o.fa) := blk_cell HR.out.ob 22
              have c23 : wq.cell? ⟨w.heap.size, 23, none⟩ = some (.int .i64 o.tn) := blk_cell HR.out.ob 23
              have c24 : wq.cell? ⟨w.heap.size, 24, none⟩ = some (.int .i64 o.tr) := blk_cell HR.out.ob 24
              have c25 : wq.cell? ⟨w.heap.size, 25, none⟩ = some (.bool o.ta) := blk_cell HR.out.ob 25
              obtain ⟨z0, z1⟩ := nb_cells HR.out.nb
              go_wp2_with fail
              go_meet
              exact ⟨congrArg Value.bool HV.out, HR.out⟩
        | false =>
          have HA := Lib.hid (fun w => bool_of hb (has_call o o.fn o.fr w))
          as_aux_lemma =>
            have HV := Lib.hid (show false = o.ok50 by simp [OpG.ok50, OpG.chB, hb])
            go_wp2_with (first | refine wpList_load_whole (.tmp 1) 39 rfl rfl w.heap.size o.cells rfl Tryd.underlying39 (by kernel_rfl) HR.out.ob ?_)
            with_reducible refine (HA.out _).mono ?_
            rintro e wq ⟨rfl, hb⟩
            have HR := Lib.hid (HR.out.later hb)
            clear hb c20 c21 c22 c23 c24 c25 z0 z1
            have c20 : wq.cell? ⟨w.heap.size, 20, none⟩ = some (.int .i64 o.fn) := blk_cell HR.out.ob 20
            have c21 : wq.cell? ⟨w.heap.size, 21, none⟩ = some (.int .i64 o.fr) := blk_cell HR.out.ob 21
            have c22 : wq.cell? ⟨w.heap.size, 22, none⟩ = some (.bool o.fa) := blk_cell HR.out.ob 22
            have c23 : wq.cell? ⟨w.heap.size, 23, none⟩ = some (.int .i64 o.tn) := blk_cell HR.out.ob 23
            have c24 : wq.cell? ⟨w.heap.size, 24, none⟩ = some (.int .i64 o.tr) := blk_cell HR.out.ob 24
            have c25 : wq.cell? ⟨w.heap.size, 25, none⟩ = some (.bool o.ta) := blk_cell HR.out.ob 25
            obtain ⟨z0, z1⟩ := nb_cells HR.out.nb
            go_wp2_with fail
            go_meet
            exact ⟨congrArg Value.bool HV.out, HR.out⟩
      case rest =>
        have HR := Lib.hid hcut.2
        have HC1 := Lib.hid hcut.1
        clear hcut c20 c21 c22 c23 c24 c25 z0 z1
        cases hok1 : o.ok50 with
        | false =>
          obtain rfl := HC1.out.trans (congrArg Value.bool hok1)
          have c18 : wc.cell? ⟨w.heap.size, 18, none⟩ = some (.string o.name) := blk_cell HR.out.ob 18
          have c19 : wc.cell? ⟨w.heap.size, 19, none⟩ = some (.string o.value) := blk_cell HR.out.ob 19
          obtain ⟨z0, z1⟩ := nb_cells HR.out.nb
          go_upto_region 26 with fail
          go_cut [5] (fun c wx => c = .bool o.ok5 ∧ RW w o o.x5 wk.heap.size wx)
          case first =>
            as_aux_lemma =>
              have HV := Lib.hid (show false = o.ok5 by simp [OpG.ok5, OpG.chB, hok1])
              go_wp2_with fail
              go_meet
              exact ⟨congrArg Value.bool HV.out, HR.out⟩
          case rest =>
            have HR := Lib.hid hcut.2
            have HC1 := Lib.hid hcut.1
            clear hcut c18 c19 z0 z1
            have heq := fun w => eqOp_run o.x5 o w
            cases hok : o.ok5 with
            | true => as_aux_lemma =>
              have HV := Lib.hid (show o.x5.beq o = o.rightP by simp [OpG.rightP, HP.out, HK.out, hok])
              obtain rfl := HC1.out.trans (congrArg Value.bool hok)
              go_wp2_with (first | refine wpList_load_whole (.tmp 1) 39 rfl rfl w.heap.size o.cells rfl Tryd.underlying39 (by kernel_rfl) HR.out.ob ?_ | refine wpList_load_whole (.tmp 4) 39 rfl rfl (wk.heap.size + 1) (OpG.cells o.x5) rfl Tryd.underlying39 (by kernel_rfl) HR.out.xb ?_)
              go_ret
              exact ⟨ret_bool HV.out, HR.out.below⟩
            | false => as_aux_lemma =>
              have HV := Lib.hid (show false = o.rightP by simp [OpG.rightP, HP.out, HK.out, hok])
              obtain rfl := HC1.out.trans (congrArg Value.bool hok)
              go_wp2_with (first | refine wpList_load_whole (.tmp 1) 39 rfl rfl w.heap.size o.cells rfl Tryd.underlying39 (by kernel_rfl) HR.out.ob ?_ | refine wpList_load_whole (.tmp 4) 39 rfl rfl (wk.heap.size + 1) (OpG.cells o.x5) rfl Tryd.underlying39 (by kernel_rfl) HR.out.xb ?_)
              go_ret
              exact ⟨ret_bool (by first | exact HV.out | exact hok.trans HV.out), HR.out.below⟩
        | true =>
          obtain rfl := HC1.out.trans (congrArg Value.bool hok1)
          have c18 : wc.cell? ⟨w.heap.size, 18, none⟩ = some (.string o.name) := blk_cell HR.out.ob 18
          have c19 : wc.cell? ⟨w.heap.size, 19, none⟩ = some (.string o.value) := blk_cell HR.out.ob 19
          obtain ⟨z0, z1⟩ := nb_cells HR.out.nb
          go_upto_region 26 with fail
          go_cut [5] (fun c wx => c = .bool o.ok5 ∧ RW w o o.x5 wk.heap.size wx)
          case first =>
            cases hn : nameB o.name with
            | true =>
              have NA := Lib.hid (fun w => bool_of hn (name_any o.name HF.out.2.1 w))
              have VA := Lib.hid (fun w => opsValue_any o.value HF.out.2.2 w)
              as_aux_lemma =>
                have HV := Lib.hid (show valB o.value = o.ok5 by simp [OpG.ok5, OpG.chB, hok1, hn])
                go_wp2_with (first | refine wpList_load_whole (.tmp 1) 39 rfl rfl w.heap.size o.cells rfl Tryd.underlying39 (by kernel_rfl) HR.out.ob ?_)
                with_reducible refine (NA.out _).mono ?_
                rintro e wq ⟨rfl, hb⟩
                have HR := Lib.hid (HR.out.later hb)
                clear hb c18 c19 z0 z1
                have c18 : wq.cell? ⟨w.heap.size, 18, none⟩ = some (.string o.name) := blk_cell HR.out.ob 18
                have c19 : wq.cell? ⟨w.heap.size, 19, none⟩ = some (.string o.value) := blk_cell HR.out.ob 19
                obtain ⟨z0, z1⟩ := nb_cells HR.out.nb
                go_wp2_with (first | refine wpList_load_whole (.tmp 1) 39 rfl rfl w.heap.size o.cells rfl Tryd.underlying39 (by kernel_rfl) HR.out.ob ?_)
                with_reducible refine (VA.out _).mono ?_
                rintro e wq ⟨rfl, hb⟩
                have HR := Lib.hid (HR.out.later hb)
                clear hb c18 c19 z0 z1
                have c18 : wq.cell? ⟨w.heap.size, 18, none⟩ = some (.string o.name) := blk_cell HR.out.ob 18
                have c19 : wq.cell? ⟨w.heap.size, 19, none⟩ = some (.string o.value) := blk_cell HR.out.ob 19
                obtain ⟨z0, z1⟩ := nb_cells HR.out.nb
                go_wp2_with fail
                go_meet
                exact ⟨congrArg Value.bool HV.out, HR.out⟩
            | false =>
              have NA := Lib.hid (fun w => bool_of hn (name_any o.name HF.out.2.1 w))
              as_aux_lemma =>
                have HV := Lib.hid (show false = o.ok5 by simp [OpG.ok5, OpG.chB, hok1, hn])
                go_wp2_with (first | refine wpList_load_whole (.tmp 1) 39 rfl rfl w.heap.size o.cells rfl Tryd.underlying39 (by kernel_rfl) HR.out.ob ?_)
                with_reducible refine (NA.out _).mono ?_
                rintro e wq ⟨rfl, hb⟩
                have HR := Lib.hid (HR.out.later hb)
                clear hb c18 c19 z0 z1
                have c18 : wq.cell? ⟨w.heap.size, 18, none⟩ = some (.string o.name) := blk_cell HR.out.ob 18
                have c19 : wq.cell? ⟨w.heap.size, 19, none⟩ = some (.string o.value) := blk_cell HR.out.ob 19
                obtain ⟨z0, z1⟩ := nb_cells HR.out.nb
                go_wp2_with fail
                go_meet
                exact ⟨congrArg Value.bool HV.out, HR.out⟩
          case rest =>
            have HR := Lib.hid hcut.2
            have HC1 := Lib.hid hcut.1
            clear hcut c18 c19 z0 z1
            have heq := fun w => eqOp_run o.x5 o w
            cases hok : o.ok5 with
            | true => as_aux_lemma =>
              have HV := Lib.hid (show o.x5.beq o = o.rightP by simp [OpG.rightP, HP.out, HK.out, hok])
              obtain rfl := HC1.out.trans (congrArg Value.bool hok)
              go_wp2_with (first | refine wpList_load_whole (.tmp 1) 39 rfl rfl w.heap.size o.cells rfl Tryd.underlying39 (by kernel_rfl) HR.out.ob ?_ | refine wpList_load_whole (.tmp 4) 39 rfl rfl (wk.heap.size + 1) (OpG.cells o.x5) rfl Tryd.underlying39 (by kernel_rfl) HR.out.xb ?_)
              go_ret
              exact ⟨ret_bool HV.out, HR.out.below⟩
            | false => as_aux_lemma =>
              have HV := Lib.hid (show false = o.rightP by simp [OpG.rightP, HP.out, HK.out, hok])
              obtain rfl := HC1.out.trans (congrArg Value.bool hok)
              go_wp2_with (first | refine wpList_load_whole (.tmp 1) 39 rfl rfl w.heap.size o.cells rfl Tryd.underlying39 (by kernel_rfl) HR.out.ob ?_ | refine wpList_load_whole (.tmp 4) 39 rfl rfl (wk.heap.size + 1) (OpG.cells o.x5) rfl Tryd.underlying39 (by kernel_rfl) HR.out.xb ?_)
              go_ret
              exact ⟨ret_bool (by first | exact HV.out | exact hok.trans HV.out), HR.out.below⟩
end Go.Proofs.YtiamohfpohjdpaaDoor
