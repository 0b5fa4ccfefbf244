/- WHETHER AN OPERATION MAY BE, by package ops: of no kind. -/
import Derived.Test.YtiamohfpohjdpaaDoorORight
namespace Go.Proofs.YtiamohfpohjdpaaDoor
open Go.RowKit Go.Joins
set_option linter.unusedSimpArgs false
set_option linter.unusedVariables false
set_option maxHeartbeats 8000000 in
set_option maxRecDepth 100000 in
theorem opsRight_k6 (o : OpG) (hf : o.fine) (w : World) (hk : o.kd ≠ 1 ∧ o.kd ≠ 2 ∧ o.kd ≠ 3 ∧ o.kd ≠ 4 ∧ o.kd ≠ 5) : Calls Tryd.prog 21 #[o.val] w fun e w' => e = .returned (.bool o.rightP) ∧ Below w.heap.size w w' := by
  obtain ⟨hf1, hf2, hf3⟩ := hf
  have hgd := run_opGuard
  have hgs := run_stGuard
  have HF := Lib.hid (And.intro hf1 (And.intro hf2 hf3))
  clear hf1 hf2 hf3
  have k1 : (o.kd == 1) = false := by simp [hk]
  have k2 : (o.kd == 2) = false := by simp [hk]
  have k3 : (o.kd == 3) = false := by simp [hk]
  have k4 : (o.kd == 4) = false := by simp [hk]
  have k5 : (o.kd == 5) = false := by simp [hk]
  have HK := Lib.hid hk
  clear hk
  go_enter Tryd.func21, Tryd.ntmps21
  go_upto_region 1 with fail
  go_cut [24] (fun c wx => c = .bool (!o.pre) ∧ OpBox o w wx)
  case first => as_aux_lemma =>
    clear hgd hgs
    refine wp_let' (OpBox o w) (opBox_new o w) (fun x hx => ?_)
    have hc : ∀ n i, (ext x n).cell? ⟨w.heap.size, i, none⟩ = o.cells[i]? := fun n i => blk_cell (hx.ext n).2 i
    have HX := Lib.hid hx
    clear hx
    have M := Lib.hid (fun n => min_call o HX.out n)
    have N := Lib.hid (fun w => most_any o.d w)
    cases h1 : rightB o.n o.r with
    | false =>
      have HV := Lib.hid (show true = !o.pre by simp [OpG.pre, h1])
      have R := Lib.hid (fun w => bool_of h1 (right0_any o.n o.r w))
      clear h1
      refine region_ext (by kernel_rfl) (by kernel_rfl) ?_
      repeat (go_big_quiet_step (first | with_reducible exact calls_ext (R.out _)))
      refine wpQuiet_nil ?_
      rintro _ ⟨nq, rfl⟩
      go_wp2_with fail
      go_meet
      exact ⟨congrArg Value.bool HV.out, HX.out.ext nq⟩
    | true =>
      have R := Lib.hid (fun w => bool_of h1 (right0_any o.n o.r w))
      by_cases h2 : Lib.minOf o.d.list < 0
      · have d2 : decide (Lib.minOf o.d.list < 0) = true := decide_eq_true h2
        have HV := Lib.hid (show true = !o.pre by simp [OpG.pre, h1]; omega)
        clear h1 h2
        refine region_ext (by kernel_rfl) (by kernel_rfl) ?_
        repeat (go_big_quiet_step (first | with_reducible exact calls_ext (R.out _) | with_reducible exact M.out _))
        refine wpQuiet_nil ?_
        rintro _ ⟨nq, rfl⟩
        go_wp2_with fail
        go_meet
        exact ⟨congrArg Value.bool HV.out, HX.out.ext nq⟩
      · have d2 : decide (Lib.minOf o.d.list < 0) = false := decide_eq_false h2
        have HV := Lib.hid (show decide (o.n ≤ o.d.most) = !o.pre by
          simp only [OpG.pre, h1, Bool.true_and, decide_eq_true (show 0 ≤ Lib.minOf o.d.list by omega)]
          by_cases h3 : o.n ≤ o.d.most
          · rw [decide_eq_true h3, decide_eq_false (by omega)]; rfl
          · rw [decide_eq_false h3, decide_eq_true (by omega)]; rfl)
        clear h1 h2
        refine region_ext (by kernel_rfl) (by kernel_rfl) ?_
        repeat (go_big_quiet_step (first | with_reducible exact calls_ext (R.out _) | with_reducible exact M.out _ | with_reducible exact calls_ext (N.out _)))
        refine wpQuiet_nil ?_
        rintro _ ⟨nq, rfl⟩
        go_wp2_with fail
        go_meet
        exact ⟨congrArg Value.bool HV.out, HX.out.ext nq⟩
  case rest =>
    obtain ⟨rfl, hx⟩ := hcut
    cases hp : o.pre with
    | false => as_aux_lemma =>
      have hd : (!o.pre) = true := by rw [hp]; rfl
      have HX := Lib.hid hx
      clear hx
      go_wp2
      go_ret
      exact ⟨ret_bool (by simp [OpG.rightP, hp]), HX.out.1⟩
    | true =>
      have hd : (!o.pre) = false := by rw [hp]; rfl
      have hz := heap_lt hx.2
      have HX := Lib.hid hx
      have HP := Lib.hid hp
      clear hx hp
      obtain ⟨wk, hwk⟩ : ∃ wk, wk = wc := ⟨_, rfl⟩
      subst hwk
      have c0 : wk.cell? ⟨w.heap.size, 0, none⟩ = some (.int .i64 o.n) := blk_cell HX.out.2 0
      have c1 : wk.cell? ⟨w.heap.size, 1, none⟩ = some (.int .i64 o.r) := blk_cell HX.out.2 1
      have c2 : wk.cell? ⟨w.heap.size, 2, none⟩ = some (.int .i64 o.d.x0) := blk_cell HX.out.2 2
      have c3 : wk.cell? ⟨w.heap.size, 3, none⟩ = some (.int .i64 o.d.x1) := blk_cell HX.out.2 3
      have c4 : wk.cell? ⟨w.heap.size, 4, none⟩ = some (.int .i64 o.d.x2) := blk_cell HX.out.2 4
      have c5 : wk.cell? ⟨w.heap.size, 5, none⟩ = some (.int .i64 o.d.x3) := blk_cell HX.out.2 5
      have c6 : wk.cell? ⟨w.heap.size, 6, none⟩ = some (.int .i64 o.d.x4) := blk_cell HX.out.2 6
      have c7 : wk.cell? ⟨w.heap.size, 7, none⟩ = some (.int .i64 o.d.x5) := blk_cell HX.out.2 7
      have c8 : wk.cell? ⟨w.heap.size, 8, none⟩ = some (.int .i64 o.d.x6) := blk_cell HX.out.2 8
      have c9 : wk.cell? ⟨w.heap.size, 9, none⟩ = some (.int .i64 o.d.x7) := blk_cell HX.out.2 9
      have c10 : wk.cell? ⟨w.heap.size, 10, none⟩ = some (.int .i64 o.kd) := blk_cell HX.out.2 10
      go_upto_region 27 with (refine wpList_store_fresh rfl (.tmp 4) (.tmp 32) 39 rfl (wk.heap.size + 1) _ _ rfl (by simp) rfl (by kernel_rfl) (by kernel_rfl) (by kernel_rfl) ?_)
      refine wp_let' (RW w o o.x0 wk.heap.size) (rw_new (x := o.x0) HX.out) (fun x hx => ?_)
      have HR := Lib.hid hx
      clear hx c0 c1 c2 c3 c4 c5 c6 c7 c8 c9 c10
      have hlt := HR.out.lt
      have hne : ¬ w.heap.size = wk.heap.size + 1 := by omega
      have hne' : ¬ wk.heap.size + 1 = w.heap.size := by omega
      have HV := Lib.hid (show false = o.rightP by obtain ⟨a1, a2, a3, a4, a5⟩ := HK.out; simp [OpG.rightP, HP.out, a1, a2, a3, a4, a5])
      go_wp2
      go_ret
      exact ⟨ret_bool HV.out, HR.out.below⟩
end Go.Proofs.YtiamohfpohjdpaaDoor
