/- THE LAW FugueNil. -/
import Derived.Test.YtohpablkgfkelaaFAlive
import Derived.Test.YtohpablkgfkelaaRows
import Derived.ProofKit
import Derived.OpenShut
import Derived.ShutString
import Derived.ChangeOld
import Derived.Below
namespace Go.Proofs.Ytohpablkgfkelaa
open Go.ChangeShapes Go.WideShapes Go.ChangeAt Go.RowKit
set_option linter.unusedVariables false
set_option linter.unusedSimpArgs false

set_option maxHeartbeats 2000000 in
set_option maxRecDepth 20000 in
theorem fugueNil_walk (kd : Int) (id par : St) (side ch n : Int) (w : World) : Calls Try.prog 9 #[(⟨kd, id, par, side, ch, n⟩ : ActG).val] w fun e w' => e = .returned (.bool true) ∧ Below w.heap.size w w' := by
  have H := Lib.hid (fun w => alive_any w)
  have N1 := Lib.hid (fun w => nil_at w n)
  have N2 := Lib.hid (fun w => nil_index w id)
  have N3 := Lib.hid (fun w => nil_between w n)
  have N4 := Lib.hid (fun w => nil_insert w id par side ch)
  have N5 := Lib.hid (fun w => nil_delete w id)
  have N6 := Lib.hid (fun w => nil_len w)
  have N7 := Lib.hid (fun w => nil_all w)
  go_enter Try.func9, Try.ntmps9
  go_upto_region 2 with fail
  refine wp_let (fun x => Below w.heap.size w x ∧ x.heap[w.heap.size]? = some (.cells (⟨kd, id, par, side, ch, n⟩ : ActG).cells 33 (0, 0))) ⟨(Below.refl _ _).alloc (Nat.le_refl _) _, blk_new _ _⟩ (fun x hx => ?_)
  have HX := Lib.hid hx
  have c5 := blk_cell hx.2 7
  clear hx
  go_upto_region 3 with (with_reducible refine (N1.out _).mono ?_; rintro e w' ⟨rfl, hb⟩; have HB := Lib.hid hb; clear hb)
  refine wp_let (fun x => Below w.heap.size w x ∧ x.heap[w.heap.size]? = some (.cells (⟨kd, id, par, side, ch, n⟩ : ActG).cells 33 (0, 0))) ⟨(HX.out.1.trans (HB.out.mono HX.out.1.size)).alloc (HX.out.1.trans (HB.out.mono HX.out.1.size)).size _, blk_alloc ((HB.out.block _ (heap_lt HX.out.2)).trans HX.out.2)⟩ (fun y hy => ?_)
  clear HX HB c5
  have HX := Lib.hid hy
  have c1 := blk_cell hy.2 1
  have c2 := blk_cell hy.2 2
  clear hy
  go_upto_region 4 with (with_reducible refine (N2.out _).mono ?_; rintro e w' ⟨rfl, hb⟩; have HB := Lib.hid hb; clear hb)
  refine wp_let (fun x => Below w.heap.size w x ∧ x.heap[w.heap.size]? = some (.cells (⟨kd, id, par, side, ch, n⟩ : ActG).cells 33 (0, 0))) ⟨HX.out.1.trans (HB.out.mono HX.out.1.size), (HB.out.block _ (heap_lt HX.out.2)).trans HX.out.2⟩ (fun z hz => ?_)
  clear HX HB c1 c2
  have HX := Lib.hid hz
  have c5 := blk_cell hz.2 7
  clear hz
  go_upto_region 5 with (with_reducible refine (N3.out _).mono ?_; rintro e w' ⟨rfl, hb⟩; have HB := Lib.hid hb; clear hb)
  refine wp_let (fun x => Below w.heap.size w x ∧ x.heap[w.heap.size]? = some (.cells (⟨kd, id, par, side, ch, n⟩ : ActG).cells 33 (0, 0))) ⟨(HX.out.1.trans (HB.out.mono HX.out.1.size)).alloc (HX.out.1.trans (HB.out.mono HX.out.1.size)).size _, blk_alloc ((HB.out.block _ (heap_lt HX.out.2)).trans HX.out.2)⟩ (fun y2 hy => ?_)
  clear HX HB c5
  have HX := Lib.hid hy
  clear hy
  go_wp2_with (first | (with_reducible refine (H.out _).mono ?_; rintro e w1 ⟨rfl, hb⟩; have hh := (hb.block _ (heap_lt HX.out.2)).trans HX.out.2; have c1 := blk_cell hh 1; have c2 := blk_cell hh 2; have c3 := blk_cell hh 3; have c4 := blk_cell hh 4; have c5 := blk_cell hh 5; have c6 := blk_cell hh 6; have HX1 := Lib.hid (And.intro (HX.out.1.trans (hb.mono HX.out.1.size)) hh); clear hb hh) | (with_reducible refine (N4.out _).mono ?_; rintro e w2 ⟨rfl, hb⟩; have hh := (hb.block _ (heap_lt HX1.out.2)).trans HX1.out.2; have d1 := blk_cell hh 1; have d2 := blk_cell hh 2; have HX2 := Lib.hid (And.intro (HX1.out.1.trans (hb.mono HX1.out.1.size)) hh); clear hb hh) | (with_reducible refine (N5.out _).mono ?_; rintro e w3 ⟨rfl, hb⟩; have HX3 := Lib.hid (HX2.out.1.trans (hb.mono HX2.out.1.size)); clear hb) | (with_reducible refine (N6.out _).mono ?_; rintro e w4 ⟨rfl, hb⟩; have HX4 := Lib.hid (HX3.out.trans (hb.mono HX3.out.size)); clear hb) | (with_reducible refine (N7.out _).mono ?_; rintro e w5 ⟨rfl, hb⟩; have HX5 := Lib.hid (HX4.out.trans (hb.mono HX4.out.size)); clear hb))
  go_ret
  exact ⟨rfl, HX5.out⟩

set_option maxRecDepth 100000 in
theorem fugueNil_lifted (os : Os) (started : os.Started) (H : Type) (enc : TypeId × Value → H) :
    ReturnsInHanded {} Try.checked os 9 .any (Rows.fugueNilSpec.pre6 enc Try.prog Try.f9 Rows.fugueNilRow.domain false) (Rows.fugueNilSpec.post enc Try.prog Try.f9 false true false false) := by
  refine returnsInHanded_of_change (C := Try.checked) own started (by kernel_rfl) Try.func9
    (ChangeSpec.witness6 (enc := enc) (C := Try.checked) false ⟨#[], #[.agg #[.int .i64 0, .int .i64 0, .int .i64 0, .int .i64 0, .int .i64 0, .int .i64 0, .int .i64 0, .int .i64 0]], []⟩ 8 (by kernel_rfl) (by kernel_rfl) (by kernel_rfl) (by kernel_rfl)) ?_
  intro W base args ds gs before hval0 hW hcnd _
  have hval : ∀ (j : Nat) t v, Try.f9.params[j]? = some t → args[j]? = some v → Value.okWide Try.prog W .any base t v := hval0
  have hW' := hW
  obtain ⟨p, q, hA0, hV, rfl, hfz, hnd⟩ := hW
  have hA : DataW.TrodAll enc Try.prog W 0 (fun _ => true) true Try.f9.params.toList args.toList ds p := hA0
  rw [Try.params9] at hA hval
  obtain ⟨v0, vs0, d0, ds0, p0, q0, hargs, rfl, rfl, h0, r0⟩ := trodAll_cons hA
  obtain ⟨rfl, rfl, rfl⟩ := trodAll_nil r0
  obtain rfl : args = #[v0] := by cases args; simp_all
  obtain ⟨rfl, rfl⟩ := trodVars_none hV
  have lt0 : ∀ x ∈ p0, x.block < W.heap.size := by obtain ⟨m, hm⟩ := h0; exact DataW.trod_lt m _ _ _ hm
  obtain ⟨⟨g1, g2, g3, g4, g5, g6⟩, rfl⟩ := open_act (hval 0 33 v0 rfl rfl) h0
  clear hA0 hval0
  refine (fugueNil_walk g1 g2 g3 g4 g5 g6 W).mono fun e W' ⟨he, bel⟩ => ?_
  subst he
  exact ⟨_, rfl, _, _, _, [], _, [], hW', trodAll_mk1 (shut_bool Try.underlying4 _), (trodAll_cons_mk (Below.trod laidOut (by kernel_rfl) (of_decide_eq_true (by kernel_rfl)) h0 bel lt0) trodAll_mk0), rfl, bel.frame _, fun h => by cases h⟩

theorem fugueNil_holds : Rows.FugueNilSaid :=
  OpenClaim.holds_of_wide 9 Try.f9 rfl rfl rfl rfl rfl rfl rfl ⟨rfl, rfl, rfl, rfl, rfl⟩ rfl rfl rfl rfl rfl (by kernel_rfl) Try.func9 (by kernel_rfl)
    (of_decide_eq_true (by kernel_rfl)) (by unfold Func.isWrapper; first | (rw [if_pos (by decide +kernel)]; kernel_rfl) | (rw [if_neg (by decide +kernel)]; exact ⟨rfl, rfl⟩))
    (fun os started H enc _ => fugueNil_lifted os started H enc)

end Go.Proofs.Ytohpablkgfkelaa
