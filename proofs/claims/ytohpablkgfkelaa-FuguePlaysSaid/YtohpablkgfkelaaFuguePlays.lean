/- THE LAW FuguePlays: proved for every script (of which 80 acts are gone through); no condition. -/
import Derived.Test.YtohpablkgfkelaaFRefs
import Derived.Test.YtohpablkgfkelaaFAlive
import Derived.Deep.RegionHeld3
import Derived.Deep.DeepCutAuto
import Derived.Deep.CutBlock
import Derived.Test.YtohpablkgfkelaaRows
import Derived.ProofKit
import Derived.OpenShut
import Derived.ShutString
import Derived.ChangeOld
import Derived.Below
namespace Go.Proofs.Ytohpablkgfkelaa
open Go.ChangeShapes Go.WideShapes Go.ChangeAt Go.RowKit
open Go.ChangeMaps (open_string shut_string)
set_option linter.unusedVariables false
set_option linter.unusedSimpArgs false

open Go.Joins
set_option maxHeartbeats 16000000 in
set_option maxRecDepth 40000 in
theorem fuguePlays_walk (ao : Option Addr) (cap : Nat) (A : List ActG) (w : World) (hlen : A.length ≤ maxLen) (hA : ActsAt w ao A) :
    Calls Try.prog 7 #[.slice ao A.length cap] w fun e w' => e = .returned (.bool true) ∧ Below w.heap.size w w' := by
  have HN := Lib.hid (new_text w)
  have HA := Lib.hid hA
  unfold maxLen at hlen
  clear hA
  go_enter Try.func7, Try.ntmps7
  go_wp2_with fail
  with_reducible refine HN.out.mono ?_
  rintro e w1 ⟨t, rfl, hT, hB⟩
  have HS := Lib.hid (two_start hT hB)
  have HAL := Lib.hid (fun w => alive_any w)
  clear hT hB HN
  generalize hm : w1.heap.size = m at *
  go_wp2_with fail
  with_reducible refine (HAL.out _).mono ?_
  rintro e w2 ⟨rfl, hb⟩
  have HS2 := Lib.hid (HS.out.later hb)
  clear hb HAL HS
  go_wp2
  go_loopw [5] (fun i wr => ∃ (n : Nat) (S : Tx) (I : List It), i = .int .i64 n ∧ n ≤ A.length ∧ n ≤ 80 ∧ I.length ≤ n ∧ Aside (Ref I S) ∧ Aside (Two w wr t m S I)) (fun i _ => 81 - (intOf i).toNat)
  case atStart => exact ⟨0, _, [], rfl, by omega, by omega, by simp, Ref.new, HS2.out⟩
  case round =>
    obtain ⟨n, S, I, rfl, hk1, hk2, hI, HR, HW⟩ := hrel
    obtain ⟨F0, G0, h2⟩ := HW.out
    have HBR := Lib.hid h2.b
    clear h2
    by_cases hk : n < A.length ∧ n < 80
    · obtain ⟨hk, h3⟩ := hk
      obtain ⟨a, ha⟩ : ∃ a, A[n]? = some a := ⟨_, List.getElem?_eq_getElem hk⟩
      obtain ⟨b, off, rfl, hbw, hc⟩ := HA.out.below HBR.out n a ha
      have c0 := hc 0 _ rfl
      have c1 := hc 1 _ rfl
      have c2 := hc 2 _ rfl
      have c3 := hc 3 _ rfl
      have c4 := hc 4 _ rfl
      have c5 := hc 5 _ rfl
      have c6 := hc 6 _ rfl
      have c7 := hc 7 _ rfl
      simp only [Nat.add_zero] at c0
      clear hc ha
      go_upto_region 9 with fail
      refine wp_let (fun z => Rd w z t m wr.heap.size a S I) (Rd.start HW.out a) (fun x hx => ?_)
      have HX := Lib.hid hx
      clear c0 c1 c2 c3 c4 c5 c6 c7
      have c0 := blk_cell hx.box 0
      clear hx
      have HI1 := Lib.hid (fun (z : World) (h : Rd w z t m wr.heap.size a S I) => Rd.ins1 (by rw [← HR.out.length]; omega) h)
      have HI2 := Lib.hid (fun (z : World) (S1 : Tx) (h : Rd w z t m wr.heap.size a S1 I) => Rd.ins2 HR.out (by omega) h)
      obtain ⟨dv, hdv⟩ : ∃ z : Int, (if a.id ∈ S.L then (0 : Int) else 121) = z := ⟨_, rfl⟩
      have HD1 := Lib.hid (fun (z : World) (h : Rd w z t m wr.heap.size a S I) => by have := Rd.del1 h; rw [hdv] at this; exact this)
      have HD2 := Lib.hid (fun (z : World) (S1 : Tx) (h : Rd w z t m wr.heap.size a S1 I) => by have := Rd.del2 HR.out (by omega) h; rw [hdv] at this; exact this)
      clear hdv
      go_upto_block 2 with fail
      go_cut [] (fun z => ∃ S' I', Ref I' S' ∧ I'.length ≤ n + 1 ∧ Rd w z t m wr.heap.size a S' I')
      case first =>
        by_cases hkd : a.kd = 1
        · have d1 : (a.kd == 1) = true := beq_iff_eq.2 hkd
          clear hkd c0 HD1 HD2
          go_upto_region 11 with fail
          have hx := HX.out
          have hy := hx.drew
          go_region_held3 (fun w' => w'.cell? ⟨wr.heap.size, 1, none⟩ = some (.int .i64 a.id.1) ∧ w'.cell? ⟨wr.heap.size, 2, none⟩ = some (.int .i64 a.id.2) ∧ w'.cell? ⟨wr.heap.size, 3, none⟩ = some (.int .i64 a.par.1) ∧ w'.cell? ⟨wr.heap.size, 4, none⟩ = some (.int .i64 a.par.2) ∧ w'.cell? ⟨wr.heap.size, 5, none⟩ = some (.int .i64 a.side) ∧ w'.cell? ⟨wr.heap.size, 6, none⟩ = some (.int .i64 a.ch)) (exact Rd.keep (by with_reducible assumption)) (first | ((with_reducible refine (HI1.out _ (by with_reducible assumption)).mono ?_); rintro e x1 ⟨rfl, S', hs', h1⟩) | ((with_reducible refine (HI2.out _ _ (by with_reducible assumption)).mono ?_); rintro e x2 ⟨rfl, I', hs2, h2⟩))
          all_goals
            have HFIN := Lib.hid (ins_both HR.out hs' hs2)
            have HH2 := Lib.hid h2
            clear hs' hs2 h1 h2 hx hy
            go_wp2
            go_meet
            exact ⟨_, _, HFIN.out.1, by have := HFIN.out.2; omega, HH2.out⟩
        · have d1 : (a.kd == 1) = false := beq_eq_false_iff_ne.2 hkd
          by_cases hkd2 : a.kd = 2
          · have d2 : (a.kd == 2) = true := beq_iff_eq.2 hkd2
            clear hkd hkd2 c0 HI1 HI2
            go_upto_region 14 with fail
            have hx := HX.out
            have hy := hx.drew
            go_region_held3 (fun w' => w'.cell? ⟨wr.heap.size, 1, none⟩ = some (.int .i64 a.id.1) ∧ w'.cell? ⟨wr.heap.size, 2, none⟩ = some (.int .i64 a.id.2)) (exact Rd.keep2 (by with_reducible assumption)) (first | ((with_reducible refine (HD1.out _ (by with_reducible assumption)).mono ?_); rintro e x1 ⟨rfl, h1⟩) | ((with_reducible refine (HD2.out _ _ (by with_reducible assumption)).mono ?_); rintro e x2 ⟨rfl, h2⟩))
            all_goals
              have HFIN := Lib.hid (del_both (x := a.id) HR.out)
              have HH2 := Lib.hid h2
              clear h1 h2 hx hy
              go_wp2
              go_meet
              exact ⟨_, _, HFIN.out.1, by have := HFIN.out.2; omega, HH2.out⟩
          · have d2 : (a.kd == 2) = false := beq_eq_false_iff_ne.2 hkd2
            clear hkd hkd2
            go_wp2
            go_meet
            exact ⟨S, I, HR.out, by omega, HX.out⟩
      case rest =>
        obtain ⟨S', I', hR', hI', hRd⟩ := hcut
        generalize wc = z0 at *
        clear HX HI1 HI2 HD1 HD2 HR HW HBR c0 hI
        obtain ⟨F, G, hF⟩ := hRd
        have H2 := Lib.hid (fun z (hb : Below z0.heap.size z0 z) => hF.two.later hb)
        have HBX := Lib.hid (fun z (hb : Below z0.heap.size z0 z) => (hF.later hb).box)
        have HR := Lib.hid hR'
        obtain ⟨av, hav⟩ := at_el S' a.n
        have hIl : I'.length < 4294967296 := by omega
        have HT1 := Lib.hid (at_text z0 t S' F hF.two.text a.n)
        have HIL := Lib.hid hIl
        rw [hav] at HT1
        have HAV := Lib.hid hav
        have c7 := blk_cell hF.box 7
        clear hF hR' hIl hav
        go_upto_region 17 with (with_reducible refine HT1.out.mono ?_; rintro e z1 ⟨rfl, hb⟩; have HB1 := Lib.hid hb; clear hb)
        refine wp_let (fun y => Below z0.heap.size z0 y ∧ y.heap[z1.heap.size]? = some (.cells #[.int .i64 av.k.1, .int .i64 av.k.2, .int .i64 av.c, .bool av.g] 44 (0, 0))) ⟨HB1.out.alloc HB1.out.size _, blk_new _ _⟩ (fun y1 hy1 => ?_)
        have HY1 := Lib.hid hy1
        have HT2 := Lib.hid (at_ref y1 m I' S' G (H2.out _ hy1.1).ref HR.out HIL.out a.n)
        rw [HAV.out] at HT2
        clear c7
        have c7 := blk_cell (HBX.out _ hy1.1) 7
        clear hy1 HB1 HT1
        go_upto_region 18 with (with_reducible refine HT2.out.mono ?_; rintro e z2 ⟨rfl, hb⟩; have HB2 := Lib.hid hb; clear hb)
        refine wp_let (fun y => Below y1.heap.size y1 y ∧ y.heap[z2.heap.size]? = some (.cells #[.int .i64 av.k.1, .int .i64 av.k.2, .int .i64 av.c, .bool av.g] 44 (0, 0))) ⟨HB2.out.alloc HB2.out.size _, blk_new _ _⟩ (fun y2 hy2 => ?_)
        have HY2 := Lib.hid (show Below z0.heap.size z0 y2 ∧ y2.heap[z1.heap.size]? = some (.cells #[.int .i64 av.k.1, .int .i64 av.k.2, .int .i64 av.c, .bool av.g] 44 (0, 0)) ∧ y2.heap[z2.heap.size]? = some (.cells #[.int .i64 av.k.1, .int .i64 av.k.2, .int .i64 av.c, .bool av.g] 44 (0, 0)) from
          ⟨HY1.out.1.trans (hy2.1.mono HY1.out.1.size), (hy2.1.block _ (heap_lt HY1.out.2)).trans HY1.out.2, hy2.2⟩)
        have HT3 := Lib.hid (index_text y2 t S' F (H2.out _ HY2.out.1).text a.id)
        have HT4 := Lib.hid (fun z hb => index_ref z m I' S' G (H2.out z hb).ref HR.out HIL.out a.id)
        obtain ⟨rv, hrv⟩ : ∃ z, rankV S'.L S'.gone a.id = z := ⟨_, rfl⟩
        obtain ⟨ie, hie⟩ : ∃ z : Int, (if a.id ∈ S'.L then (0 : Int) else 121) = z := ⟨_, rfl⟩
        rw [hrv, hie] at HT3
        simp only [hrv, hie] at HT4
        have b1 := blk_cell (HBX.out _ HY2.out.1) 1
        have b2 := blk_cell (HBX.out _ HY2.out.1) 2
        clear c7 hy2 HB2 HT2 HY1 hrv hie
        go_upto_region 19 with (with_reducible refine HT3.out.mono ?_; rintro e z3 ⟨rfl, hb⟩; have HB3 := Lib.hid (HY2.out.1.trans (hb.mono HY2.out.1.size)); have HX3 := Lib.hid (And.intro ((hb.block _ (heap_lt HY2.out.2.1)).trans HY2.out.2.1) ((hb.block _ (heap_lt HY2.out.2.2)).trans HY2.out.2.2)); clear hb)
        clear b1 b2 HT3
        have b1 := blk_cell (HBX.out _ HB3.out) 1
        have b2 := blk_cell (HBX.out _ HB3.out) 2
        have HT5 := Lib.hid (HT4.out z3 HB3.out)
        clear HT4
        go_upto_region 20 with (with_reducible refine HT5.out.mono ?_; rintro e z4 ⟨rfl, hb⟩; have HB4 := Lib.hid (HB3.out.trans (hb.mono HB3.out.size)); have HX4 := Lib.hid (And.intro ((hb.block _ (heap_lt HX3.out.1)).trans HX3.out.1) ((hb.block _ (heap_lt HX3.out.2)).trans HX3.out.2)); clear hb)
        clear b1 b2 HT5 HX3 HY2
        have c7 := blk_cell (HBX.out _ HB4.out) 7
        obtain ⟨bp, hbp⟩ : ∃ z, betP S' a.n = z := ⟨_, rfl⟩
        obtain ⟨bs, hbs⟩ : ∃ z, betS S' a.n = z := ⟨_, rfl⟩
        obtain ⟨be, hbe⟩ : ∃ z, betE S' a.n = z := ⟨_, rfl⟩
        have HT6 := Lib.hid (between_text z4 t S' F (H2.out _ HB4.out).text a.n)
        have HT7 := Lib.hid (fun z hb => between_ref z m I' S' G (H2.out z hb).ref HR.out HIL.out a.n)
        rw [hbp, hbs, hbe] at HT6
        simp only [hbp, hbs, hbe] at HT7
        clear hbp hbs hbe HB3
        go_upto_region 21 with (with_reducible refine HT6.out.mono ?_; rintro e z5 ⟨rfl, hb⟩; have HB5 := Lib.hid hb; clear hb)
        refine wp_let (fun y => Below z4.heap.size z4 y ∧ y.heap[z5.heap.size]? = some (.cells #[.int .i64 bp.1, .int .i64 bp.2] 30 (0, 0))) ⟨HB5.out.alloc HB5.out.size _, blk_new _ _⟩ (fun y5 hy5 => ?_)
        have HY5 := Lib.hid (And.intro (HB4.out.trans (hy5.1.mono HB4.out.size)) (And.intro ((hy5.1.block _ (heap_lt HX4.out.1)).trans HX4.out.1) (And.intro ((hy5.1.block _ (heap_lt HX4.out.2)).trans HX4.out.2) hy5.2)))
        have HT8 := Lib.hid (HT7.out y5 HY5.out.1)
        clear c7 hy5 HT6 HT7 HB5 HX4
        have c7 := blk_cell (HBX.out _ HY5.out.1) 7
        go_upto_region 22 with (with_reducible refine HT8.out.mono ?_; rintro e z6 ⟨rfl, hb⟩; have HB6 := Lib.hid hb; clear hb)
        refine wp_let (fun y => Below y5.heap.size y5 y ∧ y.heap[z6.heap.size]? = some (.cells #[.int .i64 bp.1, .int .i64 bp.2] 30 (0, 0))) ⟨HB6.out.alloc HB6.out.size _, blk_new _ _⟩ (fun y6 hy6 => ?_)
        have HY6 := Lib.hid (And.intro (HY5.out.1.trans (hy6.1.mono HY5.out.1.size)) (And.intro ((hy6.1.block _ (heap_lt HY5.out.2.1)).trans HY5.out.2.1) (And.intro ((hy6.1.block _ (heap_lt HY5.out.2.2.1)).trans HY5.out.2.2.1) (And.intro ((hy6.1.block _ (heap_lt HY5.out.2.2.2)).trans HY5.out.2.2.2) hy6.2))))
        have HSL := Lib.hid (show S'.L.length < 4294967296 by rw [← HR.out.length]; exact HIL.out)
        have HT9 := Lib.hid (all_ref y6 m I' S' G (H2.out _ HY6.out.1).ref HR.out HIL.out)
        clear c7 hy6 HT8 HB6 HY5 HB4
        go_wp2_with fail
        with_reducible refine HT9.out.mono ?_
        rintro e z7 ⟨v7, rfl, hr7, hb⟩
        obtain ⟨a7, k7, rfl, hat7⟩ := RowEl.formS (S := S') hr7 rfl
        have HB7 := Lib.hid hb
        have HAT7 := Lib.hid hat7
        clear hb hr7 hat7
        have HY7 := Lib.hid (show Below z0.heap.size z0 z7 from HY6.out.1.trans (HB7.out.mono HY6.out.1.size))
        have HTA := Lib.hid (all_text z7 t S' F (H2.out _ HY7.out).text)
        clear HT9
        go_wp2_with fail
        with_reducible refine HTA.out.mono ?_
        rintro e z8 ⟨v8, rfl, hr8, hb⟩
        obtain ⟨a8, k8, rfl, hat8⟩ := RowEl.formS (S := S') hr8 rfl
        have HSM := Lib.hid (same_els z8 a8 a7 k8 k7 S' S' _ _ hat8 (HAT7.out.below hb) rfl rfl HSL.out HSL.out true (decide_eq_true rfl))
        have HB8 := Lib.hid (HB7.out.trans (hb.mono HB7.out.size))
        have HAT8 := Lib.hid (HAT7.out.below hb)
        clear hb hr8 hat8 HTA HAT7 HB7 HY7
        go_upto_region 24 with (with_reducible refine HSM.out.mono ?_; rintro e z9 ⟨rfl, hb⟩; have HB9 := Lib.hid (HB8.out.trans (hb.mono HB8.out.size)); have HAT9 := Lib.hid (HAT8.out.below hb); clear hb)
        clear HSM HAT8 HB8
        have q7 := (HB9.out.block _ (heap_lt HY6.out.2.1)).trans HY6.out.2.1
        have q9 := (HB9.out.block _ (heap_lt HY6.out.2.2.1)).trans HY6.out.2.2.1
        have q15 := (HB9.out.block _ (heap_lt HY6.out.2.2.2.1)).trans HY6.out.2.2.2.1
        have q18 := (HB9.out.block _ (heap_lt HY6.out.2.2.2.2)).trans HY6.out.2.2.2.2
        have HZ9 := Lib.hid (show Below z0.heap.size z0 z9 from HY6.out.1.trans (HB9.out.mono HY6.out.1.size))
        have HLN := Lib.hid (len_text z9 t S' F (H2.out _ HZ9.out).text)
        have hsh := shown_ref z9 a7 k7 S'.els S'.L.length HAT9.out (els_len S') HSL.out
        have HSH := Lib.hid hsh
        have p0 := blk_cell q7 0
        have p1 := blk_cell q7 1
        have p2 := blk_cell q7 2
        have p3 := blk_cell q7 3
        have r0 := blk_cell q9 0
        have r1 := blk_cell q9 1
        have r2 := blk_cell q9 2
        have r3 := blk_cell q9 3
        have s0 := blk_cell q15 0
        have s1 := blk_cell q15 1
        have t0 := blk_cell q18 0
        have t1 := blk_cell q18 1
        have hgE := run_elGuardN
        have hgS := run_stGuardN
        have heE : ∀ w, (Op.equalIn 10000 44 (.agg #[.int .i64 av.k.1, .int .i64 av.k.2, .int .i64 av.c, .bool av.g]) (.agg #[.int .i64 av.k.1, .int .i64 av.k.2, .int .i64 av.c, .bool av.g])).run Try.prog w = .ok true w := fun w => (eqEl_run av av w).trans (by simp)
        have heS := fun w => st_eq (a := bp) (b := bp) (decide_eq_true rfl) w
        clear q7 q9 q15 q18 hsh HY6 HAT9 HB9
        go_wp2_with (with_reducible refine HLN.out.mono ?_; rintro e z' ⟨rfl, rfl⟩)
        with_reducible refine HSH.out.mono ?_
        rintro e za ⟨va, rfl, hra, hb⟩
        obtain ⟨aa, ka, rfl, -⟩ := hra.form
        rw [shownE_els]
        have HZA := Lib.hid (HZ9.out.trans (hb.mono HZ9.out.size))
        clear hra hb
        go_wp2
        go_roundw
        case rel => exact ⟨n + 1, S', I', by go_num, by omega, by omega, hI', HR.out, ⟨F, G, H2.out _ HZA.out⟩⟩
        case measure => simp [intOf]; omega
    · have hlt : (n < A.length ∧ ¬ n < 80) ∨ ¬ n < A.length := by omega
      rcases hlt with ⟨h1, h2⟩ | h1
      all_goals
        go_wp2
        go_ret
        exact ⟨rfl, HBR.out⟩

set_option maxRecDepth 100000 in
theorem fuguePlays_lifted (os : Os) (started : os.Started) (H : Type) (enc : TypeId × Value → H) :
    ReturnsInHanded {} Try.checked os 7 .any (Rows.fuguePlaysSpec.pre6 enc Try.prog Try.f7 Rows.fuguePlaysRow.domain false) (Rows.fuguePlaysSpec.post enc Try.prog Try.f7 false true false false) := by
  refine returnsInHanded_of_change (C := Try.checked) own started (by kernel_rfl) Try.func7
    (ChangeSpec.witness6 (enc := enc) (C := Try.checked) false ⟨#[], #[.slice none 0 0], []⟩ 8 (by kernel_rfl) (by kernel_rfl) (by kernel_rfl) (by kernel_rfl)) ?_
  intro W base args ds gs before hval0 hW hcnd _
  have hval : ∀ (j : Nat) t v, Try.f7.params[j]? = some t → args[j]? = some v → Value.okWide Try.prog W .any base t v := hval0
  have hW' := hW
  obtain ⟨p, q, hA0, hV, rfl, hfz, hnd⟩ := hW
  have hA : DataW.TrodAll enc Try.prog W 0 (fun _ => true) true Try.f7.params.toList args.toList ds p := hA0
  rw [Try.params7] at hA hval
  obtain ⟨v0, vs0, d0, ds0, p0, q0, hargs, rfl, rfl, h0, r0⟩ := trodAll_cons hA
  obtain ⟨rfl, rfl, rfl⟩ := trodAll_nil r0
  obtain rfl : args = #[v0] := by cases args; simp_all
  obtain ⟨rfl, rfl⟩ := trodVars_none hV
  have lt0 : ∀ x ∈ p0, x.block < W.heap.size := by obtain ⟨m, hm⟩ := h0; exact DataW.trod_lt m _ _ _ hm
  obtain ⟨ao, cap, A, rfl, hlen, hacts⟩ := open_acts (hval 0 22 v0 rfl rfl) h0
  clear hA0 hval0
  refine (fuguePlays_walk ao cap A W hlen hacts).mono fun e W' ⟨he, bel⟩ => ?_
  subst he
  exact ⟨_, rfl, _, _, _, [], _, [], hW', trodAll_mk1 (shut_bool Try.underlying4 _), (trodAll_cons_mk (Below.trod laidOut (by kernel_rfl) (of_decide_eq_true (by kernel_rfl)) h0 bel lt0) trodAll_mk0), rfl, bel.frame _, fun h => by cases h⟩

theorem fuguePlays_holds : Rows.FuguePlaysSaid :=
  OpenClaim.holds_of_wide 7 Try.f7 rfl rfl rfl rfl rfl rfl rfl ⟨rfl, rfl, rfl, rfl, rfl⟩ rfl rfl rfl rfl rfl (by kernel_rfl) Try.func7 (by kernel_rfl)
    (of_decide_eq_true (by kernel_rfl)) (by unfold Func.isWrapper; first | (rw [if_pos (by decide +kernel)]; kernel_rfl) | (rw [if_neg (by decide +kernel)]; exact ⟨rfl, rfl⟩))
    (fun os started H enc _ => fuguePlays_lifted os started H enc)

end Go.Proofs.Ytohpablkgfkelaa
