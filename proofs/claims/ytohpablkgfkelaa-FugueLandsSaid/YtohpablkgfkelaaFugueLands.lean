/- THE LAW FugueLands. -/
import Derived.Test.YtohpablkgfkelaaFEls
import Derived.Test.YtohpablkgfkelaaRows
import Derived.ProofKit
import Derived.OpenShut
import Derived.ShutString
import Derived.ChangeOld
import Derived.Below
namespace Go.Proofs.Ytohpablkgfkelaa
open Go.ChangeShapes Go.WideShapes Go.ChangeAt Go.RowKit
open Go.ChangeMaps (open_string shut_string)
set_option linter.unusedVariables false
set_option linter.unusedSimpArgs false

open Go.Joins
/-- the prefix of what is kept -/
theorem filter_next {l : List El} {q : Nat} {y : El} (h : l[q]? = some y) (x : St) : (l.take (q + 1)).filter (fun z => decide (z.k ≠ x)) = (l.take q).filter (fun z => decide (z.k ≠ x)) ++ (if y.k = x then [] else [y]) := by
  rw [List.take_add_one, h, Option.toList_some, List.filter_append]
  congr 1
  by_cases e : y.k = x <;> simp [e]
theorem filter_len (l : List El) (q : Nat) (x : St) : ((l.take q).filter (fun z => decide (z.k ≠ x))).length ≤ q := by
  refine Nat.le_trans (List.length_filter_le _ _) ?_
  simp
  omega
set_option maxHeartbeats 16000000 in
set_option maxRecDepth 20000 in
theorem fugueLands_walk (ao : Option Addr) (cap : Nat) (A : List ActG) (n : Int) (k : St) (w : World) (hlen : A.length ≤ maxLen) (hA : ActsAt w ao A) :
    Calls Try.prog 8 #[.slice ao A.length cap, .int .i64 n, encS k] w fun e w' => e = .returned (.bool true) ∧ Below w.heap.size w w' := by
  obtain ⟨i0, hi, hz0, hz1, hz2⟩ := info_parts infoEl
  have HW0 := Lib.hid (fun (x : World) (hx : KB w k w.heap.size x) => written_any x ao cap A hlen (hA.below hx.b))
  clear hA hlen
  go_enter Try.func8, Try.ntmps8
  go_upto_region 1 with fail
  refine wp_let (KB w k w.heap.size) (KB.new w k) (fun x hx => ?_)
  have HX := Lib.hid hx
  have HW := Lib.hid (HW0.out x hx)
  have hws := heap_lt hx.bx
  clear hx HW0
  go_wp2_with fail
  with_reducible refine HW.out.mono ?_
  rintro e w1 ⟨t, S, v, l, rfl, hWr, hC, hl80⟩
  have HWr := Lib.hid hWr
  have HC := Lib.hid hC
  have HAL := Lib.hid (alive_any w1)
  obtain ⟨cs, T, htp⟩ := hWr.text.blk
  clear hWr hC HW
  go_wp2_with fail
  with_reducible refine HAL.out.mono ?_
  rintro e w2 ⟨rfl, hb2⟩
  have HT2 := Lib.hid ((HWr.out.text.later hb2).bnd)
  have HX2 := Lib.hid (HX.out.later (HWr.out.b.trans (hb2.mono HWr.out.b.size)))
  have hok := HT2.out.ok
  have HOK := Lib.hid hok
  have hLl := HC.out.length
  have HA2 := Lib.hid (all_text w2 t S _ HT2.out)
  have hsz2 : x.heap.size ≤ w2.heap.size := Nat.le_trans HWr.out.b.size hb2.size
  have HSZ2 := Lib.hid hsz2
  have HBX2 := Lib.hid (HWr.out.b.trans (hb2.mono HWr.out.b.size))
  clear hb2 HAL htp hok hsz2
  go_wp2_with fail
  with_reducible refine HA2.out.mono ?_
  rintro e w3 ⟨v7, rfl, hrow, hb3⟩
  have HROW := Lib.hid hrow
  obtain ⟨a7, c7, rfl, -⟩ := hrow.formS rfl
  have HT3 := Lib.hid (HT2.out.later hb3)
  have HX3 := Lib.hid (HX2.out.later hb3)
  have HBX3 := Lib.hid (HBX2.out.trans (hb3.mono HSZ2.out))
  have HSZ3 := Lib.hid hb3.size
  have HBT := Lib.hid (between_text w3 t S _ HT3.out n)
  clear hrow hb3 HA2
  go_upto_region 6 with (with_reducible refine HBT.out.mono ?_; rintro e w4 ⟨rfl, hb⟩; have HB4 := Lib.hid hb; clear hb)
  refine wp_let (fun z => Below w3.heap.size w3 z ∧ z.heap[w4.heap.size]? = some (.cells #[.int .i64 (betP S n).1, .int .i64 (betP S n).2] 30 (0, 0))) ⟨HB4.out.alloc HB4.out.size _, blk_new _ _⟩ (fun y hy => ?_)
  have hsz4 := HB4.out.size
  have HY := Lib.hid hy
  have HTy := Lib.hid (HT3.out.later hy.1)
  have HXy := Lib.hid (HX3.out.later hy.1)
  have HROWy := Lib.hid (HROW.out.later hy.1)
  have HBXy := Lib.hid (HBX3.out.trans (hy.1.mono HBX3.out.size))
  have HLy := Lib.hid (len_text y t S _ HTy.out)
  clear hy HBT
  by_cases ho : betOut S n
  · have hs : betS S n = 0 := by unfold betS; rw [if_pos ho]
    have he : betE S n = 123 := by unfold betE; rw [if_pos ho]
    rw [hs, he]
    clear hs he
    by_cases h0 : n < 0
    · clear ho
      go_wp2
      go_ret
      exact ⟨rfl, HX.out.b.trans (HBXy.out.mono HX.out.b.size)⟩
    · have h1 : (cnt S.gone S.L : Int) < n := ho.resolve_left h0
      have d0 : decide (n < 0) = false := decide_eq_false h0
      have d1 : decide ((cnt S.gone S.L : Int) < n) = true := decide_eq_true h1
      clear ho h0 h1
      go_wp2_with (with_reducible refine HLy.out.mono ?_; rintro e w' ⟨rfl, rfl⟩)
      go_ret
      exact ⟨rfl, HX.out.b.trans (HBXy.out.mono HX.out.b.size)⟩
  · have he : betE S n = 0 := by unfold betE; rw [if_neg ho]
    rw [he]
    clear he
    obtain ⟨h0, h1⟩ := not_or.1 ho
    obtain ⟨hps, hput⟩ := bet_in HOK.out ho
    have HN0 := Lib.hid (show 0 ≤ n by omega)
    have HPS := Lib.hid hps
    have HPUT := Lib.hid hput
    have d0 : decide (n < 0) = false := decide_eq_false h0
    have d1 : decide ((cnt S.gone S.L : Int) < n) = false := decide_eq_false h1
    generalize betP S n = p at *
    generalize betS S n = s at *
    have x0 := HXy.out.c0
    have x1 := HXy.out.c1
    have p0 := blk_cell HY.out.2 0
    have p1 := blk_cell HY.out.2 1
    have HI := Lib.hid (insert_text y t S _ HTy.out (by omega) k p s 97)
    clear ho h0 h1 hps hput
    go_wp2_with (with_reducible refine HLy.out.mono ?_; rintro e w' ⟨rfl, rfl⟩)
    with_reducible refine HI.out.mono ?_
    rintro e w5 ⟨rfl, S', hS, hT5, hc5⟩
    have HROW5 := Lib.hid (HROWy.out.ch hc5 (fun y hy => hy.2))
    have HBX5 := Lib.hid (Ch.deep HBXy.out hc5 (fun y hy => hy.1.1))
    have HX5 := Lib.hid (hc5.at HXy.out.bx (fun e => by have := e.1.1; omega))
    clear x0 x1 p0 p1
    by_cases hd : InsOk S k p s
    · have hE : S.insE k p s = 0 := insE_zero.2 hd
      rw [hE]
      clear hE
      rcases hS with ⟨hno, _⟩ | ⟨_, A', B', hP, hS'⟩
      · exact absurd hd hno
      have hf := ins_found HOK.out (p := p) (s := s) (c := 97) (i := posS (S.K p s) k) hd.2.1 hP.eq
      rw [← hS', HPUT.out k A' B' hP] at hf
      obtain ⟨f1, f2, f3, f4⟩ := hf
      have hkm : k ∈ S'.L := by rw [hS']; show k ∈ A' ++ k :: B'; simp
      have hlen' : S'.L.length = S.L.length + 1 := by rw [hS', hP.eq]; show (A' ++ k :: B').length = _; simp; omega
      clear hd hP hS' HPUT HPS HI
      have hat := at_text w5 t S' _ hT5 n
      unfold atTV atTE at hat
      rw [if_pos ⟨HN0.out, f2⟩, if_pos ⟨HN0.out, f2⟩, f1] at hat
      have hix := fun (z : World) (hb : Below w5.heap.size w5 z) => index_text z t S' _ (hT5.later hb) k
      rw [f3] at hix
      simp only [if_pos hkm] at hix
      have HAT := Lib.hid hat
      have HIX := Lib.hid hix
      have HT5 := Lib.hid hT5
      have F4 := Lib.hid f4
      have HXC := Lib.hid (show Below w5.heap.size w5 w5 from Below.refl _ _)
      clear hat hix hT5 hc5 f1 f2 f3 f4 hkm
      go_upto_region 14 with (with_reducible refine HAT.out.mono ?_; rintro e w6 ⟨rfl, hb⟩; have HB6 := Lib.hid hb; clear hb)
      refine wp_let (fun z => Below w5.heap.size w5 z ∧ z.heap[w6.heap.size]? = some (.cells #[.int .i64 k.1, .int .i64 k.2, .int .i64 (S'.ch k), .bool (S'.gone k)] 44 (0, 0))) ⟨HB6.out.alloc HB6.out.size _, blk_new _ _⟩ (fun z hz => ?_)
      have HZ := Lib.hid hz
      have hxz := (hz.1.block _ (heap_lt HX5.out)).trans HX5.out
      have x0 := blk_cell hxz 0
      have x1 := blk_cell hxz 1
      have HIZ := Lib.hid (HIX.out z hz.1)
      clear hz hxz HAT
      go_wp2_with fail
      with_reducible refine HIZ.out.mono ?_
      rintro e z2 ⟨rfl, hb⟩
      have hz2 : Below w5.heap.size w5 z2 := HZ.out.1.trans (hb.mono HZ.out.1.size)
      have HEB := Lib.hid ((hb.block _ (heap_lt HZ.out.2)).trans HZ.out.2)
      have HZ2 := Lib.hid hz2
      have HAZ := Lib.hid (all_text z2 t S' _ (HT5.out.later hz2))
      clear x0 x1 hb hz2
      go_wp2_with fail
      with_reducible refine HAZ.out.mono ?_
      rintro e z3 ⟨v3, rfl, hrow3, hb3⟩
      obtain ⟨a3, c3, rfl, hels3⟩ := hrow3.formS (n := S'.L.length) rfl
      have HE3 := Lib.hid hels3
      have HZ3 := Lib.hid (HZ2.out.trans (hb3.mono HZ2.out.size))
      have HEB3 := Lib.hid ((hb3.block _ (heap_lt HEB.out)).trans HEB.out)
      have HX3 := Lib.hid ((HZ3.out.block _ (heap_lt HX5.out)).trans HX5.out)
      have HBF := Lib.hid (HBX5.out.trans (HZ3.out.mono HBX5.out.size))
      have HW9 := Lib.hid (HROW5.out.later HZ3.out)
      clear hrow3 hels3 hb3 HAZ
      go_wp2
      have hgs := run_stGuardN
      go_loopw [18, 20] (fun v i wr => ∃ q : Nat, i = .int .i64 q ∧ q ≤ S'.L.length ∧ Aside (RowEl wr z3.heap.size v ((S'.els.take q).filter (fun y => decide (y.k ≠ k)))) ∧ Aside (Below z3.heap.size z3 wr)) (fun _ i _ => S'.L.length - (intOf i).toNat)
      case atStart => exact ⟨0, rfl, Nat.zero_le _, World.ownsRow_nil _ _ _ _, Below.refl _ _⟩
      case round =>
        obtain ⟨q, rfl, hq, AR, AB⟩ := hrel
        by_cases hql : q < S'.L.length
        · obtain ⟨y2, hy2⟩ : ∃ y2, S'.els[q]? = some y2 := ⟨_, List.getElem?_eq_getElem (by rw [els_len]; exact hql)⟩
          obtain ⟨B1, rfl, -, c1⟩ := (HE3.out.below AB.out).below ((Below.refl _ _).drew) q y2 hy2
          have d0 := c1 0 _ rfl
          have d1 := c1 1 _ rfl
          have d2 := c1 2 _ rfl
          have d3 := c1 3 _ rfl
          simp only [Nat.add_zero] at d0
          have hxr := (AB.out.drew.block _ (heap_lt HX3.out)).trans HX3.out
          have k0 := blk_cell hxr 0
          have k1 := blk_cell hxr 1
          have HFN := Lib.hid (filter_next hy2 k)
          have HFL := Lib.hid (filter_len S'.els q k)
          have b0 : (0 : Int) ≤ (q : Int) := by omega
          have b1 : (q : Int) < (S'.L.length : Int) := by omega
          clear c1 hy2 hxr
          by_cases hyk : y2.k = k
          · have heq := fun w => st_eq (a := y2.k) (b := k) (decide_eq_true hyk) w
            have HYK := Lib.hid hyk
            clear hyk
            go_wp2
            go_region
            go_wp2
            go_roundw
            case rel => exact ⟨q + 1, by go_num, by omega, by
              have := own_ch AR.out (Ch.of_below (F := fun _ => False) ((Below.refl _ _).drew)) (fun _ _ h => h)
              rw [HFN.out, if_pos HYK.out, List.append_nil]
              exact this, AB.out.drew⟩
            case measure => simp [intOf]; omega
          · have heq := fun w => st_eq (a := y2.k) (b := k) (decide_eq_false hyk) w
            have HYK := Lib.hid hyk
            have hro := own_ch AR.out (Ch.of_below (F := fun _ => False) (((Below.refl _ _).alloc (Nat.le_refl _) (.cells #[.int .i64 y2.k.1, .int .i64 y2.k.2, .int .i64 y2.c, .bool y2.g] 44)).drew)) (fun _ _ h => h)
            have hwz := (AB.out.alloc AB.out.size (.cells #[.int .i64 y2.k.1, .int .i64 y2.k.2, .int .i64 y2.c, .bool y2.g] 44)).drew
            have HWZ := Lib.hid hwz
            have HRO := Lib.hid hro
            clear hyk hro hwz
            go_wp2
            go_region
            go_wp2_with (at_builtin; refine wpList_append_own _ rfl (.tmp 103) (.tmp 108) 38 rfl z3.heap.size 44 i0 (.agg #[.int .i64 0, .int .i64 0, .int .i64 0, .bool false]) 4 32 Try.underlying38 hi hz0 hz1 hz2 rfl (by decide) u18 _ _ rfl HRO.out ⟨wr.heap.size, 0, none⟩ 1 1 (elC y2) rfl rfl (fun j u hj => by
                            rw [Addr.add_lit, Nat.zero_add, blk_cell (blk_drew (blk_new _ _)), ← Array.getElem?_toList]
                            exact hj) (elC_one _) (by have := HFL.out; unfold maxLen; omega) (by have := HFL.out; omega) HWZ.out.size ?_; intro v1 w2' hown1 hgrow1 _)
            go_roundw
            case rel => exact ⟨q + 1, by go_num, by omega, by
              unfold Aside RowEl
              rw [HFN.out, if_neg HYK.out, elL_append, List.length_append]
              have e : elL [y2] = elC y2 := by simp [elL]
              rw [e]
              exact hown1, HWZ.out.grown hgrow1 HWZ.out.size (fun u hu => (HRO.out.lt u hu).1)⟩
            case measure => simp [intOf]; omega
        · obtain rfl : q = S'.L.length := by omega
          have hrow := AR.out
          rw [show S'.L.length = S'.els.length from (els_len S').symm, List.take_length, F4.out] at hrow
          obtain ⟨a9, c9, rfl, hels9⟩ := hrow.formS (n := S.L.length) rfl
          have hebr := (AB.out.block _ (heap_lt HEB3.out)).trans HEB3.out
          have hxr := (AB.out.block _ (heap_lt HX3.out)).trans HX3.out
          have k0 := blk_cell hxr 0
          have k1 := blk_cell hxr 1
          have l0 := blk_cell hebr 0
          have l1 := blk_cell hebr 1
          have heq := fun w => st_eq (a := k) (b := k) (decide_eq_true rfl) w
          have hgs2 := run_stGuard
          have HSM := Lib.hid (same_els wr a9 a7 c9 c7 S S _ _ hels9 ((HW9.out.later AB.out).at) rfl rfl (by omega) (by omega) true (decide_eq_true rfl))
          clear hrow hels9 hebr hxr
          go_wp2_with (with_reducible refine HSM.out.mono ?_; rintro e w' ⟨rfl, hb⟩; have HB9 := Lib.hid hb; clear hb)
          go_ret
          exact ⟨rfl, HX.out.b.trans (((HBF.out.trans (AB.out.mono HBF.out.size)).trans (HB9.out.mono (Nat.le_trans HBF.out.size AB.out.size))).mono HX.out.b.size)⟩
    · have hS' : S' = S := stp_no hS hd
      have hE : S.insE k p s = 122 ∨ S.insE k p s = 1 := by
        unfold Tx.insE
        by_cases h1 : ArgOk k p s
        · by_cases h2 : k ∈ S.L
          · left; simp [h1, h2]
          · exfalso
            refine hd ⟨h1, h2, ?_⟩
            rcases HPS.out with ⟨e, _⟩ | ⟨e, _⟩
            · exact .inl e
            · exact .inr e
        · right; simp [h1]
      subst hS'
      have HT5 := Lib.hid hT5
      have HA5 := Lib.hid (all_text w5 t S' _ hT5)
      clear hd hS hT5 hc5 HI
      rcases hE with hE | hE <;> rw [hE] <;> clear hE
      all_goals
        go_wp2_with fail
        with_reducible refine HA5.out.mono ?_
        rintro e w6 ⟨v6, rfl, hrow6, hb6⟩
        obtain ⟨a6, c6, rfl, hels6⟩ := hrow6.formS rfl
        have HSM := Lib.hid (same_els w6 a6 a7 c6 c7 S' S' _ _ hels6 ((HROW5.out.later hb6).at) rfl rfl (by omega) (by omega) true (decide_eq_true rfl))
        have HBX6 := Lib.hid (HBX5.out.trans (hb6.mono HBX5.out.size))
        clear hrow6 hels6 hb6 HA5
        go_wp2_with (with_reducible refine HSM.out.mono ?_; rintro e w' ⟨rfl, hb⟩; have HB7 := Lib.hid hb; clear hb)
        go_ret
        exact ⟨rfl, HX.out.b.trans ((HBX6.out.trans (HB7.out.mono HBX6.out.size)).mono HX.out.b.size)⟩

set_option maxRecDepth 100000 in
theorem fugueLands_lifted (os : Os) (started : os.Started) (H : Type) (enc : TypeId × Value → H) :
    ReturnsInHanded {} Try.checked os 8 .any (Rows.fugueLandsSpec.pre6 enc Try.prog Try.f8 Rows.fugueLandsRow.domain false) (Rows.fugueLandsSpec.post enc Try.prog Try.f8 false true false false) := by
  refine returnsInHanded_of_change (C := Try.checked) own started (by kernel_rfl) Try.func8
    (ChangeSpec.witness6 (enc := enc) (C := Try.checked) false ⟨#[], #[.slice none 0 0, .int .i64 0, .agg #[.int .i64 0, .int .i64 0]], []⟩ 8 (by kernel_rfl) (by kernel_rfl) (by kernel_rfl) (by kernel_rfl)) ?_
  intro W base args ds gs before hval0 hW hcnd _
  have hval : ∀ (j : Nat) t v, Try.f8.params[j]? = some t → args[j]? = some v → Value.okWide Try.prog W .any base t v := hval0
  have hW' := hW
  obtain ⟨p, q, hA0, hV, rfl, hfz, hnd⟩ := hW
  have hA : DataW.TrodAll enc Try.prog W 0 (fun _ => true) true Try.f8.params.toList args.toList ds p := hA0
  rw [Try.params8] at hA hval
  obtain ⟨v0, vs0, d0, ds0, p0, q0, hargs, rfl, rfl, h0, r0⟩ := trodAll_cons hA
  obtain ⟨v1, vs1, d1, ds1, p1, q1, rfl, rfl, rfl, h1, r1⟩ := trodAll_cons r0
  obtain ⟨v2, vs2, d2, ds2, p2, q2, rfl, rfl, rfl, h2, r2⟩ := trodAll_cons r1
  obtain ⟨rfl, rfl, rfl⟩ := trodAll_nil r2
  obtain rfl : args = #[v0, v1, v2] := by cases args; simp_all
  obtain ⟨rfl, rfl⟩ := trodVars_none hV
  have lt0 : ∀ x ∈ p0, x.block < W.heap.size := by obtain ⟨m, hm⟩ := h0; exact DataW.trod_lt m _ _ _ hm
  have lt1 : ∀ x ∈ p1, x.block < W.heap.size := by obtain ⟨m, hm⟩ := h1; exact DataW.trod_lt m _ _ _ hm
  have lt2 : ∀ x ∈ p2, x.block < W.heap.size := by obtain ⟨m, hm⟩ := h2; exact DataW.trod_lt m _ _ _ hm
  obtain ⟨ao, cap, A, rfl, hlen, hacts⟩ := open_acts (hval 0 22 v0 rfl rfl) h0
  obtain ⟨n, rfl, rfl, rfl, _⟩ := open_int Try.underlying3 (hval 1 3 v1 rfl rfl) h1
  obtain ⟨kn, kr, rfl, -, -⟩ := open_st (hval 2 30 v2 rfl rfl)
  clear hA0 hval0
  refine (fugueLands_walk ao cap A n (kn, kr) W hlen hacts).mono fun e W' ⟨he, bel⟩ => ?_
  subst he
  exact ⟨_, rfl, _, _, _, [], _, [], hW', trodAll_mk1 (shut_bool Try.underlying4 _), (trodAll_cons_mk (Below.trod laidOut (by kernel_rfl) (of_decide_eq_true (by kernel_rfl)) h0 bel lt0) (trodAll_cons_mk (Below.trod laidOut (by kernel_rfl) (of_decide_eq_true (by kernel_rfl)) h1 bel lt1) (trodAll_cons_mk (Below.trod laidOut (by kernel_rfl) (of_decide_eq_true (by kernel_rfl)) h2 bel lt2) trodAll_mk0))), rfl, bel.frame _, fun h => by cases h⟩

theorem fugueLands_holds : Rows.FugueLandsSaid :=
  OpenClaim.holds_of_wide 8 Try.f8 rfl rfl rfl rfl rfl rfl rfl ⟨rfl, rfl, rfl, rfl, rfl⟩ rfl rfl rfl rfl rfl (by kernel_rfl) Try.func8 (by kernel_rfl)
    (of_decide_eq_true (by kernel_rfl)) (by unfold Func.isWrapper; first | (rw [if_pos (by decide +kernel)]; kernel_rfl) | (rw [if_neg (by decide +kernel)]; exact ⟨rfl, rfl⟩))
    (fun os started H enc _ => fugueLands_lifted os started H enc)

end Go.Proofs.Ytohpablkgfkelaa
