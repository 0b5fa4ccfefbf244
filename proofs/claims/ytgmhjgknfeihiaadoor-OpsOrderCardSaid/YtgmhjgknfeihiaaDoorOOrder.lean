/- ORDER IS OF STAMPS ALONE: the walk. -/
import Derived.Test.YtgmhjgknfeihiaaDoorOOrderP
import Derived.Test.YtgmhjgknfeihiaaDoorOSame
import Derived.Test.YtgmhjgknfeihiaaDoorORefCmp
import Derived.Deep.RegionHeld3
namespace Go.Proofs.YtgmhjgknfeihiaaDoor
open Go.RowKit Go.Joins
set_option linter.unusedSimpArgs false
set_option linter.unusedVariables false
theorem run_vGuardN (xs ys : Array Value) (x y : Operand) (w : World) : (eqGuard .neq 25 x y (.agg xs) (.agg ys)).run Tryd.prog w = .ok () w := by kernel_rfl
theorem cmpS_gt (n r m q : Int) : 0 < cmpS n r m q ↔ m < n ∨ (m = n ∧ q < r) := by
  unfold cmpS cmpI
  repeat' split
  all_goals omega
theorem take_len {L : List OpG} {f : Nat} (h : f ≤ L.length) : (L.take f).length = f := by simp; omega
set_option maxHeartbeats 8000000 in
set_option maxRecDepth 100000 in
theorem order_walk (w : World) (ao : Option Addr) (cap : Nat) (L : List OpG) (z : Int) (hA : OpsAt w ao L) (hf : ∀ o ∈ L, o.fine) (h0 : ao = none → cap = 0) (hlc : L.length ≤ cap) (hcap : cap ≤ maxLen) (hz1 : -9223372036854775808 ≤ z) (hz2 : z ≤ 9223372036854775807) :
    Calls Tryd.prog 7 #[.slice ao L.length cap, .int .i64 z] w fun e w' => e = .returned (.bool true) ∧ Below w.heap.size w w' := by
  have AL := Lib.hid alive_any
  by_cases h60 : 60 < L.length
  · as_aux_lemma =>
    have d60 : decide ((60 : Int) < (L.length : Int)) = true := decide_eq_true (by omega)
    clear hA hf
    go_enter Tryd.func7, Tryd.ntmps7
    go_wp2_with fail
    with_reducible refine (AL.out _).mono ?_
    rintro e w2 ⟨rfl, h2⟩
    go_wp2
    go_ret
    exact ⟨rfl, h2⟩
  have d60 : decide ((60 : Int) < (L.length : Int)) = false := decide_eq_false (by omega)
  by_cases hL0 : L.length = 0
  · as_aux_lemma =>
    have d0 : ((L.length : Int) == 0) = true := by simp [hL0]
    clear hA hf
    go_enter Tryd.func7, Tryd.ntmps7
    go_wp2_with fail
    with_reducible refine (AL.out _).mono ?_
    rintro e w2 ⟨rfl, h2⟩
    go_wp2
    go_ret
    exact ⟨rfl, h2⟩
  have d0 : ((L.length : Int) == 0) = false := by simp; intro e; exact hL0 (by simp [e])
  have hpos : 0 < L.length := by omega
  obtain ⟨hflt, hfeq⟩ := fromP_lt z hpos
  obtain ⟨b, off, rfl⟩ : ∃ b off, ao = some ⟨b, off, none⟩ := by
    obtain ⟨b, off, e, _⟩ := hA 0 _ (List.getElem?_eq_getElem hpos)
    exact ⟨b, off, e⟩
  have HA := Lib.hid hA
  have HF := Lib.hid hf
  clear hA hf
  go_enter Tryd.func7, Tryd.ntmps7
  go_upto_if 21 with fail
  go_cut [1] (fun c y => c = .int .i64 (if z < 0 then -(z + 1) else z) ∧ y = w)
  case first =>
    by_cases hz : z < 0
    · have dz : decide (z < 0) = true := decide_eq_true hz
      have e : (if z < 0 then -(z + 1) else z) = -(z + 1) := if_pos hz
      have HE := Lib.hid e
      clear e hfeq
      go_wp2_with fail
      go_meet
      exact ⟨congrArg (Value.int .i64) HE.out.symm, rfl⟩
    · have dz : decide (z < 0) = false := decide_eq_false hz
      have e : (if z < 0 then -(z + 1) else z) = z := if_neg hz
      have HE := Lib.hid e
      clear e hfeq
      go_wp2_with fail
      go_meet
      exact ⟨congrArg (Value.int .i64) HE.out.symm, rfl⟩
  case rest =>
    obtain ⟨rfl, rfl⟩ := hcut
    generalize (if z < 0 then -(z + 1) else z) = y at *
    generalize hff : fromP z L.length = f at *
    clear hff
    go_upto_region 6 with fail
    have f0 : (0 : Int) ≤ (f : Int) := by omega
    have f1 : (f : Int) ≤ (L.length : Int) := by omega
    have f2 : (f : Int) ≤ (cap : Int) := by omega
    have f3 : f ≤ L.length := by omega
    have f4 : f ≤ cap := by omega
    have f5 : ¬ cap = f := by omega
    have HCP := Lib.hid hlc
    go_region_held3 (fun y => Below wc.heap.size wc y) ((repeat' (first | with_reducible exact Below.refl _ _ | with_reducible assumption | with_reducible refine below_ext ?_ ?_ | with_reducible refine Below.alloc ?_ ?_ _ | with_reducible refine Below.drew ?_ | with_reducible refine below_drewN ?_ _ | with_reducible refine Below.setCell ?_ ?_ _ | go_size))) (first | (refine step_appO rfl (.tmp 29) (.tmp 32) rfl wc.heap.size _ [] (L.drop f) rfl (own_emptyW wc.drew) (some ⟨b, off + f * 26, none⟩) (cap - f) (by rw [List.length_drop]; rfl) (fun h => by cases h) ((HA.out.below (by (repeat' (first | with_reducible exact Below.refl _ _ | with_reducible assumption | with_reducible refine below_ext ?_ ?_ | with_reducible refine Below.alloc ?_ ?_ _ | with_reducible refine Below.drew ?_ | with_reducible refine below_drewN ?_ _ | with_reducible refine Below.setCell ?_ ?_ _ | go_size)))).drop f) (by simp; omega) (by go_size) ?_; intro v1 y1 hown hgrow; have hb1 : Below wc.heap.size wc y1 := Below.grown (by (repeat' (first | with_reducible exact Below.refl _ _ | with_reducible assumption | with_reducible refine below_ext ?_ ?_ | with_reducible refine Below.alloc ?_ ?_ _ | with_reducible refine Below.drew ?_ | with_reducible refine below_drewN ?_ _ | with_reducible refine Below.setCell ?_ ?_ _ | go_size))) hgrow (by go_size) (fun k hk => by cases hk; go_size); have hs1 := hb1.size; have HO1 := Lib.hid hown; clear hown hgrow) | (refine step_appO rfl (.tmp 33) (.tmp 36) rfl wc.heap.size _ (L.drop f) (L.take f) rfl HO1.out (some ⟨b, off, none⟩) cap (by rw [take_len f3]; rfl) (fun h => by cases h) ((HA.out.below (by (repeat' (first | with_reducible exact Below.refl _ _ | with_reducible assumption | with_reducible refine below_ext ?_ ?_ | with_reducible refine Below.alloc ?_ ?_ _ | with_reducible refine Below.drew ?_ | with_reducible refine below_drewN ?_ _ | with_reducible refine Below.setCell ?_ ?_ _ | go_size)))).take f) (by simp; omega) (by go_size) ?_; intro v2 y2 hown hgrow; have hb2 : Below wc.heap.size wc y2 := Below.grown (by (repeat' (first | with_reducible exact Below.refl _ _ | with_reducible assumption | with_reducible refine below_ext ?_ ?_ | with_reducible refine Below.alloc ?_ ?_ _ | with_reducible refine Below.drew ?_ | with_reducible refine below_drewN ?_ _ | with_reducible refine Below.setCell ?_ ?_ _ | go_size))) hgrow (by go_size) (fun k hk => HO1.out.up hk); have hs2 := hb2.size; have HO2 := Lib.hid hown; clear hown hgrow))
    obtain ⟨aT, cT, rfl, -, hatT⟩ := HO2.out.at'
    have HTA := Lib.hid hatT
    have HTP := Lib.hid (turned_perm L f)
    have htl : (L.drop f ++ L.take f).length = L.length := (turned_perm L f).length_eq
    have HTL := Lib.hid htl
    have ht60 : (L.drop f ++ L.take f).length < 4294967296 := by omega
    clear htl
    have HB2 := Lib.hid hb2
    clear hatT f0 f1 f2 f3 f4 f5 hb1 hb2 hs1 hs2 hfeq HO1 HO2 hflt
    generalize L.drop f ++ L.take f = T at *
    have HS := Lib.hid (sort_any y2 (some ⟨b, off, none⟩) cap L (HA.out.below HB2.out) (by omega) (fun h => by cases h))
    go_wp2_with fail
    with_reducible refine HS.out.mono ?_
    rintro e w2 ⟨v, S, rfl, hso, hown, h2⟩
    obtain ⟨a2, c2, rfl, h02, hat⟩ := hown.at'
    have HB3 := Lib.hid (HB2.out.trans (h2.mono HB2.out.size))
    have HTA := Lib.hid (HTA.out.below h2)
    have HSA := Lib.hid hat
    have HSO := Lib.hid hso
    have hsl : S.length = L.length := hso.perm.length_eq
    have hs60 : S.length < 4294967296 := by omega
    have HSL := Lib.hid hsl
    clear hsl
    have HS2 := Lib.hid (sort_any w2 a2 c2 S hat hs60 h02)
    clear hso hown h2 hat HS HB2 h02
    go_wp2_with fail
    with_reducible refine HS2.out.mono ?_
    rintro e w3 ⟨v, S', rfl, hso', hown, h3⟩
    obtain rfl := hso'.stays HSO.out.sorted
    obtain ⟨a3, c3, rfl, -, hat⟩ := hown.at'
    have HB4 := Lib.hid (HB3.out.trans (h3.mono HB3.out.size))
    have HTA := Lib.hid (HTA.out.below h3)
    have HSA := Lib.hid (HSA.out.below h3)
    have SM := Lib.hid (bool_of (decide_eq_true rfl) (sameOps_any w3 a3 a2 c3 c2 S' S' hat HSA.out hs60))
    clear hso' hown h3 hat HS2 HB3
    go_wp2_with fail
    with_reducible refine SM.out.mono ?_
    rintro e w4 ⟨rfl, h4⟩
    have HB5 := Lib.hid (HB4.out.trans (h4.mono HB4.out.size))
    have HTA := Lib.hid (HTA.out.below h4)
    have HSA := Lib.hid (HSA.out.below h4)
    clear h4 SM HB4
    have hll : ((S'.length : Int) != (L.length : Int)) = false := by simp [HSL.out]
    have C1 := Lib.hid (bool_of (closedB_perm HTP.out) (closed_any w4 aT cT T HTA.out (fun o ho => HF.out o (HTP.out.mem_iff.1 ho)) ht60))
    go_wp2_with fail
    with_reducible refine C1.out.mono ?_
    rintro e w5 ⟨rfl, h5⟩
    have HB6 := Lib.hid (HB5.out.trans (h5.mono HB5.out.size))
    have HTA := Lib.hid (HTA.out.below h5)
    have HSA := Lib.hid (HSA.out.below h5)
    clear h5 C1 HB5
    have C2 := Lib.hid (closed_any w5 (some ⟨b, off, none⟩) cap L (HA.out.below HB6.out) HF.out (by omega))
    go_wp2_with fail
    with_reducible refine C2.out.mono ?_
    rintro e w6 ⟨rfl, h6⟩
    have HB7 := Lib.hid (HB6.out.trans (h6.mono HB6.out.size))
    have HTA := Lib.hid (HTA.out.below h6)
    have HSA := Lib.hid (HSA.out.below h6)
    clear h6 C2 HB6
    generalize closedB L = bc at *
    have M1 := Lib.hid (most_ops w6 aT cT T HTA.out ht60)
    rw [mostP_perm HTP.out] at M1
    have hgu := run_vGuardN
    have heq := run_eqv
    go_wp2_with fail
    with_reducible refine M1.out.mono ?_
    rintro e w7 ⟨rfl, h7⟩
    have HB8 := Lib.hid (HB7.out.trans (h7.mono HB7.out.size))
    have HSA := Lib.hid (HSA.out.below h7)
    clear h7 M1 HB7 HTA
    have M2 := Lib.hid (most_ops w7 (some ⟨b, off, none⟩) cap L (HA.out.below HB8.out) (by omega))
    have hbe := beq_eta (mostP L) (mostP L) rfl
    generalize mostP L = u at *
    go_wp2_with fail
    with_reducible refine M2.out.mono ?_
    rintro e w8 ⟨rfl, h8⟩
    have HB9 := Lib.hid (HB8.out.trans (h8.mono HB8.out.size))
    have HSA := Lib.hid (HSA.out.below h8)
    clear h8 M2 HB8
    have HLA := Lib.hid (HA.out.below HB9.out)
    go_wp2_with fail
    clear hll hgu heq hbe
    go_loopw [8] (fun i wr => ∃ q : Nat, q ≤ S'.length ∧ i = .int .i64 q ∧ Below w8.heap.size w8 wr) (fun i _ => S'.length - (RowKit.intOf i).toNat)
    case atStart => exact ⟨0, by omega, rfl, Below.refl _ _⟩
    case round =>
      obtain ⟨q, hq, rfl, hbw⟩ := hrel
      have HB := Lib.hid hbw
      clear hbw
      by_cases hql : q < S'.length
      · obtain ⟨p, hp⟩ : ∃ p, S'[q]? = some p := ⟨_, List.getElem?_eq_getElem hql⟩
        obtain ⟨b2, off2, rfl, hl2, hc2⟩ := (HSA.out.below HB.out) q p hp
        have HP := Lib.hid hp
        have q0 : (0 : Int) ≤ (q : Int) := by omega
        have q1 : (q : Int) < (S'.length : Int) := by omega
        clear hc2 hp hl2
        go_wp2_with fail
        go_loopw [9, 10] (fun n k wj => ∃ j : Nat, j ≤ L.length ∧ k = .int .i64 j ∧ n = .int .i64 ((cntO p (L.take j) : Int) - (cntO p (S'.take j) : Int)) ∧ Below w8.heap.size w8 wj) (fun _ k _ => L.length - (RowKit.intOf k).toNat)
        case atStart => exact ⟨0, by omega, rfl, by simp [cntO], HB.out⟩
        case round =>
          obtain ⟨j, hj, rfl, rfl, hbj⟩ := hrel
          have HBJ := Lib.hid hbj
          clear hbj
          by_cases hjl : j < L.length
          · obtain ⟨x, hx⟩ : ∃ x, L[j]? = some x := ⟨_, List.getElem?_eq_getElem hjl⟩
            obtain ⟨y, hy⟩ : ∃ y, S'[j]? = some y := ⟨_, List.getElem?_eq_getElem (by have := HSL.out; omega)⟩
            have C1 := Lib.hid (show ∀ y, (∃ n, y = ext wr n) → ∀ (k : Nat) v, x.cells[k]? = some v → y.cell? ⟨b, off + j * 26 + k, none⟩ = some v by
              obtain ⟨b', off', e, hb1, hc1⟩ := (HLA.out.below HBJ.out) j x hx
              cases e
              exact at_ext hc1 hb1)
            have C2 := Lib.hid (show ∀ y, (∃ n, y = ext wr n) → ∀ (k : Nat) v, p.cells[k]? = some v → y.cell? ⟨b2, off2 + q * 26 + k, none⟩ = some v by
              obtain ⟨b', off', e, hb1, hc1⟩ := (HSA.out.below HBJ.out) q p HP.out
              cases e
              exact at_ext hc1 hb1)
            have C3 := Lib.hid (fun (wt : World) (hwt : Below w8.heap.size w8 wt) => show ∀ z, (∃ n, z = ext wt n) → ∀ (k : Nat) v, y.cells[k]? = some v → z.cell? ⟨b2, off2 + j * 26 + k, none⟩ = some v by
              obtain ⟨b', off', e, hb1, hc1⟩ := (HSA.out.below hwt) j y hy
              cases e
              exact at_ext hc1 hb1)
            have C4 := Lib.hid (fun (wt : World) (hwt : Below w8.heap.size w8 wt) => show ∀ z, (∃ n, z = ext wt n) → ∀ (k : Nat) v, p.cells[k]? = some v → z.cell? ⟨b2, off2 + q * 26 + k, none⟩ = some v by
              obtain ⟨b', off', e, hb1, hc1⟩ := (HSA.out.below hwt) q p HP.out
              cases e
              exact at_ext hc1 hb1)
            have hA := cntO_take_le p L j
            have hB := cntO_take_le p S' j
            have EA := Lib.hid (cntO_snoc p hx)
            have EB := Lib.hid (cntO_snoc p hy)
            have b0 : (0 : Int) ≤ (j : Int) := by omega
            have b1 : (j : Int) < (L.length : Int) := by omega
            have b2' : (j : Int) < (S'.length : Int) := by have := HSL.out; omega
            have hgo := run_opGuard
            generalize cntO p (L.take j) = cA at *
            generalize cntO p (S'.take j) = cB at *
            clear hx hy
            cases ex : x.beq p <;> cases ey : y.beq p
            all_goals
              have heq := fun w => op_eq ex w
              have heq2 := fun w => op_eq ey w
              go_upto_region 18 with fail
              refine region_ext (by kernel_rfl) (by kernel_rfl) ?_
              iterate 3 (go_big_quiet_step (fail))
              go_big_quiet_want
              refine quiet_loadS (.tmp 81) 31 rfl (b := b) (off := off + j * 26) (cs := OpG.cells x) rfl Tryd.underlying31 (by kernel_rfl) (C1.out) ?_
              go_big_quiet_on
              simp only [Act.put, List.setIfInBounds_toArray, List.set_cons_zero, List.set_cons_succ]
              iterate 3 (go_big_quiet_step (fail))
              go_big_quiet_want
              refine quiet_loadS (.tmp 85) 31 rfl (b := b2) (off := off2 + q * 26) (cs := OpG.cells p) rfl Tryd.underlying31 (by kernel_rfl) (C2.out) ?_
              go_big_quiet_on
              simp only [Act.put, List.setIfInBounds_toArray, List.set_cons_zero, List.set_cons_succ]
              repeat (go_big_quiet_step (fail))
              refine wpQuiet_nil ?_
              rintro _ ⟨nq, rfl⟩
              have HB1 := Lib.hid (HBJ.out.trans ((ext_below wr nq).mono HBJ.out.size))
              go_upto_region 20 with fail
              refine region_ext (by kernel_rfl) (by kernel_rfl) ?_
              iterate 3 (go_big_quiet_step (fail))
              go_big_quiet_want
              refine quiet_loadS (.tmp 92) 31 rfl (b := b2) (off := off2 + j * 26) (cs := OpG.cells y) rfl Tryd.underlying31 (by kernel_rfl) (C3.out _ HB1.out) ?_
              go_big_quiet_on
              simp only [Act.put, List.setIfInBounds_toArray, List.set_cons_zero, List.set_cons_succ]
              iterate 3 (go_big_quiet_step (fail))
              go_big_quiet_want
              refine quiet_loadS (.tmp 96) 31 rfl (b := b2) (off := off2 + q * 26) (cs := OpG.cells p) rfl Tryd.underlying31 (by kernel_rfl) (C4.out _ HB1.out) ?_
              go_big_quiet_on
              simp only [Act.put, List.setIfInBounds_toArray, List.set_cons_zero, List.set_cons_succ]
              repeat (go_big_quiet_step (fail))
              refine wpQuiet_nil ?_
              rintro _ ⟨nr, rfl⟩
              have HB2 := Lib.hid (HB1.out.trans ((ext_below (ext wr nq) nr).mono HB1.out.size))
              go_wp2_with fail
              go_roundw
              case rel => exact ⟨j + 1, by omega, by go_num, congrArg (Value.int .i64) (by rw [EA.out, EB.out, ex, ey]; simp <;> omega), HB2.out⟩
              case measure => first | omega | (simp [intOf]; omega) | (simp [RowKit.intOf]; omega)
          · have ej : j = L.length := by omega
            have hn0 : ((cntO p (L.take j) : Int) - (cntO p (S'.take j) : Int)) = 0 := by
              rw [ej, List.take_length, List.take_of_length_le (by have := HSL.out; omega), cntO_perm p HSO.out.perm]
              omega
            have dj : decide ((j : Int) < (L.length : Int)) = false := decide_eq_false (by omega)
            simp only [hn0]
            clear hn0 ej
            go_upto_region 22 with fail
            by_cases hq0 : q = 0
            · subst hq0
              have dz : decide ((0 : Int) < ((0 : Nat) : Int)) = false := by decide
              refine region_ext (by kernel_rfl) (by kernel_rfl) ?_
              repeat (go_big_quiet_step (fail))
              refine wpQuiet_nil ?_
              rintro _ ⟨nq, rfl⟩
              go_wp2_with fail
              go_roundw
              case rel => exact ⟨0 + 1, by omega, by go_num, HBJ.out.trans ((ext_below wr nq).mono HBJ.out.size)⟩
              case measure => first | omega | (simp [intOf]; omega) | (simp [RowKit.intOf]; omega)
            · obtain ⟨k, rfl⟩ : ∃ k, q = k + 1 := ⟨q - 1, by omega⟩
              obtain ⟨a, ha⟩ : ∃ a, S'[k]? = some a := ⟨_, List.getElem?_eq_getElem (by omega)⟩
              have hst := sorted_lt' HSO.out.sorted (Nat.lt_succ_self k) ha HP.out
              have dlt : decide (0 < cmpS a.n a.r p.n p.r) = false := decide_eq_false (by rw [cmpS_gt]; exact hst)
              have dgt : decide ((0 : Int) < ((k + 1 : Nat) : Int)) = true := decide_eq_true (by omega)
              have CP := Lib.hid (fun w => refCompare_any a.n a.r p.n p.r w)
              have hk : (((k + 1 : Nat) : Int) - 1) = (k : Int) := by omega
              have hk0 : (0 : Int) ≤ (k : Int) := by omega
              have hk1 : (k : Int) < (S'.length : Int) := by omega
              obtain ⟨b', off', e', hbl', hca⟩ := (HSA.out.below HBJ.out) k a ha
              cases e'
              obtain ⟨b', off', e', hbl2, hcp⟩ := (HSA.out.below HBJ.out) (k + 1) p HP.out
              cases e'
              have c0 : ∀ n, (ext wr n).cell? ⟨b2, off2 + k * 26, none⟩ = some (.int .i64 a.n) := fun n => ((ext_cell wr n _ hbl').trans (hca 0 _ rfl))
              have c1 : ∀ n, (ext wr n).cell? ⟨b2, off2 + k * 26 + 1, none⟩ = some (.int .i64 a.r) := fun n => ((ext_cell wr n _ hbl').trans (hca 1 _ rfl))
              have d0 : ∀ n, (ext wr n).cell? ⟨b2, off2 + (k + 1) * 26, none⟩ = some (.int .i64 p.n) := fun n => ((ext_cell wr n _ hbl').trans (hcp 0 _ rfl))
              have d1 : ∀ n, (ext wr n).cell? ⟨b2, off2 + (k + 1) * 26 + 1, none⟩ = some (.int .i64 p.r) := fun n => ((ext_cell wr n _ hbl').trans (hcp 1 _ rfl))
              clear hst hca hcp ha hq0
              refine region_ext (by kernel_rfl) (by kernel_rfl) ?_
              repeat (go_big_quiet_step (with_reducible exact calls_ext (CP.out _)))
              refine wpQuiet_nil ?_
              rintro _ ⟨nq, rfl⟩
              go_wp2_with fail
              go_roundw
              case rel => exact ⟨k + 1 + 1, by omega, by go_num, HBJ.out.trans ((ext_below wr nq).mono HBJ.out.size)⟩
              case measure => first | omega | (simp [intOf]; omega) | (simp [RowKit.intOf]; omega)
      · have e : q = S'.length := by omega
        subst e
        go_wp2_with fail
        with_reducible refine (AL.out _).mono ?_
        rintro e y ⟨rfl, h3⟩
        have H3 := Lib.hid h3
        clear h3
        go_wp2_with fail
        go_ret
        exact ⟨rfl, HB9.out.trans ((HB.out.trans (H3.out.mono HB.out.size)).mono HB9.out.size)⟩
end Go.Proofs.YtgmhjgknfeihiaaDoor
