/- THE LAW FugueSubtree. -/
import Derived.Test.YtohpablkgfkelaaFHangs
import Derived.Test.YtohpablkgfkelaaRows
import Derived.ProofKit
import Derived.OpenShut
import Derived.ShutString
import Derived.ChangeOld
import Derived.Below
namespace Go.Proofs.Ytohpablkgfkelaa
open Go.ChangeShapes Go.WideShapes Go.ChangeAt Go.RowKit
open Go.ChangeMaps (open_string shut_string)
set_option linter.unusedVariables false
set_option linter.unusedSimpArgs false

open Go.Joins
theorem int_in {z : Int} (h : (Lit.int .i64 z).wf = true) : -9223372036854775808 ≤ z ∧ z ≤ 9223372036854775807 := by
  have hmin : IntKind.i64.min = -9223372036854775808 := by decide
  have hmax : IntKind.i64.max = 9223372036854775807 := by decide
  simp only [Lit.wf, hmin, hmax, Bool.and_eq_true, decide_eq_true_eq] at h
  exact h
def manyF (u d q : Nat) : Int := if q ≤ u then 0 else if q ≤ u + d then (q : Int) - u else d
def firstF (u q : Nat) : Int := if q ≤ u then -1 else u
def lastF (u d q : Nat) : Int := if q ≤ u then -1 else if q ≤ u + d then (q : Int) - 1 else (u : Int) + d - 1
theorem on_at {L U D V : List St} (hn : L.Nodup) (hL : L = U ++ D ++ V) {j : Nat} {x : St} (hx : L[j]? = some x) : decide (x ∈ D) = decide (U.length ≤ j ∧ j < U.length + D.length) := by
  obtain ⟨hj, hv⟩ := List.getElem?_eq_some_iff.1 hx
  have hin : ∀ (i : Nat) (y : St), D[i]? = some y → L[U.length + i]? = some y := fun i y hy => by
    rw [hL, List.append_assoc, List.getElem?_append_right (by omega), List.getElem?_append_left (by have := (List.getElem?_eq_some_iff.1 hy).1; omega)]
    rw [← hy]; congr 1; omega
  rw [decide_eq_decide]
  constructor
  · intro hm
    obtain ⟨i, hi⟩ := List.mem_iff_getElem?.1 hm
    obtain ⟨h1, h2⟩ := List.getElem?_eq_some_iff.1 (hin i x hi)
    have hid := (List.getElem?_eq_some_iff.1 hi).1
    rw [← hv] at h2
    have := (List.getElem_inj hn).1 h2
    omega
  · rintro ⟨h1, h2⟩
    obtain ⟨y, hy⟩ : ∃ y, D[j - U.length]? = some y := ⟨_, List.getElem?_eq_getElem (by omega)⟩
    have := hin _ y hy
    rw [show U.length + (j - U.length) = j by omega, hx] at this
    obtain rfl := Option.some.inj this
    exact List.mem_of_getElem? hy
set_option maxHeartbeats 16000000 in
set_option maxRecDepth 20000 in
theorem fugueSubtree_walk (ao : Option Addr) (cap : Nat) (A : List ActG) (n : Int) (hnb : -9223372036854775808 ≤ n ∧ n ≤ 9223372036854775807) (w : World) (hlen : A.length ≤ maxLen) (hA : ActsAt w ao A) :
    Calls Try.prog 5 #[.slice ao A.length cap, .int .i64 n] w fun e w' => e = .returned (.bool true) ∧ Below w.heap.size w w' := by
  have HW := Lib.hid (written_any w ao cap A hlen hA)
  clear hA hlen
  go_enter Try.func5, Try.ntmps5
  go_wp2_with fail
  with_reducible refine HW.out.mono ?_
  rintro e w1 ⟨t, S, v, l, rfl, hWr, hC, hl80⟩
  have HWr := Lib.hid hWr
  have HC := Lib.hid hC
  have HAL := Lib.hid (alive_any w1)
  obtain ⟨cs, T, htp⟩ := hWr.text.blk
  obtain ⟨al, cl, rfl, -⟩ := hWr.row.form
  clear hWr hC HW
  go_wp2_with fail
  with_reducible refine HAL.out.mono ?_
  rintro e w2 ⟨rfl, hb2⟩
  have HT2 := Lib.hid ((HWr.out.text.later hb2).bnd)
  have HTO := Lib.hid HC.out.told
  have hLl := HC.out.length
  have HA2 := Lib.hid (all_text w2 t S _ HT2.out)
  have HBX2 := Lib.hid (HWr.out.b.trans (hb2.mono HWr.out.b.size))
  have HRO2 := Lib.hid (HWr.out.row.later hb2)
  clear hb2 HAL htp
  go_wp2_with fail
  with_reducible refine HA2.out.mono ?_
  rintro e w3 ⟨v7, rfl, hrow, hb3⟩
  obtain ⟨a7, c7, rfl, hels⟩ := hrow.formS rfl
  have HEL := Lib.hid hels
  have HBX3 := Lib.hid (HBX2.out.trans (hb3.mono HBX2.out.size))
  have hro3 := HRO2.out.later hb3
  obtain ⟨al', cl', hal, -, -, -, -, hacts⟩ := hro3.form
  cases hal
  have HACT := Lib.hid hacts
  clear hrow hels hb3 HA2 hro3 hacts
  rcases Nat.eq_zero_or_pos S.L.length with h0 | h0
  · go_wp2
    go_ret
    exact ⟨rfl, HBX3.out⟩
  · have hne : ((S.L.length : Int) == 0) = false := beq_eq_false_iff_ne.2 (by omega)
    go_upto_if 31 with fail
    go_cut [1] (fun v z => (∃ nn : Nat, v = .int .i64 nn ∧ nn < 9223372036854775808) ∧ z = w3)
    case first =>
      by_cases hneg : n < 0
      · go_wp2_with fail
        go_meet
        exact ⟨⟨(-(n + 1)).toNat, congrArg (Value.int .i64) (by omega), by omega⟩, rfl⟩
      · go_wp2_with fail
        go_meet
        exact ⟨⟨n.toNat, congrArg (Value.int .i64) (by omega), by omega⟩, rfl⟩
    case rest =>
    obtain ⟨⟨nn, rfl, hnn⟩, rfl⟩ := hcut
    obtain ⟨i, hi⟩ : ∃ i, nn % S.L.length = i := ⟨_, rfl⟩
    have hil : i < S.L.length := by rw [← hi]; exact Nat.mod_lt _ h0
    have hi2 : (nn : Int).tmod (S.L.length : Int) = (i : Int) := by rw [← hi]; rfl
    have hi3 : (nn : Int) % (S.L.length : Int) = (i : Int) := by rw [← hi]; rfl
    obtain ⟨top, htop⟩ : ∃ top, S.L[i]? = some top := ⟨_, List.getElem?_eq_getElem hil⟩
    have hxel : S.els[i]? = some (S.el top) := by unfold Tx.els; rw [List.getElem?_map, htop]; rfl
    obtain ⟨B1, rfl, -, hc⟩ := HEL.out i (S.el top) hxel
    have d0 := hc 0 _ rfl
    have d1 := hc 1 _ rfl
    simp only [Nat.add_zero] at d0
    have e0 : (S.el top).k = top := rfl
    rw [e0] at d0 d1
    have b0 : (0 : Int) ≤ (i : Int) := by omega
    have b1 : (i : Int) < (S.L.length : Int) := by omega
    have HTP := Lib.hid (List.mem_of_getElem? htop)
    clear hc hxel htop e0
    obtain ⟨U, D, V, hL, htD, hpar⟩ := HTO.out.part HTP.out
    have hon : ∀ (j : Nat) (x : St), S.L[j]? = some x → decide (x ∈ D) = decide (U.length ≤ j ∧ j < U.length + D.length) := fun j x hx => on_at HTO.out.ok.nodup hL hx
    have hd1 : 1 ≤ D.length := List.length_pos_of_mem htD
    have hul : U.length + D.length ≤ S.L.length := by have := congrArg List.length hL; simp at this; omega
    have h0D : (0, 0) ∉ D := fun h => HTO.out.ok.zero (by rw [hL]; simp [h])
    have HON := Lib.hid hon
    have HHG := Lib.hid (fun (z : World) (hz : Below wc.heap.size wc z) (x : St) (hx : x ∈ S.L) => hangs_any z al cl l S HTO.out (HACT.out.below hz) hl80 top D hpar htD h0D x hx)
    generalize U.length = u at *
    generalize D.length = dd at *
    clear hL htD hpar hon h0D
    go_upto_region 10 with fail
    clear d0 d1
    refine wp_let (fun z => Below wc.heap.size wc z ∧ z.heap[wc.heap.size]? = some (.cells #[.int .i64 top.1, .int .i64 top.2] 30 (0, 0))) ⟨(Below.refl _ _).alloc (Nat.le_refl _) _, blk_new _ _⟩ (fun y hy => ?_)
    have HY := Lib.hid hy
    clear hy
    go_wp2
    go_loopw [9, 10, 11, 12] (fun f la ma iv wr => ∃ q : Nat, iv = .int .i64 q ∧ q ≤ S.L.length ∧ f = .int .i64 (firstF u q) ∧ la = .int .i64 (lastF u dd q) ∧ ma = .int .i64 (manyF u dd q) ∧ Aside (Below wc.heap.size wc wr ∧ wr.heap[wc.heap.size]? = some (.cells #[.int .i64 top.1, .int .i64 top.2] 30 (0, 0)))) (fun _ _ _ iv _ => S.L.length - (intOf iv).toNat)
    case atStart => exact ⟨0, rfl, Nat.zero_le _, rfl, rfl, rfl, HY.out⟩
    case round =>
      obtain ⟨q, rfl, hq, rfl, rfl, rfl, AX⟩ := hrel
      by_cases hql : q < S.L.length
      · obtain ⟨x, hx⟩ : ∃ x, S.L[q]? = some x := ⟨_, List.getElem?_eq_getElem hql⟩
        have hxel : S.els[q]? = some (S.el x) := by unfold Tx.els; rw [List.getElem?_map, hx]; rfl
        have hbe : ∀ e, Below wc.heap.size wc (ext wr e) := fun e => AX.out.1.trans ((ext_below wr e).mono AX.out.1.size)
        have hcc := fun e => HEL.out.below (hbe e) q (S.el x) hxel
        have d0 : ∀ e, (ext wr e).cell? ⟨B1, q * 4, none⟩ = some (.int .i64 x.1) := fun e => by
          obtain ⟨B2, e2, -, h⟩ := hcc e
          cases e2
          have := h 0 _ rfl
          rw [Nat.add_zero] at this
          exact this
        have d1 : ∀ e, (ext wr e).cell? ⟨B1, q * 4 + 1, none⟩ = some (.int .i64 x.2) := fun e => by
          obtain ⟨B2, e2, -, h⟩ := hcc e
          cases e2
          exact h 1 _ rfl
        have t0 := fun e => blk_cell (((ext_below wr e).block _ (heap_lt AX.out.2)).trans AX.out.2) 0
        have t1 := fun e => blk_cell (((ext_below wr e).block _ (heap_lt AX.out.2)).trans AX.out.2) 1
        have b2 : (0 : Int) ≤ (q : Int) := by omega
        have b3 : (q : Int) < (S.L.length : Int) := by omega
        have HG2 := Lib.hid (show ∀ e, Calls Try.prog 19 #[.slice al l.length cl, encS x, encS top] (ext wr e) fun e' w' => e' = .returned (.bool (decide (u ≤ q ∧ q < u + dd))) ∧ Below (ext wr e).heap.size (ext wr e) w' from fun e => by rw [← HON.out q x hx]; exact HHG.out _ (hbe e) x (List.mem_of_getElem? hx))
        have HBE := Lib.hid hbe
        clear hx hxel hbe hcc
        go_upto_region 16 with fail
        refine region_ext (by kernel_rfl) (by kernel_rfl) ?_
        repeat (go_big_quiet_step ((go_at_call 19; with_reducible exact calls_ext (HG2.out _))))
        refine wpQuiet_nil ?_
        rintro _ ⟨nq, rfl⟩
        have HZ := Lib.hid (show Below wc.heap.size wc (ext wr nq) ∧ (ext wr nq).heap[wc.heap.size]? = some (.cells #[.int .i64 top.1, .int .i64 top.2] 30 (0, 0)) from ⟨HBE.out nq, ((ext_below wr nq).block _ (heap_lt AX.out.2)).trans AX.out.2⟩)
        clear d0 d1 t0 t1 HG2 HBE AX
        generalize ext wr nq = z at *
        by_cases hin : u ≤ q ∧ q < u + dd
        · have hb : decide (u ≤ q ∧ q < u + dd) = true := decide_eq_true hin
          have e1 : manyF u dd q + 1 = manyF u dd (q + 1) := by unfold manyF; repeat' split <;> omega
          have e1b : 0 ≤ manyF u dd q ∧ manyF u dd q ≤ S.L.length := by unfold manyF; repeat' split <;> omega
          by_cases hqu : q = u
          · have e2 : firstF u q = -1 := by unfold firstF; rw [if_pos (by omega)]
            have e3 : (q : Int) = firstF u (q + 1) := by unfold firstF; rw [if_neg (by omega)]; omega
            have e4 : (q : Int) = lastF u dd (q + 1) := by unfold lastF; repeat' split <;> omega
            have E3 := Lib.hid e3
            have E4 := Lib.hid e4
            have E1 := Lib.hid e1
            rw [hb, e2]
            clear hb e1 e3 e4 hin hqu e2
            generalize manyF u dd q = mq at *
            go_wp2
            go_roundw
            case rel => exact ⟨q + 1, by go_num, by omega, congrArg (Value.int .i64) E3.out, congrArg (Value.int .i64) E4.out, congrArg (Value.int .i64) E1.out, HZ.out⟩
            case measure => simp [intOf]; omega
          · have e2 : firstF u q = u := by unfold firstF; rw [if_neg (by omega)]
            have e3 : (u : Int) = firstF u (q + 1) := by unfold firstF; rw [if_neg (by omega)]
            have e4 : (q : Int) = lastF u dd (q + 1) := by unfold lastF; repeat' split <;> omega
            have E3 := Lib.hid e3
            have E4 := Lib.hid e4
            have E1 := Lib.hid e1
            rw [hb, e2]
            clear hb e1 e3 e4 hin hqu e2
            generalize manyF u dd q = mq at *
            go_wp2
            go_roundw
            case rel => exact ⟨q + 1, by go_num, by omega, congrArg (Value.int .i64) E3.out, congrArg (Value.int .i64) E4.out, congrArg (Value.int .i64) E1.out, HZ.out⟩
            case measure => simp [intOf]; omega
        · have hb : decide (u ≤ q ∧ q < u + dd) = false := decide_eq_false hin
          have e1 : manyF u dd q = manyF u dd (q + 1) := by unfold manyF; repeat' split <;> omega
          have e3 : firstF u q = firstF u (q + 1) := by unfold firstF; repeat' split <;> omega
          have e4 : lastF u dd q = lastF u dd (q + 1) := by unfold lastF; repeat' split <;> omega
          have E3 := Lib.hid e3
          have E4 := Lib.hid e4
          have E1 := Lib.hid e1
          rw [hb]
          clear hb e1 e3 e4 hin
          generalize manyF u dd q = mq at *
          generalize firstF u q = fq at *
          generalize lastF u dd q = lq at *
          go_wp2
          go_roundw
          case rel => exact ⟨q + 1, by go_num, by omega, congrArg (Value.int .i64) E3.out, congrArg (Value.int .i64) E4.out, congrArg (Value.int .i64) E1.out, HZ.out⟩
          case measure => simp [intOf]; omega
      · obtain rfl : q = S.L.length := by omega
        have e1 : manyF u dd S.L.length = dd := by unfold manyF; repeat' split <;> omega
        have e2 : firstF u S.L.length = u := by unfold firstF; rw [if_neg (by omega)]
        have e3 : lastF u dd S.L.length = (u : Int) + dd - 1 := by unfold lastF; repeat' split <;> omega
        rw [e1, e2, e3]
        have e5 : ((dd : Int) == (u : Int) + (dd : Int) - 1 - (u : Int) + 1) = true := beq_iff_eq.2 (by omega)
        clear e1 e2 e3
        go_wp2
        go_ret
        exact ⟨by simp, HBX3.out.trans (AX.out.1.mono HBX3.out.size)⟩

set_option maxRecDepth 100000 in
theorem fugueSubtree_lifted (os : Os) (started : os.Started) (H : Type) (enc : TypeId × Value → H) :
    ReturnsInHanded {} Try.checked os 5 .any (Rows.fugueSubtreeSpec.pre6 enc Try.prog Try.f5 Rows.fugueSubtreeRow.domain false) (Rows.fugueSubtreeSpec.post enc Try.prog Try.f5 false true false false) := by
  refine returnsInHanded_of_change (C := Try.checked) own started (by kernel_rfl) Try.func5
    (ChangeSpec.witness6 (enc := enc) (C := Try.checked) false ⟨#[], #[.slice none 0 0, .int .i64 0], []⟩ 8 (by kernel_rfl) (by kernel_rfl) (by kernel_rfl) (by kernel_rfl)) ?_
  intro W base args ds gs before hval0 hW hcnd _
  have hval : ∀ (j : Nat) t v, Try.f5.params[j]? = some t → args[j]? = some v → Value.okWide Try.prog W .any base t v := hval0
  have hW' := hW
  obtain ⟨p, q, hA0, hV, rfl, hfz, hnd⟩ := hW
  have hA : DataW.TrodAll enc Try.prog W 0 (fun _ => true) true Try.f5.params.toList args.toList ds p := hA0
  rw [Try.params5] at hA hval
  obtain ⟨v0, vs0, d0, ds0, p0, q0, hargs, rfl, rfl, h0, r0⟩ := trodAll_cons hA
  obtain ⟨v1, vs1, d1, ds1, p1, q1, rfl, rfl, rfl, h1, r1⟩ := trodAll_cons r0
  obtain ⟨rfl, rfl, rfl⟩ := trodAll_nil r1
  obtain rfl : args = #[v0, v1] := by cases args; simp_all
  obtain ⟨rfl, rfl⟩ := trodVars_none hV
  have lt0 : ∀ x ∈ p0, x.block < W.heap.size := by obtain ⟨m, hm⟩ := h0; exact DataW.trod_lt m _ _ _ hm
  have lt1 : ∀ x ∈ p1, x.block < W.heap.size := by obtain ⟨m, hm⟩ := h1; exact DataW.trod_lt m _ _ _ hm
  obtain ⟨ao, cap, A, rfl, hlen, hacts⟩ := open_acts (hval 0 22 v0 rfl rfl) h0
  obtain ⟨n, rfl, rfl, rfl, hnw⟩ := open_int Try.underlying3 (hval 1 3 v1 rfl rfl) h1
  clear hA0 hval0
  refine (fugueSubtree_walk ao cap A n (int_in hnw) W hlen hacts).mono fun e W' ⟨he, bel⟩ => ?_
  subst he
  exact ⟨_, rfl, _, _, _, [], _, [], hW', trodAll_mk1 (shut_bool Try.underlying4 _), (trodAll_cons_mk (Below.trod laidOut (by kernel_rfl) (of_decide_eq_true (by kernel_rfl)) h0 bel lt0) (trodAll_cons_mk (Below.trod laidOut (by kernel_rfl) (of_decide_eq_true (by kernel_rfl)) h1 bel lt1) trodAll_mk0)), rfl, bel.frame _, fun h => by cases h⟩

theorem fugueSubtree_holds : Rows.FugueSubtreeSaid :=
  OpenClaim.holds_of_wide 5 Try.f5 rfl rfl rfl rfl rfl rfl rfl ⟨rfl, rfl, rfl, rfl, rfl⟩ rfl rfl rfl rfl rfl (by kernel_rfl) Try.func5 (by kernel_rfl)
    (of_decide_eq_true (by kernel_rfl)) (by unfold Func.isWrapper; first | (rw [if_pos (by decide +kernel)]; kernel_rfl) | (rw [if_neg (by decide +kernel)]; exact ⟨rfl, rfl⟩))
    (fun os started H enc _ => fugueSubtree_lifted os started H enc)

end Go.Proofs.Ytohpablkgfkelaa
