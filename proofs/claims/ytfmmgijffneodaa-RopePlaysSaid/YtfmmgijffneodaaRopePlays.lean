/- THE LAW RopePlays: proved for every script (of which 300 acts are gone through); no condition. -/
import Derived.Test.YtfmmgijffneodaaRopeBoth
import Derived.Deep.RegionHeld3
import Derived.Deep.DeepCutAuto
import Derived.ProofKit
import Derived.OpenShut
import Derived.ShutString
import Derived.ChangeOld
import Derived.Below
namespace Go.Proofs.Ytfmmgijffneodaa
open Go.ChangeShapes Go.WideShapes Go.ChangeAt Go.RowKit
open Go.ChangeMaps (open_string shut_string)
set_option linter.unusedVariables false
set_option linter.unusedSimpArgs false

open Go.Joins
theorem len_ext {w : World} {r : Nat} {L : List Int} {hid : Int → Bool} {F : Nat → Prop} (h : Rope w r L hid F) (n : World) : Calls Try.prog 25 #[ptr r] (ext w n) fun e w'' => e = .returned (.int .i64 L.length) ∧ ∃ m, w'' = ext w m :=
  (len_any (ext w n) r L hid F (h.later (ext_below w n))).mono (fun _ _ ⟨h1, h2⟩ => ⟨h1, n, h2.symm⟩)
theorem count_ext {w : World} {r : Nat} {L : List Int} {hid : Int → Bool} {F : Nat → Prop} (h : Rope w r L hid F) (n : World) : Calls Try.prog 13 #[ptr r] (ext w n) fun e w'' => e = .returned (.int .i64 (cnt hid L)) ∧ ∃ m, w'' = ext w m :=
  (count_any (ext w n) r L hid F (h.later (ext_below w n))).mono (fun _ _ ⟨h1, h2⟩ => ⟨h1, n, h2.symm⟩)
theorem RefAt.later {w w' : World} {m base : Nat} {v : Value} {L : List Int} {hid : Int → Bool} (h : RefAt w m base v L hid) (b : Below w.heap.size w w') : RefAt w' m base v L hid :=
  ⟨(b.block m (heap_lt h.top)).trans h.top, own_ch h.row (Ch.of_below (F := fun _ => False) b) (fun _ _ e => e)⟩
theorem rcount_ext {w : World} {m base : Nat} {v : Value} {L : List Int} {hid : Int → Bool} (h : RefAt w m base v L hid) (hL : L.length < 4294967296) (n : World) : Calls Try.prog 26 #[ptr m] (ext w n) fun e w'' => e = .returned (.int .i64 (cnt hid L)) ∧ ∃ k, w'' = ext w k :=
  (rcount_any (ext w n) m base v L hid (h.later (ext_below w n)) hL).mono (fun _ _ ⟨h1, h2⟩ => ⟨h1, n, h2.symm⟩)
set_option maxHeartbeats 16000000 in
set_option maxRecDepth 40000 in
theorem ropePlays_walk (ao : Option Addr) (cap : Nat) (A : List ActG) (w : World) (hlen : A.length ≤ maxLen) (hA : ActsAt w ao A) :
    Calls Try.prog 5 #[.slice ao A.length cap] w fun e w' => e = .returned (.bool true) ∧ Below w.heap.size w w' := by
  have HN := Lib.hid (new_any w)
  have HA := Lib.hid hA
  unfold maxLen at hlen
  clear hA
  go_enter Try.func5, Try.ntmps5
  go_wp2_with fail
  with_reducible refine HN.out.mono ?_
  rintro e w1 ⟨r, rfl, hR, hB⟩
  have H := Lib.hid (fun w => alive_any w)
  have HR := Lib.hid hR
  have HB := Lib.hid hB
  clear hR hB
  go_wp2_with fail
  with_reducible refine (H.out _).mono ?_
  rintro e w2 ⟨rfl, hb⟩
  have HS := Lib.hid ((both_start HR.out HB.out).later hb)
  clear hb
  go_wp2
  go_loopw [5] (fun i w' => ∃ (k : Nat) (L : List Int) (hid : Int → Bool), i = .int .i64 k ∧ k ≤ A.length ∧ k ≤ 300 ∧ L.length ≤ k ∧ Both w w' r w1.heap.size L hid) (fun i _ => 301 - (intOf i).toNat)
  case atStart => exact ⟨0, [], noH, rfl, by omega, by omega, by simp, HS.out⟩
  case round =>
    obtain ⟨n, L, hid, rfl, hk1, hk2, hkL, hBo⟩ := hrel
    have HBo := Lib.hid hBo
    clear hBo
    by_cases hk : n < A.length ∧ n < 300
    · obtain ⟨hk, h3⟩ := hk
      obtain ⟨b, off, rfl, c0, c1, c2, c3, hbw⟩ := HA.out.below HBo.out.below n hk
      have hRd := fun a b c d => rd_start a b c d HBo.out
      generalize A[n] = g at *
      obtain ⟨kd, at', k, sh⟩ := g
      have HRd := Lib.hid (hRd kd at' k sh)
      clear hRd
      have hl300 : L.length ≤ 300 := by omega
      have hlI := insL_length L at' k
      have hnd := Lib.hid HRd.out.nodup
      by_cases hkd1 : kd = 1
      · subst hkd1
        go_wp2_with fail
        refine wp_let (fun x => Rd w x r w1.heap.size wr.heap.size L hid L hid 1 at' k sh) HRd.out (fun x hx => ?_)
        have hy := hx.drew
        go_region_held3 (fun w' => w'.cell? ⟨wr.heap.size, 1, none⟩ = some (.int .i64 at') ∧ w'.cell? ⟨wr.heap.size, 2, none⟩ = some (.int .i64 k) ∧ w'.cell? ⟨wr.heap.size, 3, none⟩ = some (.bool sh)) (exact Rd.keep (by with_reducible assumption)) (first | ((with_reducible refine (Rd.ins1 (by with_reducible assumption) hl300).mono ?_); rintro e x1 ⟨rfl, h1⟩) | ((with_reducible refine (Rd.ins2 (by with_reducible assumption) hl300).mono ?_); rintro e x1 ⟨rfl, h1⟩))
        all_goals
          obtain ⟨L', hid', hl', h1⟩ : ∃ L' hid', L'.length ≤ n + 1 ∧ Rd w x1 r w1.heap.size wr.heap.size L' hid' L' hid' 1 at' k sh := ⟨_, _, by omega, h1⟩
          obtain ⟨F1, hR1⟩ := h1.both.rope
          obtain ⟨v1, b1, hM1⟩ := h1.both.ref
          obtain ⟨aM, cM, rfl, -⟩ := item_cells hM1.row
          have hq1 : L'.length < 4294967296 := by omega
          have k1 := blk_cell h1.box 1
          have k2 := blk_cell h1.box 2
          have e0 : ∀ n, (ext x1 n).cell? ⟨w1.heap.size, 0, none⟩ = some (.slice aM L'.length cM) := fun n => (ext_cell _ _ _ (heap_lt hM1.top)).trans (blk_cell hM1.top 0)
          have T1 := Lib.hid (place_any x1 r L' hid' F1 hR1 k)
          have T2 := Lib.hid (rplace_any x1 _ b1 _ L' hid' hM1 hq1 k)
          have T3 := Lib.hid (rank_any x1 r L' hid' F1 hR1 k)
          have T4 := Lib.hid (rrank_any x1 _ b1 _ L' hid' hM1 hq1 k)
          have T5 := Lib.hid (at_any x1 r L' hid' F1 hR1 at')
          have T6 := Lib.hid (rat_any x1 _ b1 _ L' hid' hM1 hq1 at')
          have T7 := Lib.hid (nth_any x1 r L' hid' F1 hR1 at')
          have T8 := Lib.hid (rnth_any x1 _ b1 _ L' hid' hM1 hq1 at')
          have U1 := Lib.hid (fun n => len_ext hR1 n)
          have U2 := Lib.hid (fun n => count_ext hR1 n)
          have U3 := Lib.hid (fun n => rcount_ext hM1 hq1 n)
          have hBB := Lib.hid h1.both
          clear hR1 hM1 h1 HRd c0 c1 c2 c3 hlI hnd
          go_wp2_with (first | (with_reducible refine T1.out.mono ?_; rintro e w' ⟨rfl, rfl⟩) | (with_reducible refine T2.out.mono ?_; rintro e w' ⟨rfl, rfl⟩) | (with_reducible refine T3.out.mono ?_; rintro e w' ⟨rfl, rfl⟩) | (with_reducible refine T4.out.mono ?_; rintro e w' ⟨rfl, rfl⟩) | (with_reducible refine T5.out.mono ?_; rintro e w' ⟨rfl, rfl⟩) | (with_reducible refine T6.out.mono ?_; rintro e w' ⟨rfl, rfl⟩) | (with_reducible refine T7.out.mono ?_; rintro e w' ⟨rfl, rfl⟩) | (with_reducible refine T8.out.mono ?_; rintro e w' ⟨rfl, rfl⟩))
          refine region_ext (by kernel_rfl) (by kernel_rfl) ?_
          repeat (go_big_quiet_step (first | with_reducible exact U1.out _ | with_reducible exact U2.out _ | with_reducible exact U3.out _))
          refine wpQuiet_nil ?_
          rintro _ ⟨nq, rfl⟩
          go_wp2
          go_roundw
          case rel => exact ⟨n + 1, L', hid', by go_num, by omega, by omega, by omega, hBB.out.later (ext_below _ _)⟩
          case measure => simp [intOf]; omega
      · by_cases hkd2 : kd = 2
        · subst hkd2
          go_wp2_with fail
          refine wp_let (fun x => Rd w x r w1.heap.size wr.heap.size L hid L hid 2 at' k sh) HRd.out (fun x hx => ?_)
          have hy := hx.drew
          go_region_held3 (fun w' => w'.cell? ⟨wr.heap.size, 2, none⟩ = some (.int .i64 k) ∧ w'.cell? ⟨wr.heap.size, 3, none⟩ = some (.bool sh)) (exact (Rd.keep (by with_reducible assumption)).2) (first | ((with_reducible refine (Rd.show1 (by with_reducible assumption)).mono ?_); rintro e x1 ⟨rfl, h1⟩) | ((with_reducible refine (Rd.show2 (by with_reducible assumption) hnd.out hl300).mono ?_); rintro e x1 ⟨rfl, h1⟩))
          all_goals
            obtain ⟨L', hid', hl', h1⟩ : ∃ L' hid', L'.length ≤ n + 1 ∧ Rd w x1 r w1.heap.size wr.heap.size L' hid' L' hid' 2 at' k sh := ⟨_, _, by omega, h1⟩
            obtain ⟨F1, hR1⟩ := h1.both.rope
            obtain ⟨v1, b1, hM1⟩ := h1.both.ref
            obtain ⟨aM, cM, rfl, -⟩ := item_cells hM1.row
            have hq1 : L'.length < 4294967296 := by omega
            have k1 := blk_cell h1.box 1
            have k2 := blk_cell h1.box 2
            have e0 : ∀ n, (ext x1 n).cell? ⟨w1.heap.size, 0, none⟩ = some (.slice aM L'.length cM) := fun n => (ext_cell _ _ _ (heap_lt hM1.top)).trans (blk_cell hM1.top 0)
            have T1 := Lib.hid (place_any x1 r L' hid' F1 hR1 k)
            have T2 := Lib.hid (rplace_any x1 _ b1 _ L' hid' hM1 hq1 k)
            have T3 := Lib.hid (rank_any x1 r L' hid' F1 hR1 k)
            have T4 := Lib.hid (rrank_any x1 _ b1 _ L' hid' hM1 hq1 k)
            have T5 := Lib.hid (at_any x1 r L' hid' F1 hR1 at')
            have T6 := Lib.hid (rat_any x1 _ b1 _ L' hid' hM1 hq1 at')
            have T7 := Lib.hid (nth_any x1 r L' hid' F1 hR1 at')
            have T8 := Lib.hid (rnth_any x1 _ b1 _ L' hid' hM1 hq1 at')
            have U1 := Lib.hid (fun n => len_ext hR1 n)
            have U2 := Lib.hid (fun n => count_ext hR1 n)
            have U3 := Lib.hid (fun n => rcount_ext hM1 hq1 n)
            have hBB := Lib.hid h1.both
            clear hR1 hM1 h1 HRd c0 c1 c2 c3 hlI hnd
            go_wp2_with (first | (with_reducible refine T1.out.mono ?_; rintro e w' ⟨rfl, rfl⟩) | (with_reducible refine T2.out.mono ?_; rintro e w' ⟨rfl, rfl⟩) | (with_reducible refine T3.out.mono ?_; rintro e w' ⟨rfl, rfl⟩) | (with_reducible refine T4.out.mono ?_; rintro e w' ⟨rfl, rfl⟩) | (with_reducible refine T5.out.mono ?_; rintro e w' ⟨rfl, rfl⟩) | (with_reducible refine T6.out.mono ?_; rintro e w' ⟨rfl, rfl⟩) | (with_reducible refine T7.out.mono ?_; rintro e w' ⟨rfl, rfl⟩) | (with_reducible refine T8.out.mono ?_; rintro e w' ⟨rfl, rfl⟩))
            refine region_ext (by kernel_rfl) (by kernel_rfl) ?_
            repeat (go_big_quiet_step (first | with_reducible exact U1.out _ | with_reducible exact U2.out _ | with_reducible exact U3.out _))
            refine wpQuiet_nil ?_
            rintro _ ⟨nq, rfl⟩
            go_wp2
            go_roundw
            case rel => exact ⟨n + 1, L', hid', by go_num, by omega, by omega, by omega, hBB.out.later (ext_below _ _)⟩
            case measure => simp [intOf]; omega
        · have d1 : (kd == 1) = false := by simp [hkd1]
          have d2 : (kd == 2) = false := by simp [hkd2]
          clear hkd1 hkd2
          go_wp2_with fail
          refine calls_let (fun x => Rd w x r w1.heap.size wr.heap.size L hid L hid kd at' k sh) HRd.out (fun x1 h1 => ?_)
          obtain ⟨L', hid', hl', h1⟩ : ∃ L' hid', L'.length ≤ n + 1 ∧ Rd w x1 r w1.heap.size wr.heap.size L' hid' L' hid' kd at' k sh := ⟨_, _, by omega, h1⟩
          obtain ⟨F1, hR1⟩ := h1.both.rope
          obtain ⟨v1, b1, hM1⟩ := h1.both.ref
          obtain ⟨aM, cM, rfl, -⟩ := item_cells hM1.row
          have hq1 : L'.length < 4294967296 := by omega
          have k1 := blk_cell h1.box 1
          have k2 := blk_cell h1.box 2
          have e0 : ∀ n, (ext x1 n).cell? ⟨w1.heap.size, 0, none⟩ = some (.slice aM L'.length cM) := fun n => (ext_cell _ _ _ (heap_lt hM1.top)).trans (blk_cell hM1.top 0)
          have T1 := Lib.hid (place_any x1 r L' hid' F1 hR1 k)
          have T2 := Lib.hid (rplace_any x1 _ b1 _ L' hid' hM1 hq1 k)
          have T3 := Lib.hid (rank_any x1 r L' hid' F1 hR1 k)
          have T4 := Lib.hid (rrank_any x1 _ b1 _ L' hid' hM1 hq1 k)
          have T5 := Lib.hid (at_any x1 r L' hid' F1 hR1 at')
          have T6 := Lib.hid (rat_any x1 _ b1 _ L' hid' hM1 hq1 at')
          have T7 := Lib.hid (nth_any x1 r L' hid' F1 hR1 at')
          have T8 := Lib.hid (rnth_any x1 _ b1 _ L' hid' hM1 hq1 at')
          have U1 := Lib.hid (fun n => len_ext hR1 n)
          have U2 := Lib.hid (fun n => count_ext hR1 n)
          have U3 := Lib.hid (fun n => rcount_ext hM1 hq1 n)
          have hBB := Lib.hid h1.both
          clear hR1 hM1 h1 HRd c0 c1 c2 c3 hlI hnd
          with_reducible refine T1.out.mono ?_
          rintro e w' ⟨rfl, rfl⟩
          go_wp2_with (first | (with_reducible refine T1.out.mono ?_; rintro e w' ⟨rfl, rfl⟩) | (with_reducible refine T2.out.mono ?_; rintro e w' ⟨rfl, rfl⟩) | (with_reducible refine T3.out.mono ?_; rintro e w' ⟨rfl, rfl⟩) | (with_reducible refine T4.out.mono ?_; rintro e w' ⟨rfl, rfl⟩) | (with_reducible refine T5.out.mono ?_; rintro e w' ⟨rfl, rfl⟩) | (with_reducible refine T6.out.mono ?_; rintro e w' ⟨rfl, rfl⟩) | (with_reducible refine T7.out.mono ?_; rintro e w' ⟨rfl, rfl⟩) | (with_reducible refine T8.out.mono ?_; rintro e w' ⟨rfl, rfl⟩))
          refine region_ext (by kernel_rfl) (by kernel_rfl) ?_
          repeat (go_big_quiet_step (first | with_reducible exact U1.out _ | with_reducible exact U2.out _ | with_reducible exact U3.out _))
          refine wpQuiet_nil ?_
          rintro _ ⟨nq, rfl⟩
          go_wp2
          go_roundw
          case rel => exact ⟨n + 1, L', hid', by go_num, by omega, by omega, by omega, hBB.out.later (ext_below _ _)⟩
          case measure => simp [intOf]; omega
    · have hlt : (n < A.length ∧ ¬ n < 300) ∨ ¬ n < A.length := by omega
      obtain ⟨F1, hR1⟩ := HBo.out.rope
      obtain ⟨v1, b1, hM1⟩ := HBo.out.ref
      have hAll := Lib.hid (all_any wr r L hid _ hR1)
      have HM1 := Lib.hid hM1
      have hBw := Lib.hid HBo.out.below
      clear hR1 hM1
      rcases hlt with ⟨h1, h2⟩ | h1
      all_goals
        go_wp2_with fail
        with_reducible refine hAll.out.mono ?_
        rintro e w3 ⟨v, rfl, hrow, hB3⟩
        obtain ⟨av, cv, rfl, hcell⟩ := rowForm hrow rfl
        have hAll2 := Lib.hid (rall_any w3 _ _ _ L hid (HM1.out.later hB3) (by omega))
        have HC := Lib.hid hcell
        have HB3 := Lib.hid hB3
        clear hrow hB3 hcell
        go_wp2_with fail
        with_reducible refine hAll2.out.mono ?_
        rintro e w4 ⟨v, rfl, hrow, hB4⟩
        obtain ⟨au, cu, rfl, hcell⟩ := rowForm hrow rfl
        have hSa := Lib.hid (same_self w4 av au L.length cv cu L (HC.out.below hB4) hcell rfl (by omega))
        have HB4 := Lib.hid hB4
        clear hrow hB4 hcell
        go_wp2_with fail
        with_reducible refine hSa.out.mono ?_
        rintro e w5 ⟨rfl, hB5⟩
        have HB5 := Lib.hid (hB5.mono (Nat.le_trans (Nat.le_trans hBw.out.size HB3.out.size) HB4.out.size))
        clear hB5
        go_wp2
        go_ret
        exact ⟨rfl, ((hBw.out.trans (HB3.out.mono hBw.out.size)).trans (HB4.out.mono (Nat.le_trans hBw.out.size HB3.out.size))).trans HB5.out⟩

set_option maxRecDepth 100000 in
theorem ropePlays_lifted (os : Os) (started : os.Started) (H : Type) (enc : TypeId × Value → H) :
    ReturnsInHanded {} Try.checked os 5 .any (Rows.ropePlaysSpec.pre6 enc Try.prog Try.f5 Rows.ropePlaysRow.domain false) (Rows.ropePlaysSpec.post enc Try.prog Try.f5 false true false false) := by
  refine returnsInHanded_of_change (C := Try.checked) own started (by kernel_rfl) Try.func5
    (ChangeSpec.witness6 (enc := enc) (C := Try.checked) false ⟨#[], #[.slice none 0 0], []⟩ 8 (by kernel_rfl) (by kernel_rfl) (by kernel_rfl) (by kernel_rfl)) ?_
  intro W base args ds gs before hval0 hW hcnd _
  have hval : ∀ (j : Nat) t v, Try.f5.params[j]? = some t → args[j]? = some v → Value.okWide Try.prog W .any base t v := hval0
  have hW' := hW
  obtain ⟨p, q, hA0, hV, rfl, hfz, hnd⟩ := hW
  have hA : DataW.TrodAll enc Try.prog W 0 (fun _ => true) true Try.f5.params.toList args.toList ds p := hA0
  rw [Try.params5] at hA hval
  obtain ⟨v0, vs0, d0, ds0, p0, q0, hargs, rfl, rfl, h0, r0⟩ := trodAll_cons hA
  obtain ⟨rfl, rfl, rfl⟩ := trodAll_nil r0
  obtain rfl : args = #[v0] := by cases args; simp_all
  obtain ⟨rfl, rfl⟩ := trodVars_none hV
  have lt0 : ∀ x ∈ p0, x.block < W.heap.size := by obtain ⟨m, hm⟩ := h0; exact DataW.trod_lt m _ _ _ hm
  obtain ⟨ao, cap, A, rfl, hlen, hacts⟩ := open_acts (hval 0 22 v0 rfl rfl) h0
  clear hA0 hval0
  refine (ropePlays_walk ao cap A W hlen hacts).mono fun e W' ⟨he, bel⟩ => ?_
  subst he
  exact ⟨_, rfl, _, _, _, [], _, [], hW', trodAll_mk1 (shut_bool Try.underlying4 _), (trodAll_cons_mk (Below.trod laidOut (by kernel_rfl) (of_decide_eq_true (by kernel_rfl)) h0 bel lt0) trodAll_mk0), rfl, bel.frame _, fun h => by cases h⟩

theorem ropePlays_holds : Rows.RopePlaysSaid :=
  OpenClaim.holds_of_wide 5 Try.f5 rfl rfl rfl rfl rfl rfl rfl ⟨rfl, rfl, rfl, rfl, rfl⟩ rfl rfl rfl rfl rfl (by kernel_rfl) Try.func5 (by kernel_rfl)
    (of_decide_eq_true (by kernel_rfl)) (by unfold Func.isWrapper; first | (rw [if_pos (by decide +kernel)]; kernel_rfl) | (rw [if_neg (by decide +kernel)]; exact ⟨rfl, rfl⟩))
    (fun os started H enc _ => ropePlays_lifted os started H enc)

end Go.Proofs.Ytfmmgijffneodaa
