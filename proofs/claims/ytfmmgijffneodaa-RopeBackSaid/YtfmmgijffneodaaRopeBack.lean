/- THE LAW RopeBack. -/
import Derived.Test.YtfmmgijffneodaaRopeScript
import Derived.Deep.DeepCutAuto
import Derived.ProofKit
import Derived.OpenShut
import Derived.ShutString
import Derived.ChangeOld
import Derived.Below
namespace Go.Proofs.Ytfmmgijffneodaa
open Go.ChangeShapes Go.WideShapes Go.ChangeAt Go.RowKit
open Go.ChangeMaps (open_string shut_string)
set_option linter.unusedVariables false
set_option linter.unusedSimpArgs false

open Go.Joins
set_option maxHeartbeats 4000000 in
set_option maxRecDepth 20000 in
theorem ropeBack_walk (ao : Option Addr) (cap : Nat) (A : List ActG) (w : World) (hlen : A.length ≤ maxLen) (hA : ActsAt w ao A) :
    Calls Try.prog 6 #[.slice ao A.length cap] w fun e w' => e = .returned (.bool true) ∧ Below w.heap.size w w' := by
  have HN := Lib.hid (new_any w)
  have HA := Lib.hid hA
  unfold maxLen at hlen
  clear hA
  go_enter Try.func6, Try.ntmps6
  go_wp2_with fail
  with_reducible refine HN.out.mono ?_
  rintro e w1 ⟨r, rfl, hR, hB⟩
  have H := Lib.hid (alive_any w1)
  have HR := Lib.hid hR
  have HB := Lib.hid hB
  clear hR hB
  go_wp2_with fail
  with_reducible refine H.out.mono ?_
  rintro e w2 ⟨rfl, hb⟩
  have HR := Lib.hid (start_of HR.out hb)
  have HB := Lib.hid (HB.out.trans (hb.mono HB.out.size))
  clear hb H
  go_wp2
  go_loopw [4] (fun i w' => ∃ (k : Nat) (L : List Int) (hid : Int → Bool), i = .int .i64 k ∧ k ≤ A.length ∧ k ≤ 300 ∧ L.length ≤ k ∧ Rope w' r L hid (fun x => w.heap.size ≤ x) ∧ Below w.heap.size w w') (fun i _ => 301 - (intOf i).toNat)
  case atStart => exact ⟨0, [], noH, rfl, by omega, by omega, by simp, HR.out, HB.out⟩
  case round =>
    obtain ⟨k, L, hid, rfl, hk1, hk2, hkL, hR, hB⟩ := hrel
    have HR := Lib.hid hR
    have HB := Lib.hid hB
    clear hR hB
    by_cases hk : k < A.length ∧ k < 300
    · obtain ⟨hk, h3⟩ := hk
      obtain ⟨b, off, rfl, c0, c1, c2, c3, hbw⟩ := HA.out.below HB.out k hk
      by_cases hkd : A[k].kd = 1
      · go_wp2_with fail
        with_reducible refine (insert_any _ r L hid _ (HR.out.alloc _) (by omega) A[k].at' A[k].k A[k].sh).mono ?_
        intro e w3 h
        obtain ⟨rfl, hR3, hB3⟩ := ins_step (below_alloc HB.out _) h
        have HR3 := Lib.hid hR3
        have HB3 := Lib.hid hB3
        have hl3 := insL_length L A[k].at' A[k].k
        clear h hR3 hB3
        go_wp2
        go_roundw
        case rel => exact ⟨k + 1, _, _, by go_num, by omega, by omega, by omega, HR3.out, HB3.out⟩
        case measure => simp [intOf]; omega
      · go_wp2_with fail
        with_reducible refine (show_any _ r L hid _ (HR.out.alloc _) A[k].k A[k].sh).mono ?_
        intro e w3 h
        obtain ⟨rfl, hR3, hB3⟩ := show_step (below_alloc HB.out _) h
        have HR3 := Lib.hid hR3
        have HB3 := Lib.hid hB3
        clear h hR3 hB3
        go_wp2
        go_roundw
        case rel => exact ⟨k + 1, _, _, by go_num, by omega, by omega, by omega, HR3.out, HB3.out⟩
        case measure => simp [intOf]; omega
    · have hlt : (k < A.length ∧ ¬ k < 300) ∨ ¬ k < A.length := by omega
      have hAll := Lib.hid (all_any wr r L hid _ HR.out)
      rcases hlt with ⟨h1, h2⟩ | h1
      all_goals
        go_wp2_with fail
        with_reducible refine hAll.out.mono ?_
        intro e w3 h
        obtain ⟨v, rfl, hrow, hR3, hB3⟩ := all_step HR.out HB.out h
        obtain ⟨av, cv, rfl, hcell⟩ := row_form hrow
        have HL := Lib.hid (len_any w3 r L hid _ hR3)
        have HCo := Lib.hid (count_any w3 r L hid _ hR3)
        have HC := Lib.hid hcell
        have HR3 := Lib.hid hR3
        have HB3 := Lib.hid hB3
        clear h hR3 hB3 hrow hcell
        go_wp2_with (with_reducible refine HL.out.mono ?_; rintro e w' ⟨rfl, rfl⟩)
        have hnd := HR3.out.nodup
        clear hAll HL
        go_loop [7, 8] (fun n i => ∃ q : Nat, q ≤ L.length ∧ i = .int .i64 q ∧ n = .int .i64 (cnt hid (L.take q))) (fun _ i => L.length - (intOf i).toNat)
        case atStart => exact ⟨0, by omega, rfl, rfl⟩
        case round =>
          obtain ⟨q, hq, rfl, rfl⟩ := hrel
          by_cases hql : q < L.length
          · obtain ⟨B, rfl, hcq⟩ := HC.out q hql
            have P := place_any w3 r L hid _ HR3.out L[q]
            have Rk := rank_any w3 r L hid _ HR3.out L[q]
            have At := at_any w3 r L hid _ HR3.out q
            have Nt := nth_any w3 r L hid _ HR3.out (cnt hid (L.take q))
            rw [placeV_at hnd hql, itemE_at hql] at P
            rw [rankV_at hnd hid hql, itemE_at hql] at Rk
            rw [atV_at hql, atE_at hql] at At
            have P := Lib.hid P
            have Rk := Lib.hid Rk
            have At := Lib.hid At
            have hsuc := cnt_take_succ L hid hql
            have hcl : cnt hid (L.take q) ≤ q := Nat.le_trans (cnt_le _ _) (by simp; omega)
            by_cases hh : hid L[q] = true
            · have hnh := nth_hidden L hid hql hh (cnt hid (L.take q))
              rw [if_pos hh] at hsuc
              have Nt := Lib.hid Nt
              have HS := Lib.hid hsuc
              have HH := Lib.hid hh
              clear hsuc hh
              by_cases hz : nthE L hid (cnt hid (L.take q)) = 0
              · have hne := hnh hz
                clear hnh
                go_wp2_with (first | (with_reducible refine P.out.mono ?_; rintro e w' ⟨rfl, rfl⟩) | (with_reducible refine Rk.out.mono ?_; rintro e w' ⟨rfl, rfl⟩) | (with_reducible refine At.out.mono ?_; rintro e w' ⟨rfl, rfl⟩) | (with_reducible refine Nt.out.mono ?_; rintro e w' ⟨rfl, rfl⟩))
                go_round
                case rel => exact ⟨q + 1, hql, by go_num, by rw [HS.out]; rfl⟩
                case measure => simp [intOf]; omega
              · clear hnh
                go_wp2_with (first | (with_reducible refine P.out.mono ?_; rintro e w' ⟨rfl, rfl⟩) | (with_reducible refine Rk.out.mono ?_; rintro e w' ⟨rfl, rfl⟩) | (with_reducible refine At.out.mono ?_; rintro e w' ⟨rfl, rfl⟩) | (with_reducible refine Nt.out.mono ?_; rintro e w' ⟨rfl, rfl⟩))
                go_round
                case rel => exact ⟨q + 1, hql, by go_num, by rw [HS.out]; rfl⟩
                case measure => simp [intOf]; omega
            · have hf : hid L[q] = false := by simpa using hh
              obtain ⟨n1, n2⟩ := nth_shown L hid hql hf
              rw [n1, n2] at Nt
              rw [if_neg hh] at hsuc
              have Nt := Lib.hid Nt
              have HS := Lib.hid hsuc
              have HH := Lib.hid hh
              clear hsuc hh hf n1 n2
              go_wp2_with (first | (with_reducible refine P.out.mono ?_; rintro e w' ⟨rfl, rfl⟩) | (with_reducible refine Rk.out.mono ?_; rintro e w' ⟨rfl, rfl⟩) | (with_reducible refine At.out.mono ?_; rintro e w' ⟨rfl, rfl⟩) | (with_reducible refine Nt.out.mono ?_; rintro e w' ⟨rfl, rfl⟩))
              go_round
              case rel => exact ⟨q + 1, hql, by go_num, by rw [HS.out]; go_num⟩
              case measure => simp [intOf]; omega
          · have hqe : q = L.length := by omega
            subst hqe
            go_wp2_with (with_reducible refine HCo.out.mono ?_; rintro e w' ⟨rfl, rfl⟩)
            go_ret
            exact ⟨by simp, HB3.out⟩

set_option maxRecDepth 100000 in
theorem ropeBack_lifted (os : Os) (started : os.Started) (H : Type) (enc : TypeId × Value → H) :
    ReturnsInHanded {} Try.checked os 6 .any (Rows.ropeBackSpec.pre6 enc Try.prog Try.f6 Rows.ropeBackRow.domain false) (Rows.ropeBackSpec.post enc Try.prog Try.f6 false true false false) := by
  refine returnsInHanded_of_change (C := Try.checked) own started (by kernel_rfl) Try.func6
    (ChangeSpec.witness6 (enc := enc) (C := Try.checked) false ⟨#[], #[.slice none 0 0], []⟩ 8 (by kernel_rfl) (by kernel_rfl) (by kernel_rfl) (by kernel_rfl)) ?_
  intro W base args ds gs before hval0 hW hcnd _
  have hval : ∀ (j : Nat) t v, Try.f6.params[j]? = some t → args[j]? = some v → Value.okWide Try.prog W .any base t v := hval0
  have hW' := hW
  obtain ⟨p, q, hA0, hV, rfl, hfz, hnd⟩ := hW
  have hA : DataW.TrodAll enc Try.prog W 0 (fun _ => true) true Try.f6.params.toList args.toList ds p := hA0
  rw [Try.params6] at hA hval
  obtain ⟨v0, vs0, d0, ds0, p0, q0, hargs, rfl, rfl, h0, r0⟩ := trodAll_cons hA
  obtain ⟨rfl, rfl, rfl⟩ := trodAll_nil r0
  obtain rfl : args = #[v0] := by cases args; simp_all
  obtain ⟨rfl, rfl⟩ := trodVars_none hV
  have lt0 : ∀ x ∈ p0, x.block < W.heap.size := by obtain ⟨m, hm⟩ := h0; exact DataW.trod_lt m _ _ _ hm
  obtain ⟨ao, cap, A, rfl, hlen, hacts⟩ := open_acts (hval 0 22 v0 rfl rfl) h0
  clear hA0 hval0
  refine (ropeBack_walk ao cap A W hlen hacts).mono fun e W' ⟨he, bel⟩ => ?_
  subst he
  exact ⟨_, rfl, _, _, _, [], _, [], hW', trodAll_mk1 (shut_bool Try.underlying4 _), (trodAll_cons_mk (Below.trod laidOut (by kernel_rfl) (of_decide_eq_true (by kernel_rfl)) h0 bel lt0) trodAll_mk0), rfl, bel.frame _, fun h => by cases h⟩

theorem ropeBack_holds : Rows.RopeBackSaid :=
  OpenClaim.holds_of_wide 6 Try.f6 rfl rfl rfl rfl rfl rfl rfl ⟨rfl, rfl, rfl, rfl, rfl⟩ rfl rfl rfl rfl rfl (by kernel_rfl) Try.func6 (by kernel_rfl)
    (of_decide_eq_true (by kernel_rfl)) (by unfold Func.isWrapper; first | (rw [if_pos (by decide +kernel)]; kernel_rfl) | (rw [if_neg (by decide +kernel)]; exact ⟨rfl, rfl⟩))
    (fun os started H enc _ => ropeBack_lifted os started H enc)

end Go.Proofs.Ytfmmgijffneodaa
