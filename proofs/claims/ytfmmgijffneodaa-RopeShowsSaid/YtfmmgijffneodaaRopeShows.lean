/- THE LAW RopeShows. -/
import Derived.Test.YtfmmgijffneodaaSame
import Derived.ProofKit
import Derived.OpenShut
import Derived.ShutString
import Derived.ChangeOld
import Derived.Below
namespace Go.Proofs.Ytfmmgijffneodaa
open Go.ChangeShapes Go.WideShapes Go.ChangeAt Go.RowKit
open Go.ChangeMaps (open_string shut_string)
set_option linter.unusedVariables false
set_option linter.unusedSimpArgs false

open Go.Joins
def wasL (L : List Int) (hid : Int → Bool) (q : Nat) : List Int := (List.range q).map fun j => (cnt hid (L.take j) : Int)
theorem wasL_length (L : List Int) (hid : Int → Bool) (q : Nat) : (wasL L hid q).length = q := by simp [wasL]
theorem wasL_succ (L : List Int) (hid : Int → Bool) (q : Nat) : wasL L hid (q + 1) = wasL L hid q ++ [(cnt hid (L.take q) : Int)] := by simp [wasL, List.range_succ]
theorem wasL_at (L : List Int) (hid : Int → Bool) {n q : Nat} (h : q < (wasL L hid n).length) : (wasL L hid n)[q] = (cnt hid (L.take q) : Int) := by simp [wasL]
theorem mem_take_idx {L : List Int} {k : Int} (hk : k ∈ L) (q : Nat) : k ∈ L.take q ↔ L.idxOf k < q := by
  have hlt := List.idxOf_lt_length_iff.2 hk
  constructor
  · intro h
    obtain ⟨m, hm, e⟩ := List.mem_take_iff_getElem.1 h
    refine Classical.byContradiction fun hc => ?_
    have hm2 : m < L.idxOf k := by omega
    exact idx_not (by omega) hm2 e
  · intro h
    exact List.mem_take_iff_getElem.2 ⟨L.idxOf k, by omega, List.getElem_idxOf hlt⟩
theorem cnt_hide {L : List Int} (hn : L.Nodup) {hid : Int → Bool} {k : Int} (hk : k ∈ L) (h : hid k = false) (q : Nat) :
    cnt hid (L.take q) = cnt (setH hid k true) (L.take q) + if L.idxOf k < q then 1 else 0 := by
  by_cases hm : k ∈ L.take q
  · rw [if_pos ((mem_take_idx hk q).1 hm)]
    have := cnt_set (hid := hid) (b := true) (hn.sublist (List.take_sublist q L)) hm
    rw [h] at this
    simp at this
    omega
  · rw [if_neg (fun e => hm ((mem_take_idx hk q).2 e)), cnt_other hm]; rfl
theorem rowInts {w w' : World} {base : Nat} {F : Nat → Prop} {v : Value} {L : List Int} (h : w.ownsRow base 3 1 v L.length (ints L)) (c : Ch F w w') (hF : ∀ x, F x → x < base) : w'.ownsRow base 3 1 v L.length (ints L) :=
  own_ch h c (fun b hb hf => by have := (h.lt b hb).1; have := hF b hf; omega)
theorem new_cells (w : World) (u : Value) (t : TypeId) : ∀ (j : Nat) (x : Value), [u][j]? = some x → (w.alloc (.cells #[u] t)).cell? ((⟨w.heap.size, 0, none⟩ : Addr).add j) = some x := by
  intro j x hj
  match j, hj with
  | 0, hj =>
    rw [Addr.add_lit, blk_cell (blk_new _ _)]
    exact hj
theorem row_form' {w : World} {base : Nat} {v : Value} {M : List Int} {n : Nat} (h : w.ownsRow base 3 1 v n (ints M)) (hn : M.length = n) : ∃ ao cap, v = .slice ao n cap ∧ IntsAt w ao M := by
  subst hn
  exact row_form h
theorem row_at {w : World} {base : Nat} {ao : Option Addr} {n cap : Nat} {M : List Int} (h : w.ownsRow base 3 1 (.slice ao n cap) n (ints M)) (hn : M.length = n) : IntsAt w ao M := by
  obtain ⟨ao', cap', e, hM⟩ := row_form' h hn
  cases e
  exact hM
set_option maxHeartbeats 8000000 in
set_option maxRecDepth 20000 in
theorem ropeShows_walk (ao : Option Addr) (cap : Nat) (A : List ActG) (k : Int) (w : World) (hlen : A.length ≤ maxLen) (hA : ActsAt w ao A) :
    Calls Try.prog 4 #[.slice ao A.length cap, .int .i64 k] w fun e w' => e = .returned (.bool true) ∧ Below w.heap.size w w' := by
  obtain ⟨i0, hi, hz0, hz1, hz2⟩ := info_parts Slot.infoInt
  have HN := Lib.hid (new_any w)
  have HA := Lib.hid hA
  unfold maxLen at hlen
  clear hA
  go_enter Try.func4, Try.ntmps4
  go_wp2_with fail
  with_reducible refine HN.out.mono ?_
  rintro e w1 ⟨r, rfl, hR, hB⟩
  have H := Lib.hid (alive_any w1)
  have HR := Lib.hid hR
  have HB := Lib.hid hB
  clear hR hB
  go_wp2_with fail
  with_reducible refine H.out.mono ?_
  rintro e w2 ⟨rfl, hb⟩
  have HR := Lib.hid (start_of HR.out hb)
  have HB := Lib.hid (HB.out.trans (hb.mono HB.out.size))
  clear hb H
  go_wp2
  go_loopw [6] (fun i w' => ∃ (k : Nat) (L : List Int) (hid : Int → Bool), i = .int .i64 k ∧ k ≤ A.length ∧ k ≤ 300 ∧ L.length ≤ k ∧ Rope w' r L hid (fun x => w.heap.size ≤ x) ∧ Below w.heap.size w w') (fun i _ => 301 - (intOf i).toNat)
  case atStart => exact ⟨0, [], noH, rfl, by omega, by omega, by simp, HR.out, HB.out⟩
  case round =>
    obtain ⟨n, L, hid, rfl, hk1, hk2, hkL, hR, hB⟩ := hrel
    have HR := Lib.hid hR
    have HB := Lib.hid hB
    clear hR hB
    by_cases hk : n < A.length ∧ n < 300
    · obtain ⟨hk, h3⟩ := hk
      obtain ⟨b, off, rfl, c0, c1, c2, c3, hbw⟩ := HA.out.below HB.out n hk
      by_cases hkd : A[n].kd = 1
      · go_wp2_with fail
        with_reducible refine (insert_any _ r L hid _ (HR.out.alloc _) (by omega) A[n].at' A[n].k A[n].sh).mono ?_
        intro e w3 h
        obtain ⟨rfl, hR3, hB3⟩ := ins_step (below_alloc HB.out _) h
        have HR3 := Lib.hid hR3
        have HB3 := Lib.hid hB3
        have hl3 := insL_length L A[n].at' A[n].k
        clear h hR3 hB3
        go_wp2
        go_roundw
        case rel => exact ⟨n + 1, _, _, by go_num, by omega, by omega, by omega, HR3.out, HB3.out⟩
        case measure => simp [intOf]; omega
      · go_wp2
        go_roundw
        case rel => exact ⟨n + 1, L, hid, by go_num, by omega, by omega, by omega, HR.out.alloc _, below_alloc HB.out _⟩
        case measure => simp [intOf]; omega
    · have hlt : (n < A.length ∧ ¬ n < 300) ∨ ¬ n < A.length := by omega
      have hP := Lib.hid (place_any wr r L hid _ HR.out k)
      rcases hlt with ⟨h1, h2⟩ | h1
      all_goals
        go_wp2_with fail
        with_reducible refine hP.out.mono ?_
        rintro e w' ⟨rfl, rfl⟩
        have hS := Lib.hid (show_any wr r L hid _ HR.out k true)
        by_cases hkm : k ∈ L
        · have hi1 : itemE L k = 0 := by unfold itemE; rw [if_pos hkm]
          have hpl : placeV L k = (L.idxOf k : Nat) := by unfold placeV; rw [if_pos hkm]
          rw [hi1, hpl]
          clear hi1 hpl
          go_wp2_with fail
          with_reducible refine hS.out.mono ?_
          intro e wa h
          obtain ⟨rfl, hRa, hBa⟩ := show_step HB.out h
          have hAll := Lib.hid (all_any wa r L _ _ hRa)
          have HRa := Lib.hid hRa
          have HBa := Lib.hid hBa
          clear h hRa hBa
          go_wp2_with fail
          with_reducible refine hAll.out.mono ?_
          intro e w3 h
          have hsz : wa.heap.size ≤ w3.heap.size := by obtain ⟨_, _, _, hb⟩ := h; exact hb.size
          obtain ⟨v, rfl, hrow, hR3, hB3⟩ := all_step HRa.out HBa.out h
          obtain ⟨av, cv, rfl, hcell⟩ := row_form' hrow rfl
          have HROW := Lib.hid hrow
          have HC := Lib.hid hcell
          have hf : showH L hid k true k = false := by simp [showH, hkm, setH]
          generalize showH L hid k true = g at *
          have hnd := hR3.nodup
          have HR3 := Lib.hid hR3
          have HB3 := Lib.hid hB3
          clear h hR3 hB3 hrow hcell hAll hS hP
          go_wp2
          go_loopw [11, 12] (fun v i w' => ∃ q : Nat, q ≤ L.length ∧ i = .int .i64 q ∧ w'.ownsRow w3.heap.size 3 1 v q (ints (wasL L g q)) ∧ Below w3.heap.size w3 w') (fun _ i _ => L.length - (intOf i).toNat)
          case atStart => exact ⟨0, by omega, rfl, World.ownsRow_nil _ _ _ _, Below.refl _ _⟩
          case round =>
            obtain ⟨q, hq, rfl, hown, hbel⟩ := hrel
            have hRw := HR3.out.later hbel
            by_cases hql : q < L.length
            · obtain ⟨B, rfl, hc⟩ := HC.out.below hbel q hql
              have Rk := rank_any wr r L g _ hRw L[q]
              rw [rankV_at hnd g hql, itemE_at hql] at Rk
              have Rk := Lib.hid Rk
              have HO := Lib.hid hown
              have HBL := Lib.hid hbel
              have hcl : cnt g (L.take q) ≤ q := Nat.le_trans (cnt_le _ _) (by simp; omega)
              clear hown hbel hRw
              go_wp2_with (first | (with_reducible refine Rk.out.mono ?_; rintro e w' ⟨rfl, rfl⟩) | (at_builtin; refine wpList_append_own _ rfl (.tmp 86) (.tmp 88) 31 rfl w3.heap.size 3 i0 (.int .i64 0) 1 8 Try.underlying31 hi hz0 hz1 hz2 rfl (by decide) u11 _ _ rfl (HO.out.alloc _) ⟨wr.heap.size, 0, none⟩ 1 1 [.int .i64 (cnt g (L.take q) : Nat)] rfl rfl (new_cells _ _ _) (fun u hu => by simp at hu; subst hu; rfl) (by unfold maxLen; omega) (by omega) ((below_alloc HBL.out _).size) ?_; intro v1 wb hown1 hgrow1 _))
              go_roundw
              case rel => exact ⟨q + 1, by omega, by go_num, by rw [wasL_succ, ints_append]; exact hown1, (below_alloc HBL.out _).grown hgrow1 (below_alloc HBL.out _).size (fun x hx => (HO.out.lt x hx).1)⟩
              case measure => simp [intOf]; omega
            · obtain rfl : q = L.length := by omega
              have hS2 := Lib.hid (show_any wr r L g _ hRw k false)
              have HO := Lib.hid hown
              have HBL := Lib.hid hbel
              clear hown hbel hRw
              go_wp2_with fail
              with_reducible refine hS2.out.mono ?_
              intro e w5 h
              obtain ⟨rfl, hR5, hc5⟩ := h
              have hg2 : showH L g k false = setH g k true := by unfold showH; rw [if_pos hkm]; rfl
              rw [hg2] at hR5
              have hl5 := row_at (rowInts (own_ch HROW.out (Ch.of_below (F := fun _ => False) HBL.out) (fun _ _ e => e)) hc5 (fun x hx => hx.2)) rfl
              have hO5 : w5.ownsRow w3.heap.size 3 1 u11 L.length (ints (wasL L g L.length)) := own_ch HO.out hc5 (fun b hb hf => by have := (HO.out.lt b hb).1; have := hf.2; omega)
              obtain ⟨aw, cw, rfl, hw5⟩ := row_form' hO5 (wasL_length _ _ _)
              have hB5 : Below w.heap.size w w5 := (HB3.out.trans (HBL.out.mono HB3.out.size)).trans (hc5.below (HB3.out.trans (HBL.out.mono HB3.out.size)).size (fun x hx hf => by have := hf.1; omega))
              have HR5 := Lib.hid hR5
              have HL5 := Lib.hid hl5
              have HW5 := Lib.hid hw5
              have HO5 := Lib.hid hO5
              have HB5 := Lib.hid hB5
              have HRW5 := Lib.hid (rowInts (own_ch HROW.out (Ch.of_below (F := fun _ => False) HBL.out) (fun _ _ e => e)) hc5 (fun x hx => hx.2))
              clear hR5 hc5 hl5 hw5 hO5 hB5 hS2
              go_wp2
              go_loop [15] (fun i => ∃ q : Nat, q ≤ L.length ∧ i = .int .i64 q) (fun i => L.length - (intOf i).toNat)
              case atStart => exact ⟨0, by omega, rfl⟩
              case round =>
                obtain ⟨q, hq, rfl⟩ := hrel
                by_cases hql : q < L.length
                · obtain ⟨B, rfl, hc⟩ := HL5.out q hql
                  obtain ⟨B2, rfl, hc2⟩ := HW5.out q (by rw [wasL_length]; exact hql)
                  rw [wasL_at, cnt_hide hnd hkm hf q] at hc2
                  have Rk := rank_any w5 r L _ _ HR5.out L[q]
                  rw [rankV_at hnd _ hql, itemE_at hql] at Rk
                  have hcl : cnt (setH g k true) (L.take q) ≤ q := Nat.le_trans (cnt_le _ _) (by simp; omega)
                  generalize cnt (setH g k true) (L.take q) = c at *
                  have Rk := Lib.hid Rk
                  by_cases hgt : L.idxOf k < q
                  · rw [if_pos hgt] at hc2
                    go_wp2_with (with_reducible refine Rk.out.mono ?_; rintro e w' ⟨rfl, rfl⟩)
                    go_round
                    case rel => exact ⟨q + 1, hql, by go_num⟩
                    case measure => simp [intOf]; omega
                  · rw [if_neg hgt, Nat.add_zero] at hc2
                    go_wp2_with (with_reducible refine Rk.out.mono ?_; rintro e w' ⟨rfl, rfl⟩)
                    go_round
                    case rel => exact ⟨q + 1, hql, by go_num⟩
                    case measure => simp [intOf]; omega
                · have hS3 := Lib.hid (show_any w5 r L _ _ HR5.out k true)
                  go_wp2_with fail
                  with_reducible refine hS3.out.mono ?_
                  intro e w6 h
                  obtain ⟨rfl, hR6, hc6⟩ := h
                  have hg3 : showH L (setH g k true) k true = g := by
                    unfold showH
                    rw [if_pos hkm, setH_twice]
                    exact setH_same hf
                  rw [hg3] at hR6
                  have hl6 := row_at (rowInts HRW5.out hc6 (fun x hx => hx.2)) rfl
                  have hw6 := row_at (own_ch HO5.out hc6 (fun b hb hf => by have := (HO5.out.lt b hb).1; have := hf.2; omega)) (wasL_length _ _ _)
                  have HR6 := Lib.hid hR6
                  have HL6 := Lib.hid hl6
                  have HW6 := Lib.hid hw6
                  have HB6 := Lib.hid (Ch.deep HB5.out hc6 (fun x hx => hx.1))
                  clear hR6 hl6 hw6 hc6 hS3
                  go_wp2
                  go_loop [19] (fun i => ∃ q : Nat, q ≤ L.length ∧ i = .int .i64 q) (fun i => L.length - (intOf i).toNat)
                  case atStart => exact ⟨0, by omega, rfl⟩
                  case round =>
                    obtain ⟨q, hq, rfl⟩ := hrel
                    by_cases hql : q < L.length
                    · obtain ⟨B, rfl, hc⟩ := HL6.out q hql
                      obtain ⟨B2, rfl, hc2⟩ := HW6.out q (by rw [wasL_length]; exact hql)
                      rw [wasL_at] at hc2
                      have Rk := rank_any w6 r L _ _ HR6.out L[q]
                      rw [rankV_at hnd _ hql, itemE_at hql] at Rk
                      have Rk := Lib.hid Rk
                      go_wp2_with (with_reducible refine Rk.out.mono ?_; rintro e w' ⟨rfl, rfl⟩)
                      go_round
                      case rel => exact ⟨q + 1, hql, by go_num⟩
                      case measure => simp [intOf]; omega
                    · go_wp2
                      go_ret
                      exact ⟨rfl, HB6.out⟩
        · have hi1 : itemE L k = 111 := by unfold itemE; rw [if_neg hkm]
          rw [hi1] at hS ⊢
          clear hi1
          go_wp2_with fail
          with_reducible refine hS.out.mono ?_
          intro e wa h
          obtain ⟨rfl, hRa, hBa⟩ := show_step HB.out h
          have HBa := Lib.hid hBa
          clear h hRa hBa
          go_wp2
          go_ret
          exact ⟨rfl, HBa.out⟩

set_option maxRecDepth 100000 in
theorem ropeShows_lifted (os : Os) (started : os.Started) (H : Type) (enc : TypeId × Value → H) :
    ReturnsInHanded {} Try.checked os 4 .any (Rows.ropeShowsSpec.pre6 enc Try.prog Try.f4 Rows.ropeShowsRow.domain false) (Rows.ropeShowsSpec.post enc Try.prog Try.f4 false true false false) := by
  refine returnsInHanded_of_change (C := Try.checked) own started (by kernel_rfl) Try.func4
    (ChangeSpec.witness6 (enc := enc) (C := Try.checked) false ⟨#[], #[.slice none 0 0, .int .i64 0], []⟩ 8 (by kernel_rfl) (by kernel_rfl) (by kernel_rfl) (by kernel_rfl)) ?_
  intro W base args ds gs before hval0 hW hcnd _
  have hval : ∀ (j : Nat) t v, Try.f4.params[j]? = some t → args[j]? = some v → Value.okWide Try.prog W .any base t v := hval0
  have hW' := hW
  obtain ⟨p, q, hA0, hV, rfl, hfz, hnd⟩ := hW
  have hA : DataW.TrodAll enc Try.prog W 0 (fun _ => true) true Try.f4.params.toList args.toList ds p := hA0
  rw [Try.params4] at hA hval
  obtain ⟨v0, vs0, d0, ds0, p0, q0, hargs, rfl, rfl, h0, r0⟩ := trodAll_cons hA
  obtain ⟨v1, vs1, d1, ds1, p1, q1, rfl, rfl, rfl, h1, r1⟩ := trodAll_cons r0
  obtain ⟨rfl, rfl, rfl⟩ := trodAll_nil r1
  obtain rfl : args = #[v0, v1] := by cases args; simp_all
  obtain ⟨rfl, rfl⟩ := trodVars_none hV
  have lt0 : ∀ x ∈ p0, x.block < W.heap.size := by obtain ⟨m, hm⟩ := h0; exact DataW.trod_lt m _ _ _ hm
  have lt1 : ∀ x ∈ p1, x.block < W.heap.size := by obtain ⟨m, hm⟩ := h1; exact DataW.trod_lt m _ _ _ hm
  obtain ⟨ao, cap, A, rfl, hlen, hacts⟩ := open_acts (hval 0 22 v0 rfl rfl) h0
  obtain ⟨a1, rfl, rfl, rfl, _⟩ := open_int Try.underlying3 (hval 1 3 v1 rfl rfl) h1
  clear hA0 hval0
  refine (ropeShows_walk ao cap A a1 W hlen hacts).mono fun e W' ⟨he, bel⟩ => ?_
  subst he
  exact ⟨_, rfl, _, _, _, [], _, [], hW', trodAll_mk1 (shut_bool Try.underlying4 _), (trodAll_cons_mk (Below.trod laidOut (by kernel_rfl) (of_decide_eq_true (by kernel_rfl)) h0 bel lt0) (trodAll_cons_mk (Below.trod laidOut (by kernel_rfl) (of_decide_eq_true (by kernel_rfl)) h1 bel lt1) trodAll_mk0)), rfl, bel.frame _, fun h => by cases h⟩

theorem ropeShows_holds : Rows.RopeShowsSaid :=
  OpenClaim.holds_of_wide 4 Try.f4 rfl rfl rfl rfl rfl rfl rfl ⟨rfl, rfl, rfl, rfl, rfl⟩ rfl rfl rfl rfl rfl (by kernel_rfl) Try.func4 (by kernel_rfl)
    (of_decide_eq_true (by kernel_rfl)) (by unfold Func.isWrapper; first | (rw [if_pos (by decide +kernel)]; kernel_rfl) | (rw [if_neg (by decide +kernel)]; exact ⟨rfl, rfl⟩))
    (fun os started H enc _ => ropeShows_lifted os started H enc)

end Go.Proofs.Ytfmmgijffneodaa
