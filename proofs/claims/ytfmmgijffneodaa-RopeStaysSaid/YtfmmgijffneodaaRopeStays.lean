/- THE LAW RopeStays. -/
import Derived.Test.YtfmmgijffneodaaAppend
import Derived.Lib.SmallJoins
import Derived.ProofKit
import Derived.OpenShut
import Derived.ShutString
import Derived.ChangeOld
import Derived.Below
namespace Go.Proofs.Ytfmmgijffneodaa
open Go.ChangeShapes Go.WideShapes Go.ChangeAt Go.RowKit
open Go.ChangeMaps (open_string shut_string)
set_option linter.unusedVariables false
set_option linter.unusedSimpArgs false

open Go.Joins
theorem open_act {H : Type} {enc : TypeId × Value → H} {w : World} {spare : Nat → Bool} {held : Bool} {v : Value} {d : DataW H} {ps : List MemPlace} {r : Reach} {b0 : Nat}
    (hval : Value.okWide Try.prog w r b0 24 v) (hd : DataW.Trod enc Try.prog w 0 spare held 24 v d ps) : ∃ g : ActG, v = g.val := by
  obtain ⟨v0, v1, v2, v3, y0, y1, y2, y3, n, rfl, -, -, h0, h1, h2, h3⟩ := open_agg4 Try.underlying24 (by kernel_rfl) (by kernel_rfl) hval hd
  obtain ⟨n0, e0, -, -⟩ := DataW.trod_int Try.underlying3 h0
  obtain ⟨n1, e1, -, -⟩ := DataW.trod_int Try.underlying3 h1
  obtain ⟨n2, e2, -, -⟩ := DataW.trod_int Try.underlying3 h2
  obtain ⟨b3, e3, -⟩ := DataW.trod_bool Try.underlying4 h3
  cases e0; cases e1; cases e2; cases e3
  exact ⟨⟨n0, n1, n2, b3⟩, rfl⟩
set_option maxHeartbeats 8000000 in
set_option maxRecDepth 20000 in
theorem ropeStays_walk (ao : Option Addr) (cap : Nat) (A : List ActG) (kd at' k : Int) (sh : Bool) (w : World) (hlen : A.length ≤ maxLen) (hA : ActsAt w ao A) :
    Calls Try.prog 3 #[.slice ao A.length cap, .agg #[.int .i64 kd, .int .i64 at', .int .i64 k, .bool sh]] w fun e w' => e = .returned (.bool true) ∧ Below w.heap.size w w' := by
  obtain ⟨i0, hi, hz0, hz1, hz2⟩ := info_parts Slot.infoInt
  have HN := Lib.hid (new_any (w.alloc (.cells #[.int .i64 kd, .int .i64 at', .int .i64 k, .bool sh] 24)))
  have HA := Lib.hid hA
  unfold maxLen at hlen
  clear hA
  go_enter Try.func3, Try.ntmps3
  go_wp2_with fail
  with_reducible refine HN.out.mono ?_
  rintro e w1 ⟨r, rfl, hR, hB⟩
  have H := Lib.hid (alive_any w1)
  have HR := Lib.hid hR
  have HB : Below w.heap.size w w1 := (below_alloc (Below.refl _ _) _).trans (hB.mono (by simp))
  have HB := Lib.hid HB
  clear hR hB
  go_wp2_with fail
  with_reducible refine H.out.mono ?_
  rintro e w2 ⟨rfl, hb⟩
  have HR := Lib.hid ((start_of HR.out hb).mono (F' := fun x => w.heap.size ≤ x) (fun x hx => by simp at hx; omega))
  have HB := Lib.hid (HB.out.trans (hb.mono HB.out.size))
  clear hb H
  go_wp2
  go_loopw [9] (fun i w' => ∃ (k : Nat) (L : List Int) (hid : Int → Bool), i = .int .i64 k ∧ k ≤ A.length ∧ k ≤ 300 ∧ L.length ≤ k ∧ Rope w' r L hid (fun x => w.heap.size ≤ x) ∧ Below w.heap.size w w') (fun i _ => 301 - (intOf i).toNat)
  case atStart => exact ⟨0, [], noH, rfl, by omega, by omega, by simp, HR.out, HB.out⟩
  case round =>
    obtain ⟨n, L, hid, rfl, hk1, hk2, hkL, hR, hB⟩ := hrel
    have HR := Lib.hid hR
    have HB := Lib.hid hB
    clear hR hB
    by_cases hk : n < A.length ∧ n < 300
    · obtain ⟨hk, h3⟩ := hk
      obtain ⟨b, off, rfl, c0, c1, c2, c3, hbw⟩ := HA.out.below HB.out n hk
      by_cases hkd : A[n].kd = 1
      · go_wp2_with fail
        with_reducible refine (insert_any _ r L hid _ (HR.out.alloc _) (by omega) A[n].at' A[n].k A[n].sh).mono ?_
        intro e w3 h
        obtain ⟨rfl, hR3, hB3⟩ := ins_step (below_alloc HB.out _) h
        have HR3 := Lib.hid hR3
        have HB3 := Lib.hid hB3
        have hl3 := insL_length L A[n].at' A[n].k
        clear h hR3 hB3
        go_wp2
        go_roundw
        case rel => exact ⟨n + 1, _, _, by go_num, by omega, by omega, by omega, HR3.out, HB3.out⟩
        case measure => simp [intOf]; omega
      · go_wp2_with fail
        with_reducible refine (show_any _ r L hid _ (HR.out.alloc _) A[n].k A[n].sh).mono ?_
        intro e w3 h
        obtain ⟨rfl, hR3, hB3⟩ := show_step (below_alloc HB.out _) h
        have HR3 := Lib.hid hR3
        have HB3 := Lib.hid hB3
        clear h hR3 hB3
        go_wp2
        go_roundw
        case rel => exact ⟨n + 1, _, _, by go_num, by omega, by omega, by omega, HR3.out, HB3.out⟩
        case measure => simp [intOf]; omega
    · have hlt : (n < A.length ∧ ¬ n < 300) ∨ ¬ n < A.length := by omega
      have hAll := Lib.hid (all_any wr r L hid _ HR.out)
      rcases hlt with ⟨h1, h2⟩ | h1
      all_goals
        go_wp2_with fail
        with_reducible refine hAll.out.mono ?_
        intro e wa h
        obtain ⟨v, rfl, hrow, hRa, hBa⟩ := all_step HR.out HB.out h
        have hlw : wr.heap.size ≤ wa.heap.size := by obtain ⟨_, _, _, hb⟩ := h; exact hb.size
        obtain ⟨av, cv, rfl, -⟩ := rowForm hrow rfl
        have HCo := Lib.hid (count_any wa r L hid _ hRa)
        have HP := Lib.hid (place_any wa r L hid _ hRa k)
        have HI := Lib.hid (insert_any wa r L hid _ hRa (by omega) at' k sh)
        have HROW := Lib.hid hrow
        have HRa := Lib.hid hRa
        have HBa := Lib.hid hBa
        clear h hRa hBa hrow hAll
        go_wp2_with (first | (with_reducible refine HCo.out.mono ?_; rintro e w' ⟨rfl, rfl⟩) | (with_reducible refine HP.out.mono ?_; rintro e w' ⟨rfl, rfl⟩))
        with_reducible refine HI.out.mono ?_
        intro e wb h
        obtain ⟨rfl, hRb, hcb⟩ := h
        have hrowb := rowCh HROW.out hcb (fun x hx => hx.2)
        have hBb := Ch.deep HBa.out hcb (fun x hx => hx.1)
        have hRb := hRb.mono (F' := fun x => w.heap.size ≤ x) (fun x hx => by rcases hx with h | h; exact h.1; exact Nat.le_trans HBa.out.size h)
        have HROWb := Lib.hid hrowb
        have HBb := Lib.hid hBb
        have HRb := Lib.hid hRb
        clear hrowb hBb hRb hcb
        by_cases hkm : k ∈ L
        · have hE : insE L at' k = 111 := by unfold insE; rw [if_pos hkm]
          have hi1 : itemE L k = 0 := by unfold itemE; rw [if_pos hkm]
          have HRb : Rope wb r L hid (fun x => w.heap.size ≤ x) := by have := HRb.out; unfold insL insH at this; rwa [if_pos (Or.inl hkm), if_pos (Or.inl hkm)] at this
          have HRb := Lib.hid HRb
          rw [hi1]
          clear hi1
          rw [hE]
          clear hE
          have hAll2 := Lib.hid (all_any wb r L hid _ HRb.out)
          go_wp2_with fail
          with_reducible refine hAll2.out.mono ?_
          intro e wc h
          obtain ⟨v2, rfl, hrow2, hRc, hBc⟩ := all_step HRb.out HBb.out h
          have hbc : Below wb.heap.size wb wc := by obtain ⟨_, _, _, hb⟩ := h; exact hb
          obtain ⟨av2, cv2, rfl, -⟩ := rowForm hrow2 rfl
          have HSA := Lib.hid (same_self wc av2 av L.length cv2 cv L (rowAt hrow2 rfl) ((rowAt HROWb.out rfl).below hbc) rfl (by omega))
          have HRc := Lib.hid hRc
          have HBc := Lib.hid hBc
          clear h hrow2 hRc hBc hbc hAll2
          go_wp2_with fail
          with_reducible refine HSA.out.mono ?_
          rintro e wd ⟨rfl, hbd⟩
          have HCd := Lib.hid (count_any wd r L hid _ (HRc.out.later hbd))
          have HBd := Lib.hid (HBc.out.trans (hbd.mono HBc.out.size))
          clear hbd
          go_wp2_with (with_reducible refine HCd.out.mono ?_; rintro e w' ⟨rfl, rfl⟩)
          go_ret
          exact ⟨rfl, HBd.out⟩
        · have hi1 : itemE L k = 111 := by unfold itemE; rw [if_neg hkm]
          rw [hi1]
          clear hi1
          by_cases hout : outL L at'
          · have hE : insE L at' k = 112 := by unfold insE; rw [if_neg hkm, if_pos hout]
            have HRb : Rope wb r L hid (fun x => w.heap.size ≤ x) := by have := HRb.out; unfold insL insH at this; rwa [if_pos (Or.inr hout), if_pos (Or.inr hout)] at this
            have HRb := Lib.hid HRb
            unfold outL at hout
            have hcase : at' < 0 ∨ (¬ at' < 0 ∧ (L.length : Int) < at') := by omega
            clear hout
            rcases hcase with ho | ⟨ho, ho2⟩
            all_goals
              rw [hE]
              clear hE
              have hAll2 := Lib.hid (all_any wb r L hid _ HRb.out)
              go_wp2_with fail
              with_reducible refine hAll2.out.mono ?_
              intro e wc h
              obtain ⟨v2, rfl, hrow2, hRc, hBc⟩ := all_step HRb.out HBb.out h
              have hbc : Below wb.heap.size wb wc := by obtain ⟨_, _, _, hb⟩ := h; exact hb
              obtain ⟨av2, cv2, rfl, -⟩ := rowForm hrow2 rfl
              have HSA := Lib.hid (same_self wc av2 av L.length cv2 cv L (rowAt hrow2 rfl) ((rowAt HROWb.out rfl).below hbc) rfl (by omega))
              have HRc := Lib.hid hRc
              have HBc := Lib.hid hBc
              clear h hrow2 hRc hBc hbc hAll2
              go_wp2_with fail
              with_reducible refine HSA.out.mono ?_
              rintro e wd ⟨rfl, hbd⟩
              have HCd := Lib.hid (count_any wd r L hid _ (HRc.out.later hbd))
              have HBd := Lib.hid (HBc.out.trans (hbd.mono HBc.out.size))
              clear hbd
              go_wp2_with (with_reducible refine HCd.out.mono ?_; rintro e w' ⟨rfl, rfl⟩)
              go_ret
              exact ⟨rfl, HBd.out⟩
          · have hE : insE L at' k = 0 := by unfold insE; rw [if_neg hkm, if_neg hout]
            have hat : 0 ≤ at' ∧ at' ≤ L.length := by unfold outL at hout; omega
            have HRb : Rope wb r (L.take at'.toNat ++ k :: L.drop at'.toNat) (setH hid k (!sh)) (fun x => w.heap.size ≤ x) := by have := HRb.out; unfold insL insH at this; rwa [if_neg (not_or.2 ⟨hkm, hout⟩), if_neg (not_or.2 ⟨hkm, hout⟩)] at this
            have HRb := Lib.hid HRb.bound
            have hnd := HRa.out.nodup
            clear hout
            obtain ⟨m, rfl⟩ : ∃ m : Nat, at' = m := ⟨at'.toNat, by omega⟩
            simp only [Int.toNat_natCast] at HRb
            have hm : m ≤ L.length := by omega
            have hll : (L.take m ++ k :: L.drop m).length = L.length + 1 := ins_length' hm
            have hc1 : cnt (setH hid k (!sh)) (L.take m ++ k :: L.drop m) = cnt hid L + if sh then 1 else 0 := by
              cases sh
              · exact cnt_ins hkm
              · exact cnt_shown_ins hnd hkm
            have hc2 : cnt (setH hid k true) (L.take m ++ k :: L.drop m) = cnt hid L := cnt_ins hkm
            have hsh : showH (L.take m ++ k :: L.drop m) (setH hid k (!sh)) k false = setH hid k true := by
              unfold showH
              rw [if_pos (ins_mem.2 (Or.inl rfl)), setH_twice]; rfl
            have hcl : cnt hid L ≤ L.length := cnt_le _ _
            rw [hE]
            clear hE hat
            have hi2 := rowAt HROWb.out rfl
            have hcase : (av = none ∧ cv = 0 ∧ L = []) ∨ ∃ B, av = some ⟨B, 0, none⟩ ∧ L.length ≤ cv ∧ cv ≤ maxLen := by
              rcases row_cases HROWb.out with ⟨e, h⟩ | ⟨B, cap', e, h1, h2⟩
              · simp only [Value.slice.injEq] at e; exact .inl ⟨e.1, e.2.2, h⟩
              · simp only [Value.slice.injEq] at e; obtain ⟨e1, -, rfl⟩ := e; exact .inr ⟨B, e1, h1, h2⟩
            have HI2 := Lib.hid hi2
            have HC2 := Lib.hid hc2
            have HSH := Lib.hid hsh
            have HLL := Lib.hid hll
            clear hi2 hc2 hsh hll HCo HP HI HN
            generalize cnt hid L = c at *
            cases sh
            all_goals
              simp only [if_true, Bool.false_eq_true, if_false, Nat.add_zero] at hc1
              have HC1 := Lib.hid hc1
              clear hc1
              rcases hcase with ⟨rfl, rfl, rfl⟩ | ⟨B, rfl, hcv, hcv2⟩
              · obtain rfl : m = 0 := by simpa using hm
                go_wp2_with (first | (at_builtin; refine append_any rfl (.tmp 116) (.tmp 119) 31 rfl wb.heap.size 3 i0 (.int .i64 0) 1 8 Try.underlying31 hi hz0 hz1 hz2 rfl (by decide) (.slice none 0 0) _ _ rfl (World.ownsRow_nil _ _ _ _) _ _ _ (ints (([] : List Int).take 0)) rfl (by simp [ints]; try omega) (fun _ => ⟨rfl, rfl⟩) (by intro ad h; cases h) (ints_one _) (by unfold maxLen; omega) (by omega) (Nat.le_refl _) ?_; intro v1 wx own1 grow1; have b1 := (Below.refl wb.heap.size wb).grown grow1 (Nat.le_refl _) (fun x hx => by cases hx)) | (at_builtin; refine append_any rfl (.tmp 121) (.tmp 123) 31 rfl wb.heap.size 3 i0 (.int .i64 0) 1 8 Try.underlying31 hi hz0 hz1 hz2 rfl (by decide) v1 _ _ rfl (own1.alloc _) (some ⟨wx.heap.size, 0, none⟩) 1 1 (ints [k]) rfl rfl (by intro h; cases h) (one_cells _ _ _) (ints_one _) (by unfold maxLen; omega) (by omega) (below_alloc b1 _).size ?_; intro v2 wy own2 grow2; have b2 := (below_alloc b1 _).grown grow2 (below_alloc b1 _).size (fun x hx => (own1.lt x hx).1)) | (at_builtin; refine append_any rfl (.tmp 125) (.tmp 128) 31 rfl wb.heap.size 3 i0 (.int .i64 0) 1 8 Try.underlying31 hi hz0 hz1 hz2 rfl (by decide) v2 _ _ rfl own2 _ _ _ (ints (([] : List Int).drop 0)) rfl (by simp [ints]; try omega) (fun _ => ⟨rfl, rfl⟩) (by intro ad h; cases h) (ints_one _) (by unfold maxLen; omega) (by omega) b2.size ?_; intro v3 wz own3 grow3; have b3 := b2.grown grow3 b2.size (fun x hx => (own2.lt x hx).1)))
                have hw3 := want_row (L := ([] : List Int)) (m := 0) (by first | omega | (simp; done)) own3
                obtain ⟨a3, c3, rfl, -⟩ := rowForm hw3 rfl
                rw [HLL.out] at hw3 ⊢
                have HRz := HRb.out.later b3
                have hAllz := Lib.hid (all_any wz r _ _ _ HRz)
                with_reducible refine hAllz.out.mono ?_
                rintro e wc ⟨v4, rfl, hrow4, hbc⟩
                rw [HLL.out] at hrow4
                obtain ⟨a4, c4, rfl, -⟩ := rowForm hrow4 HLL.out
                have HSA := Lib.hid (same_self wc a4 a3 1 c4 c3 _ (rowAt hrow4 HLL.out) ((rowAt hw3 HLL.out).below hbc) HLL.out (by first | omega | (simp; done)))
                have HW3 := Lib.hid hw3
                have HRc := Lib.hid (HRz.later hbc)
                have HB3 := Lib.hid b3
                have HBC := Lib.hid hbc
                clear hAllz HRz hrow4 hw3 own1 grow1 own2 grow2 own3 grow3 b1 b2 b3 hbc
                go_wp2_with fail
                with_reducible refine HSA.out.mono ?_
                rintro e wd ⟨rfl, hbd⟩
                have HBD := Lib.hid hbd
                have HRd := Lib.hid (HRc.out.later hbd)
                have hCd := count_any wd r _ _ _ HRd.out
                rw [HC1.out] at hCd
                have HCd := Lib.hid hCd
                have hSd := show_any wd r _ _ _ HRd.out k false
                rw [HSH.out] at hSd
                have HSd := Lib.hid hSd
                clear hbd hCd hSd
                go_wp2_with (with_reducible refine HCd.out.mono ?_; rintro e w' ⟨rfl, rfl⟩)
                with_reducible refine HSd.out.mono ?_
                rintro e we ⟨rfl, hRe, hce⟩
                have hBd : Below w.heap.size w wd := ((HBb.out.trans (HB3.out.mono HBb.out.size)).trans (HBC.out.mono (Nat.le_trans HBb.out.size HB3.out.size))).trans (HBD.out.mono (Nat.le_trans HBb.out.size (Nat.le_trans HB3.out.size HBC.out.size)))
                have hBe := Ch.deep hBd hce (fun x hx => hx.1)
                have hwe := rowCh (own_ch (own_ch HW3.out (Ch.of_below (F := fun _ => False) HBC.out) (fun _ _ e => e)) (Ch.of_below (F := fun _ => False) HBD.out) (fun _ _ e => e)) hce (fun x hx => hx.2)
                have hAlle := Lib.hid (all_any we r _ _ _ hRe)
                have HRe := Lib.hid hRe
                have HBe := Lib.hid hBe
                have HWe := Lib.hid hwe
                clear hRe hce hBd hBe hwe
                go_wp2_with fail
                with_reducible refine hAlle.out.mono ?_
                rintro e wf ⟨v5, rfl, hrow5, hbf⟩
                rw [HLL.out] at hrow5
                obtain ⟨a5, c5, rfl, -⟩ := rowForm hrow5 HLL.out
                have HSF := Lib.hid (same_self wf a5 a3 1 c5 c3 _ (rowAt hrow5 HLL.out) ((rowAt HWe.out HLL.out).below hbf) HLL.out (by first | omega | (simp; done)))
                have HBf := Lib.hid (HBe.out.trans (hbf.mono HBe.out.size))
                have HRf := Lib.hid (HRe.out.later hbf)
                clear hrow5 hbf hAlle
                go_wp2_with fail
                with_reducible refine HSF.out.mono ?_
                rintro e wg ⟨rfl, hbg⟩
                have hCg := count_any wg r _ _ _ (HRf.out.later hbg)
                rw [HC2.out] at hCg
                have HCg := Lib.hid hCg
                have HBg := Lib.hid (HBf.out.trans (hbg.mono HBf.out.size))
                clear hbg hCg
                go_wp2_with (with_reducible refine HCg.out.mono ?_; rintro e w' ⟨rfl, rfl⟩)
                go_ret
                exact ⟨rfl, HBg.out⟩
              · unfold maxLen at hcv2
                by_cases hml : m < L.length
                · go_wp2_with (first | (at_builtin; refine append_any rfl (.tmp 116) (.tmp 119) 31 rfl wb.heap.size 3 i0 (.int .i64 0) 1 8 Try.underlying31 hi hz0 hz1 hz2 rfl (by decide) (.slice none 0 0) _ _ rfl (World.ownsRow_nil _ _ _ _) _ _ _ (ints (L.take m)) rfl (by simp [ints]; try omega) (by intro h; cases h) (part_cells HI2.out 0 take_get (fun _ => rfl)) (ints_one _) (by unfold maxLen; omega) (by omega) (Nat.le_refl _) ?_; intro v1 wx own1 grow1; have b1 := (Below.refl wb.heap.size wb).grown grow1 (Nat.le_refl _) (fun x hx => by cases hx)) | (at_builtin; refine append_any rfl (.tmp 121) (.tmp 123) 31 rfl wb.heap.size 3 i0 (.int .i64 0) 1 8 Try.underlying31 hi hz0 hz1 hz2 rfl (by decide) v1 _ _ rfl (own1.alloc _) (some ⟨wx.heap.size, 0, none⟩) 1 1 (ints [k]) rfl rfl (by intro h; cases h) (one_cells _ _ _) (ints_one _) (by unfold maxLen; omega) (by omega) (below_alloc b1 _).size ?_; intro v2 wy own2 grow2; have b2 := (below_alloc b1 _).grown grow2 (below_alloc b1 _).size (fun x hx => (own1.lt x hx).1)) | (at_builtin; refine append_any rfl (.tmp 125) (.tmp 128) 31 rfl wb.heap.size 3 i0 (.int .i64 0) 1 8 Try.underlying31 hi hz0 hz1 hz2 rfl (by decide) v2 _ _ rfl own2 _ _ _ (ints (L.drop m)) rfl (by simp [ints]; try omega) (by intro h; cases h) (part_cells (HI2.out.below b2) m drop_get (fun _ => rfl)) (ints_one _) (by unfold maxLen; omega) (by omega) b2.size ?_; intro v3 wz own3 grow3; have b3 := b2.grown grow3 b2.size (fun x hx => (own2.lt x hx).1)))
                  have hw3 := want_row (L := L) (m := m) (by first | omega | (simp; done)) own3
                  obtain ⟨a3, c3, rfl, -⟩ := rowForm hw3 rfl
                  rw [HLL.out] at hw3 ⊢
                  have HRz := HRb.out.later b3
                  have hAllz := Lib.hid (all_any wz r _ _ _ HRz)
                  with_reducible refine hAllz.out.mono ?_
                  rintro e wc ⟨v4, rfl, hrow4, hbc⟩
                  rw [HLL.out] at hrow4
                  obtain ⟨a4, c4, rfl, -⟩ := rowForm hrow4 HLL.out
                  have HSA := Lib.hid (same_self wc a4 a3 (L.length + 1) c4 c3 _ (rowAt hrow4 HLL.out) ((rowAt hw3 HLL.out).below hbc) HLL.out (by first | omega | (simp; done)))
                  have HW3 := Lib.hid hw3
                  have HRc := Lib.hid (HRz.later hbc)
                  have HB3 := Lib.hid b3
                  have HBC := Lib.hid hbc
                  clear hAllz HRz hrow4 hw3 own1 grow1 own2 grow2 own3 grow3 b1 b2 b3 hbc
                  go_wp2_with fail
                  with_reducible refine HSA.out.mono ?_
                  rintro e wd ⟨rfl, hbd⟩
                  have HBD := Lib.hid hbd
                  have HRd := Lib.hid (HRc.out.later hbd)
                  have hCd := count_any wd r _ _ _ HRd.out
                  rw [HC1.out] at hCd
                  have HCd := Lib.hid hCd
                  have hSd := show_any wd r _ _ _ HRd.out k false
                  rw [HSH.out] at hSd
                  have HSd := Lib.hid hSd
                  clear hbd hCd hSd
                  go_wp2_with (with_reducible refine HCd.out.mono ?_; rintro e w' ⟨rfl, rfl⟩)
                  with_reducible refine HSd.out.mono ?_
                  rintro e we ⟨rfl, hRe, hce⟩
                  have hBd : Below w.heap.size w wd := ((HBb.out.trans (HB3.out.mono HBb.out.size)).trans (HBC.out.mono (Nat.le_trans HBb.out.size HB3.out.size))).trans (HBD.out.mono (Nat.le_trans HBb.out.size (Nat.le_trans HB3.out.size HBC.out.size)))
                  have hBe := Ch.deep hBd hce (fun x hx => hx.1)
                  have hwe := rowCh (own_ch (own_ch HW3.out (Ch.of_below (F := fun _ => False) HBC.out) (fun _ _ e => e)) (Ch.of_below (F := fun _ => False) HBD.out) (fun _ _ e => e)) hce (fun x hx => hx.2)
                  have hAlle := Lib.hid (all_any we r _ _ _ hRe)
                  have HRe := Lib.hid hRe
                  have HBe := Lib.hid hBe
                  have HWe := Lib.hid hwe
                  clear hRe hce hBd hBe hwe
                  go_wp2_with fail
                  with_reducible refine hAlle.out.mono ?_
                  rintro e wf ⟨v5, rfl, hrow5, hbf⟩
                  rw [HLL.out] at hrow5
                  obtain ⟨a5, c5, rfl, -⟩ := rowForm hrow5 HLL.out
                  have HSF := Lib.hid (same_self wf a5 a3 (L.length + 1) c5 c3 _ (rowAt hrow5 HLL.out) ((rowAt HWe.out HLL.out).below hbf) HLL.out (by first | omega | (simp; done)))
                  have HBf := Lib.hid (HBe.out.trans (hbf.mono HBe.out.size))
                  have HRf := Lib.hid (HRe.out.later hbf)
                  clear hrow5 hbf hAlle
                  go_wp2_with fail
                  with_reducible refine HSF.out.mono ?_
                  rintro e wg ⟨rfl, hbg⟩
                  have hCg := count_any wg r _ _ _ (HRf.out.later hbg)
                  rw [HC2.out] at hCg
                  have HCg := Lib.hid hCg
                  have HBg := Lib.hid (HBf.out.trans (hbg.mono HBf.out.size))
                  clear hbg hCg
                  go_wp2_with (with_reducible refine HCg.out.mono ?_; rintro e w' ⟨rfl, rfl⟩)
                  go_ret
                  exact ⟨rfl, HBg.out⟩
                · obtain rfl : m = L.length := by omega
                  go_wp2_with (first | (at_builtin; refine append_any rfl (.tmp 116) (.tmp 119) 31 rfl wb.heap.size 3 i0 (.int .i64 0) 1 8 Try.underlying31 hi hz0 hz1 hz2 rfl (by decide) (.slice none 0 0) _ _ rfl (World.ownsRow_nil _ _ _ _) _ _ _ (ints (L.take L.length)) rfl (by simp [ints]; try omega) (by intro h; cases h) (part_cells HI2.out 0 take_get (fun _ => rfl)) (ints_one _) (by unfold maxLen; omega) (by omega) (Nat.le_refl _) ?_; intro v1 wx own1 grow1; have b1 := (Below.refl wb.heap.size wb).grown grow1 (Nat.le_refl _) (fun x hx => by cases hx)) | (at_builtin; refine append_any rfl (.tmp 121) (.tmp 123) 31 rfl wb.heap.size 3 i0 (.int .i64 0) 1 8 Try.underlying31 hi hz0 hz1 hz2 rfl (by decide) v1 _ _ rfl (own1.alloc _) (some ⟨wx.heap.size, 0, none⟩) 1 1 (ints [k]) rfl rfl (by intro h; cases h) (one_cells _ _ _) (ints_one _) (by unfold maxLen; omega) (by omega) (below_alloc b1 _).size ?_; intro v2 wy own2 grow2; have b2 := (below_alloc b1 _).grown grow2 (below_alloc b1 _).size (fun x hx => (own1.lt x hx).1)) | (at_builtin; refine append_any rfl (.tmp 125) (.tmp 128) 31 rfl wb.heap.size 3 i0 (.int .i64 0) 1 8 Try.underlying31 hi hz0 hz1 hz2 rfl (by decide) v2 _ _ rfl own2 _ _ _ (ints (L.drop L.length)) rfl (by simp [ints]; try omega) (by intro h; first | (cases h; done) | exact ⟨rfl, rfl⟩ | (constructor <;> omega; done) | (split at h <;> first | (cases h; done) | (constructor <;> omega)) | (simp at h; constructor <;> omega)) (part_cells (HI2.out.below b2) L.length drop_get (fun h => absurd List.drop_length h)) (ints_one _) (by unfold maxLen; omega) (by omega) b2.size ?_; intro v3 wz own3 grow3; have b3 := b2.grown grow3 b2.size (fun x hx => (own2.lt x hx).1)))
                  all_goals
                    have hw3 := want_row (L := L) (m := L.length) (by first | omega | (simp; done)) own3
                    obtain ⟨a3, c3, rfl, -⟩ := rowForm hw3 rfl
                    rw [HLL.out] at hw3 ⊢
                    have HRz := HRb.out.later b3
                    have hAllz := Lib.hid (all_any wz r _ _ _ HRz)
                    with_reducible refine hAllz.out.mono ?_
                    rintro e wc ⟨v4, rfl, hrow4, hbc⟩
                    rw [HLL.out] at hrow4
                    obtain ⟨a4, c4, rfl, -⟩ := rowForm hrow4 HLL.out
                    have HSA := Lib.hid (same_self wc a4 a3 (L.length + 1) c4 c3 _ (rowAt hrow4 HLL.out) ((rowAt hw3 HLL.out).below hbc) HLL.out (by first | omega | (simp; done)))
                    have HW3 := Lib.hid hw3
                    have HRc := Lib.hid (HRz.later hbc)
                    have HB3 := Lib.hid b3
                    have HBC := Lib.hid hbc
                    clear hAllz HRz hrow4 hw3 own1 grow1 own2 grow2 own3 grow3 b1 b2 b3 hbc
                    go_wp2_with fail
                    with_reducible refine HSA.out.mono ?_
                    rintro e wd ⟨rfl, hbd⟩
                    have HBD := Lib.hid hbd
                    have HRd := Lib.hid (HRc.out.later hbd)
                    have hCd := count_any wd r _ _ _ HRd.out
                    rw [HC1.out] at hCd
                    have HCd := Lib.hid hCd
                    have hSd := show_any wd r _ _ _ HRd.out k false
                    rw [HSH.out] at hSd
                    have HSd := Lib.hid hSd
                    clear hbd hCd hSd
                    go_wp2_with (with_reducible refine HCd.out.mono ?_; rintro e w' ⟨rfl, rfl⟩)
                    with_reducible refine HSd.out.mono ?_
                    rintro e we ⟨rfl, hRe, hce⟩
                    have hBd : Below w.heap.size w wd := ((HBb.out.trans (HB3.out.mono HBb.out.size)).trans (HBC.out.mono (Nat.le_trans HBb.out.size HB3.out.size))).trans (HBD.out.mono (Nat.le_trans HBb.out.size (Nat.le_trans HB3.out.size HBC.out.size)))
                    have hBe := Ch.deep hBd hce (fun x hx => hx.1)
                    have hwe := rowCh (own_ch (own_ch HW3.out (Ch.of_below (F := fun _ => False) HBC.out) (fun _ _ e => e)) (Ch.of_below (F := fun _ => False) HBD.out) (fun _ _ e => e)) hce (fun x hx => hx.2)
                    have hAlle := Lib.hid (all_any we r _ _ _ hRe)
                    have HRe := Lib.hid hRe
                    have HBe := Lib.hid hBe
                    have HWe := Lib.hid hwe
                    clear hRe hce hBd hBe hwe
                    go_wp2_with fail
                    with_reducible refine hAlle.out.mono ?_
                    rintro e wf ⟨v5, rfl, hrow5, hbf⟩
                    rw [HLL.out] at hrow5
                    obtain ⟨a5, c5, rfl, -⟩ := rowForm hrow5 HLL.out
                    have HSF := Lib.hid (same_self wf a5 a3 (L.length + 1) c5 c3 _ (rowAt hrow5 HLL.out) ((rowAt HWe.out HLL.out).below hbf) HLL.out (by first | omega | (simp; done)))
                    have HBf := Lib.hid (HBe.out.trans (hbf.mono HBe.out.size))
                    have HRf := Lib.hid (HRe.out.later hbf)
                    clear hrow5 hbf hAlle
                    go_wp2_with fail
                    with_reducible refine HSF.out.mono ?_
                    rintro e wg ⟨rfl, hbg⟩
                    have hCg := count_any wg r _ _ _ (HRf.out.later hbg)
                    rw [HC2.out] at hCg
                    have HCg := Lib.hid hCg
                    have HBg := Lib.hid (HBf.out.trans (hbg.mono HBf.out.size))
                    clear hbg hCg
                    go_wp2_with (with_reducible refine HCg.out.mono ?_; rintro e w' ⟨rfl, rfl⟩)
                    go_ret
                    exact ⟨rfl, HBg.out⟩

set_option maxRecDepth 100000 in
theorem ropeStays_lifted (os : Os) (started : os.Started) (H : Type) (enc : TypeId × Value → H) :
    ReturnsInHanded {} Try.checked os 3 .any (Rows.ropeStaysSpec.pre6 enc Try.prog Try.f3 Rows.ropeStaysRow.domain false) (Rows.ropeStaysSpec.post enc Try.prog Try.f3 false true false false) := by
  refine returnsInHanded_of_change (C := Try.checked) own started (by kernel_rfl) Try.func3
    (ChangeSpec.witness6 (enc := enc) (C := Try.checked) false ⟨#[], #[.slice none 0 0, .agg #[.int .i64 0, .int .i64 0, .int .i64 0, .bool false]], []⟩ 8 (by kernel_rfl) (by kernel_rfl) (by kernel_rfl) (by kernel_rfl)) ?_
  intro W base args ds gs before hval0 hW hcnd _
  have hval : ∀ (j : Nat) t v, Try.f3.params[j]? = some t → args[j]? = some v → Value.okWide Try.prog W .any base t v := hval0
  have hW' := hW
  obtain ⟨p, q, hA0, hV, rfl, hfz, hnd⟩ := hW
  have hA : DataW.TrodAll enc Try.prog W 0 (fun _ => true) true Try.f3.params.toList args.toList ds p := hA0
  rw [Try.params3] at hA hval
  obtain ⟨v0, vs0, d0, ds0, p0, q0, hargs, rfl, rfl, h0, r0⟩ := trodAll_cons hA
  obtain ⟨v1, vs1, d1, ds1, p1, q1, rfl, rfl, rfl, h1, r1⟩ := trodAll_cons r0
  obtain ⟨rfl, rfl, rfl⟩ := trodAll_nil r1
  obtain rfl : args = #[v0, v1] := by cases args; simp_all
  obtain ⟨rfl, rfl⟩ := trodVars_none hV
  have lt0 : ∀ x ∈ p0, x.block < W.heap.size := by obtain ⟨m, hm⟩ := h0; exact DataW.trod_lt m _ _ _ hm
  have lt1 : ∀ x ∈ p1, x.block < W.heap.size := by obtain ⟨m, hm⟩ := h1; exact DataW.trod_lt m _ _ _ hm
  obtain ⟨ao, cap, A, rfl, hlen, hacts⟩ := open_acts (hval 0 22 v0 rfl rfl) h0
  obtain ⟨⟨g1, g2, g3, g4⟩, rfl⟩ := open_act (hval 1 24 v1 rfl rfl) h1
  clear hA0 hval0
  refine (ropeStays_walk ao cap A g1 g2 g3 g4 W hlen hacts).mono fun e W' ⟨he, bel⟩ => ?_
  subst he
  exact ⟨_, rfl, _, _, _, [], _, [], hW', trodAll_mk1 (shut_bool Try.underlying4 _), (trodAll_cons_mk (Below.trod laidOut (by kernel_rfl) (of_decide_eq_true (by kernel_rfl)) h0 bel lt0) (trodAll_cons_mk (Below.trod laidOut (by kernel_rfl) (of_decide_eq_true (by kernel_rfl)) h1 bel lt1) trodAll_mk0)), rfl, bel.frame _, fun h => by cases h⟩

theorem ropeStays_holds : Rows.RopeStaysSaid :=
  OpenClaim.holds_of_wide 3 Try.f3 rfl rfl rfl rfl rfl rfl rfl ⟨rfl, rfl, rfl, rfl, rfl⟩ rfl rfl rfl rfl rfl (by kernel_rfl) Try.func3 (by kernel_rfl)
    (of_decide_eq_true (by kernel_rfl)) (by unfold Func.isWrapper; first | (rw [if_pos (by decide +kernel)]; kernel_rfl) | (rw [if_neg (by decide +kernel)]; exact ⟨rfl, rfl⟩))
    (fun os started H enc _ => ropeStays_lifted os started H enc)

end Go.Proofs.Ytfmmgijffneodaa
