/- THE REFERENCE's NUMBERS AND FIGURES. -/
import Derived.Test.YtpkbkcjegbpifaaDoorDScan
import Derived.Test.YtpkbkcjegbpifaaDoorHeap
import Derived.BigGuard
namespace Go.Proofs.YtpkbkcjegbpifaaDoor
open Go.RowKit Go.Lib
set_option linter.unusedSimpArgs false
set_option linter.unusedVariables false

theorem rscan_big (l : List UInt8) (m : Int) (h : 1048576 < m) : rscan l m = -1 := by
  cases l <;> simp [rscan, h]
theorem rscan_step (l : List UInt8) (k : Nat) (hk : k < l.length) (m : Int) (hm : ¬ 1048576 < m) (h : rscan (l.drop k) m = rscan l 0) :
    (badC l[k] → rscan l 0 = -1) ∧ (¬ badC l[k] → rscan (l.drop (k + 1)) (10 * m + ((l[k].toNat : Int) - 48)) = rscan l 0) := by
  rw [List.drop_eq_getElem_cons hk, rscan, if_neg hm] at h
  constructor
  · intro hb; rw [if_pos hb] at h; exact h.symm
  · intro h1; rw [if_neg h1] at h; exact h
theorem rnum_of {l : List UInt8} (h : l ≠ []) {v : Int} (k : rscan l 0 = v) : rnum l = v := by rw [rnum, if_neg h, k]
theorem getElem_data (s : ByteArray) (j : Nat) (h : j < s.size) : s.data.toList[j]'(by exact h) = s[j] := rfl
set_option maxHeartbeats 1000000 in
theorem number_any (s : ByteArray) (hs : s.size ≤ maxLen) (w : World) :
    Calls Tryd.prog 16 #[.string s] w fun e w' => e = .returned (.int .i64 (rnum s.data.toList)) ∧ w = w' := by
  unfold maxLen at hs
  have hsz : s.data.toList.length = s.size := rfl
  have HSZ := Lib.hid hsz
  clear hsz
  go_enter Tryd.func16, Tryd.ntmps16
  go_wp2
  go_loop [3, 4] (fun n i => ∃ (j : Nat) (m : Int), j ≤ s.size ∧ i = .int .i64 j ∧ n = .int .i64 m ∧ 0 ≤ m ∧ m ≤ 10485769 ∧ rscan (s.data.toList.drop j) m = rscan s.data.toList 0) (fun _ i => s.size - (RowKit.intOf i).toNat)
  case atStart => exact ⟨0, 0, by omega, rfl, rfl, by omega, by omega, rfl⟩
  case round =>
    obtain ⟨j, m, hj, rfl, rfl, h0, h1, hscan⟩ := hrel
    by_cases hlt : j < s.size
    · have hl : j < s.data.toList.length := hlt
      have hne : s.data.toList ≠ [] := fun e => by rw [e] at hl; simp at hl
      have e00 : ((s.size : Int) == 0) = false := beq_eq_false_iff_ne.2 (by omega)
      by_cases c3 : 1048576 < m
      · have hn := Lib.hid (rnum_of hne (hscan.symm.trans (rscan_big _ m c3)))
        have d3 : decide (m ≤ 1048576) = false := decide_eq_false (by omega)
        have NE := Lib.hid hne
        clear hscan hne
        go_wp2
        go_ret
        exact ⟨congrArg (fun n => Ending.returned (.int .i64 n)) hn.out.symm, rfl⟩
      · have d3 : decide (m ≤ 1048576) = true := decide_eq_true (by omega)
        obtain ⟨hbad, hgood⟩ := rscan_step _ j hl m c3 hscan
        have hb256 : (s[j]'hlt).toNat < 256 := UInt8.toNat_lt _
        have HB := Lib.hid hbad
        have HG := Lib.hid hgood
        have NE := Lib.hid hne
        clear hbad hgood hscan hne
        unfold badC at HB HG
        by_cases c1 : (s[j]'hlt).toNat < 48
        · have hn := Lib.hid (rnum_of NE.out (HB.out (Or.inl c1)))
          have d1 : decide (((s[j]'hlt).toNat : Int) < 48) = true := decide_eq_true (by omega)
          clear c1 c3
          go_wp2
          go_ret
          exact ⟨congrArg (fun n => Ending.returned (.int .i64 n)) hn.out.symm, rfl⟩
        · have d1 : decide (((s[j]'hlt).toNat : Int) < 48) = false := decide_eq_false (by omega)
          by_cases c2 : 57 < (s[j]'hlt).toNat
          · have hn := Lib.hid (rnum_of NE.out (HB.out (Or.inr c2)))
            have d2 : decide (57 < ((s[j]'hlt).toNat : Int)) = true := decide_eq_true (by omega)
            clear c1 c2 c3
            go_wp2
            go_ret
            exact ⟨congrArg (fun n => Ending.returned (.int .i64 n)) hn.out.symm, rfl⟩
          · have d2 : decide (57 < ((s[j]'hlt).toNat : Int)) = false := decide_eq_false (by omega)
            have hc48 : 48 ≤ ((s[j]'hlt).toNat : Int) := by omega
            have hc57 : ((s[j]'hlt).toNat : Int) ≤ 57 := by omega
            have hm3 : m ≤ 1048576 := by omega
            have hg := Lib.hid (HG.out (fun h => h.elim c1 c2))
            clear c1 c2 c3
            go_wp2
            go_round
            case rel => exact ⟨j + 1, 10 * m + (((s[j]'hlt).toNat : Int) - 48), by omega, by go_num, rfl, by omega, by omega, hg.out⟩
            case measure => simp [RowKit.intOf]; omega
    · have hj2 : j = s.data.toList.length := by have := HSZ.out; omega
      have hd : decide ((j : Int) < (s.size : Int)) = false := decide_eq_false (by omega)
      have hfin : rscan s.data.toList 0 = if 1048576 < m then -1 else m := by
        rw [hj2, List.drop_length, rscan] at hscan
        exact hscan.symm
      clear hscan
      by_cases s0 : s.size = 0
      · have e00 : ((s.size : Int) == 0) = true := beq_iff_eq.2 (by omega)
        have hn := Lib.hid (show rnum s.data.toList = -1 by rw [rnum, if_pos (List.eq_nil_of_length_eq_zero (by rw [HSZ.out]; exact s0))])
        clear hfin s0 hj2
        go_wp2
        go_ret
        exact ⟨congrArg (fun n => Ending.returned (.int .i64 n)) hn.out.symm, rfl⟩
      · have e00 : ((s.size : Int) == 0) = false := beq_eq_false_iff_ne.2 (by omega)
        have hne : s.data.toList ≠ [] := fun e => s0 (by rw [← HSZ.out, e]; rfl)
        have hn := Lib.hid (rnum_of hne hfin)
        clear hfin s0 hne hj2
        by_cases c3 : 1048576 < m
        · have hn2 := Lib.hid (hn.out.trans (if_pos c3))
          go_wp2
          go_ret
          exact ⟨congrArg (fun n => Ending.returned (.int .i64 n)) hn2.out.symm, rfl⟩
        · have hn2 := Lib.hid (hn.out.trans (if_neg c3))
          have d3 : decide (1048576 < m) = false := decide_eq_false (by omega)
          go_wp2
          go_ret
          exact ⟨congrArg (fun n => Ending.returned (.int .i64 n)) hn2.out.symm, rfl⟩
/-- what Digits has made when n is left of u: the figures behind -/
theorem dec_cut (u n : Nat) (r : List UInt8) (h : decDigits u = decDigits n ++ r) (hn : 10 ≤ n) : decDigits u = decDigits (n / 10) ++ (UInt8.ofNat (48 + n % 10) :: r) := by
  rw [h, decDigits, dif_neg (by omega)]; simp
theorem ten (d : Nat) (h : d < 10) : (⟨#[48, 49, 50, 51, 52, 53, 54, 55, 56, 57]⟩ : ByteArray).extract d (d + 1) = ⟨#[UInt8.ofNat (48 + d)]⟩ := by
  match d, h with
  | 0, _ => rfl
  | 1, _ => rfl
  | 2, _ => rfl
  | 3, _ => rfl
  | 4, _ => rfl
  | 5, _ => rfl
  | 6, _ => rfl
  | 7, _ => rfl
  | 8, _ => rfl
  | 9, _ => rfl
/-- n is what is left, t the figures that are made, of u -/
def Dg (u q : Nat) (t : ByteArray) : Prop := (1 ≤ q ∧ decDigits u = decDigits q ++ t.data.toList) ∨ (q = 0 ∧ u = 0 ∧ t = ⟨#[]⟩) ∨ (q = 0 ∧ t.data.toList = decDigits u ∧ t.size ≠ 0)
theorem Dg.start (u : Nat) : Dg u u ⟨#[]⟩ := by
  rcases Nat.eq_zero_or_pos u with rfl | h
  · exact Or.inr (Or.inl ⟨rfl, rfl, rfl⟩)
  · exact Or.inl ⟨h, by simp⟩
def put (d : Nat) (t : ByteArray) : ByteArray := (⟨#[UInt8.ofNat (48 + d)]⟩ : ByteArray) ++ t
theorem put_data (d : Nat) (t : ByteArray) : (put d t).data.toList = UInt8.ofNat (48 + d) :: t.data.toList := by simp [put]
theorem put_size (d : Nat) (t : ByteArray) : (put d t).size = t.size + 1 := by
  rw [show (put d t).size = (put d t).data.toList.length from rfl, put_data]; rfl
theorem Dg.step {u p d : Nat} {t : ByteArray} (hd : d < 10) (h : Dg u (10 * p + d) t) (hgo : 1 ≤ 10 * p + d ∨ t.size = 0) : Dg u p (put d t) := by
  rcases h with ⟨h1, h2⟩ | ⟨h1, h2, h3⟩ | ⟨h1, _, h3⟩
  · rcases Nat.eq_zero_or_pos p with rfl | hp
    · refine Or.inr (Or.inr ⟨rfl, ?_, by rw [put_size]; omega⟩)
      rw [put_data, h2, dec_one _ (by omega)]; simp
    · refine Or.inl ⟨hp, ?_⟩
      rw [put_data, h2, dec_next p d hp hd]; simp
  · obtain ⟨rfl, rfl⟩ : p = 0 ∧ d = 0 := by omega
    subst h2; subst h3
    refine Or.inr (Or.inr ⟨rfl, ?_, by rw [put_size]; omega⟩)
    rw [put_data, dec_one 0 (by omega)]
  · omega
theorem Dg.done {u : Nat} {t : ByteArray} (h : Dg u 0 t) (ht : t.size ≠ 0) : t = itS u := by
  rcases h with ⟨h1, _⟩ | ⟨_, _, rfl⟩ | ⟨_, h2, _⟩
  · omega
  · exact absurd rfl ht
  · apply data_ext
    rw [h2, itS, itoa_pos (by omega)]; simp
theorem Dg.short {u q : Nat} {t : ByteArray} (hu : u ≤ 1048576) (h : Dg u q t) : t.size ≤ 7 := by
  have hs := dec_short 7 u (by omega) (by omega)
  rw [show t.size = t.data.toList.length from rfl]
  rcases h with ⟨_, h2⟩ | ⟨_, _, rfl⟩ | ⟨_, h2, _⟩
  · rw [h2] at hs; simp at hs ⊢; omega
  · simp
  · rw [h2]; exact hs
def meas (n s : Value) : Nat := 2 * (RowKit.intOf n).toNat + (match s with | .string t => if t.size = 0 then 1 else 0 | _ => 0)
theorem meas_eq (q : Nat) (t : ByteArray) : meas (.int .i64 q) (.string t) = 2 * q + if t.size = 0 then 1 else 0 := by simp [meas, RowKit.intOf]
theorem meas_step (p d : Nat) (t : ByteArray) (h : 1 ≤ 10 * p + d ∨ t.size = 0) : meas (.int .i64 p) (.string (put d t)) < meas (.int .i64 ((10 * p + d : Nat) : Int)) (.string t) := by
  rw [meas_eq, meas_eq, put_size, if_neg (by omega)]
  split <;> omega
theorem empty_of (t : ByteArray) (h : t.size = 0) : t = ⟨#[]⟩ := by
  apply data_ext
  exact List.eq_nil_of_length_eq_zero h
theorem full_of (t : ByteArray) (h : t.size ≠ 0) : t.toList.isEmpty = false ∧ ¬ t.toList = [] := by
  have : ¬ t.toList = [] := fun e => h (by
    rw [ByteArray.toList_eq] at e
    rw [show t.size = t.data.toList.length from rfl, e]; rfl)
  exact ⟨by simpa using this, this⟩
theorem run_fig (P : Program) (w : World) (d : Nat) (t : ByteArray) (ht : t.size ≤ 7) : (Op.stringOp .add ⟨#[UInt8.ofNat (48 + d)]⟩ t).run P w = .ok (.string (put d t)) w :=
  run_string_add_sum w _ _ (by show 1 + t.size ≤ _; omega)
set_option maxHeartbeats 1000000 in
theorem digits_any (u : Nat) (hu : u ≤ 1048576) (w : World) :
    Calls Tryd.prog 18 #[.int .i64 u] w fun e w' => e = .returned (.string (itS u)) ∧ Below w.heap.size w w' := by
  have e0 : (0 : Int) ≤ u := by omega
  go_enter Tryd.func18, Tryd.ntmps18
  go_wp2
  go_loop [0, 3] (fun n s => ∃ (q : Nat) (t : ByteArray), q ≤ u ∧ n = .int .i64 q ∧ s = .string t ∧ Dg u q t) (fun n s => meas n s)
  case atStart => exact ⟨u, ⟨#[]⟩, Nat.le_refl _, rfl, rfl, Dg.start u⟩
  case round =>
    obtain ⟨q, t, hq, rfl, rfl, hdg⟩ := hrel
    have hsz := hdg.short hu
    obtain ⟨p, d, rfl, hd⟩ : ∃ p d, q = 10 * p + d ∧ d < 10 := ⟨q / 10, q % 10, by omega, by omega⟩
    have HD := Lib.hid hdg
    clear hdg
    by_cases hgo : 1 ≤ 10 * p + d ∨ t.size = 0
    · have m1 : (((10 * p + d : Nat) : Int)) % 10 = (d : Int) := by omega
      have m2 : (((10 * p + d : Nat) : Int)) / 10 = (p : Int) := by omega
      have HG := Lib.hid hgo
      have HT := Lib.hid (ten d hd)
      have HV := Lib.hid (show (10 * (p : Int) + (d : Int)) / 10 = (p : Int) by omega)
      have hr := run_fig Tryd.prog w d t hsz
      by_cases hq1 : 1 ≤ 10 * p + d
      · have d1 : decide (0 < ((10 * p + d : Nat) : Int)) = true := decide_eq_true (by omega)
        clear hgo
        go_wp2
        go_round
        case rel => exact ⟨p, put d t, by omega, by rw [HV.out], by rw [Nat.mod_eq_of_lt hd, HT.out]; rfl, HD.out.step hd HG.out⟩
        case measure =>
          rw [Nat.mod_eq_of_lt hd, HT.out, HV.out]
          exact meas_step p d t HG.out
      · obtain ⟨rfl, rfl⟩ : p = 0 ∧ d = 0 := by omega
        obtain rfl := empty_of t (hgo.resolve_left hq1)
        clear hgo hq1 m1 m2 hr
        go_wp2
        go_round
        case rel => exact ⟨0, put 0 ⟨#[]⟩, by omega, rfl, rfl, HD.out.step hd HG.out⟩
        case measure => exact meas_step 0 0 ⟨#[]⟩ HG.out
    · obtain ⟨rfl, rfl⟩ : p = 0 ∧ d = 0 := by omega
      have hn := Lib.hid (HD.out.done (fun h => hgo (Or.inr h)))
      obtain ⟨f1, f2⟩ := full_of t (fun h => hgo (Or.inr h))
      clear hgo
      go_wp2
      go_ret
      exact ⟨congrArg (fun x => Ending.returned (.string x)) hn.out, Below.refl _ _⟩
/-! ### the reference's Text and Parse -/
set_option maxHeartbeats 1000000 in
theorem refText_any (n r : Int) (w : World) : Calls Tryd.prog 11 #[st n r] w fun e w' => e = .returned (.string (txt n r)) ∧ Below w.heap.size w w' := by
  have hg1 := fun xs ys x y w => run_guard .eql xs ys x y w (Or.inl rfl)
  have hg2 := fun xs ys x y w => run_guard .neq xs ys x y w (Or.inr rfl)
  have t0 := Tr.nil w
  by_cases hok : okS n r
  · obtain ⟨k0, k1, k2, k3⟩ := okS_range hok
    rw [txt_okS hok]
    rcases hok with ⟨rfl, rfl⟩ | hB
    · have z1 := itS_size 0 (has64 (by omega) (by omega))
      obtain ⟨c1, c2, c3, c4⟩ := itS_one _ z1
      obtain ⟨c5, c6⟩ := itS_two _ _ z1 z1
      have hR := fun w => bool_of (show rightB 0 0 = false by decide) (right1_any 0 0 w)
      have hD := fun w => digits_any 0 (Nat.zero_le _) w
      go_enter Tryd.func11, Tryd.ntmps11
      go_wp2_with (go_at_call 17; with_reducible refine (hR _).mono ?_; rintro e w1 ⟨rfl, hb⟩; have t1 := Tr.later (W0 := w) (by repeat (first | with_reducible assumption | with_reducible apply Tr.alloc | with_reducible apply Tr.drew | with_reducible apply Tr.drewN | with_reducible apply Tr.ext | with_reducible apply Tr.other)) hb; have r1 := t1.rules; simp only [Rules, World.size_alloc, World.size_drew, World.size_setCell] at r1; clear hb)
      refine wp_name (W0 := w) (by repeat (first | with_reducible assumption | with_reducible apply Tr.alloc | with_reducible apply Tr.drew | with_reducible apply Tr.drewN | with_reducible apply Tr.ext | with_reducible apply Tr.other)) (fun x tx rx => ?_); simp only [Rules, World.size_alloc, World.size_drew, World.size_setCell] at rx
      refine region_ext (by kernel_rfl) (by kernel_rfl) ?_
      repeat (go_big_quiet_step ((go_at_call 18; with_reducible exact calls_ext (hD _))))
      refine wpQuiet_nil ?_
      rintro _ ⟨nq, rfl⟩
      go_wp2
      go_ret
      exact ⟨rfl, Tr.below (W0 := w) (by repeat (first | with_reducible assumption | with_reducible apply Tr.alloc | with_reducible apply Tr.drew | with_reducible apply Tr.drewN | with_reducible apply Tr.ext | with_reducible apply Tr.other))⟩
    · obtain ⟨a, rfl⟩ := Int.eq_ofNat_of_zero_le k0
      obtain ⟨b, rfl⟩ := Int.eq_ofNat_of_zero_le k2
      have z1 := itS_size a (has64 (by omega) (by omega))
      have z2 := itS_size b (has64 (by omega) (by omega))
      obtain ⟨c1, c2, c3, c4⟩ := itS_one _ z1
      obtain ⟨c5, c6⟩ := itS_two _ _ z1 z2
      have ha : a ≤ 1048576 := by omega
      have hb : b ≤ 1048576 := by omega
      have hR := fun w => bool_of hB (right1_any (a : Int) (b : Int) w)
      clear hB
      go_enter Tryd.func11, Tryd.ntmps11
      go_wp2_with (go_at_call 17; with_reducible refine (hR _).mono ?_; rintro e w1 ⟨rfl, hb⟩; have t1 := Tr.later (W0 := w) (by repeat (first | with_reducible assumption | with_reducible apply Tr.alloc | with_reducible apply Tr.drew | with_reducible apply Tr.drewN | with_reducible apply Tr.ext | with_reducible apply Tr.other)) hb; have r1 := t1.rules; simp only [Rules, World.size_alloc, World.size_drew, World.size_setCell] at r1; clear hb)
      refine wp_name (W0 := w) (by repeat (first | with_reducible assumption | with_reducible apply Tr.alloc | with_reducible apply Tr.drew | with_reducible apply Tr.drewN | with_reducible apply Tr.ext | with_reducible apply Tr.other)) (fun x tx rx => ?_); simp only [Rules, World.size_alloc, World.size_drew, World.size_setCell] at rx
      refine region_ext (by kernel_rfl) (by kernel_rfl) ?_
      repeat (go_big_quiet_step ((go_at_call 18; first | with_reducible exact calls_ext (digits_any a ha _) | with_reducible exact calls_ext (digits_any b hb _))))
      refine wpQuiet_nil ?_
      rintro _ ⟨nq, rfl⟩
      go_wp2
      go_ret
      exact ⟨rfl, Tr.below (W0 := w) (by repeat (first | with_reducible assumption | with_reducible apply Tr.alloc | with_reducible apply Tr.drew | with_reducible apply Tr.drewN | with_reducible apply Tr.ext | with_reducible apply Tr.other))⟩
  · rw [txt_nok hok]
    have hB : rightB n r = false := by
      cases h : rightB n r with
      | false => rfl
      | true => exact absurd (Or.inr h) hok
    have hR := fun w => bool_of hB (right1_any n r w)
    by_cases e1 : n = 0
    · have e2 : ¬ r = 0 := fun e2 => hok (Or.inl ⟨e1, e2⟩)
      subst e1
      have b2 : (r == 0) = false := beq_eq_false_iff_ne.2 e2
      clear hok hB e2
      go_enter Tryd.func11, Tryd.ntmps11
      go_wp2_with (go_at_call 17; with_reducible refine (hR _).mono ?_; rintro e w1 ⟨rfl, hb⟩; have t1 := Tr.later (W0 := w) (by repeat (first | with_reducible assumption | with_reducible apply Tr.alloc | with_reducible apply Tr.drew | with_reducible apply Tr.drewN | with_reducible apply Tr.ext | with_reducible apply Tr.other)) hb; have r1 := t1.rules; simp only [Rules, World.size_alloc, World.size_drew, World.size_setCell] at r1; clear hb)
      go_ret
      exact ⟨rfl, Tr.below (W0 := w) (by repeat (first | with_reducible assumption | with_reducible apply Tr.alloc | with_reducible apply Tr.drew | with_reducible apply Tr.drewN | with_reducible apply Tr.ext | with_reducible apply Tr.other))⟩
    · have b1 : (n == 0) = false := beq_eq_false_iff_ne.2 e1
      clear hok hB e1
      go_enter Tryd.func11, Tryd.ntmps11
      go_wp2_with (go_at_call 17; with_reducible refine (hR _).mono ?_; rintro e w1 ⟨rfl, hb⟩; have t1 := Tr.later (W0 := w) (by repeat (first | with_reducible assumption | with_reducible apply Tr.alloc | with_reducible apply Tr.drew | with_reducible apply Tr.drewN | with_reducible apply Tr.ext | with_reducible apply Tr.other)) hb; have r1 := t1.rules; simp only [Rules, World.size_alloc, World.size_drew, World.size_setCell] at r1; clear hb)
      go_ret
      exact ⟨rfl, Tr.below (W0 := w) (by repeat (first | with_reducible assumption | with_reducible apply Tr.alloc | with_reducible apply Tr.drew | with_reducible apply Tr.drewN | with_reducible apply Tr.ext | with_reducible apply Tr.other))⟩
end Go.Proofs.YtpkbkcjegbpifaaDoor
