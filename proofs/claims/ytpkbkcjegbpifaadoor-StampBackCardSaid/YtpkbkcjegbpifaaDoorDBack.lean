/- THERE AND BACK: proved for every two stamps and every text; no condition. The row lists three tables of the library's; the card ties them to the program's text. -/
import Derived.Test.YtpkbkcjegbpifaaDoorDParsed
import Derived.Test.YtpkbkcjegbpifaaDoorDLaid
import Derived.Test.YtpkbkcjegbpifaaDoorCards
import Derived.Test.YtpkbkcjegbpifaaDoorTie
import Derived.WalkKit
import Derived.ProofKit
import Derived.OpenShut
import Derived.ShutString
import Derived.ChangeOld
import Derived.Below
import Derived.Deep.DeepHandedRow
import Derived.Lib.LaidTab
import Derived.LaidMore
namespace Go.Proofs.YtpkbkcjegbpifaaDoor
open Go.ChangeShapes Go.WideShapes Go.ChangeAt Go.RowKit
open Go.ChangeMaps (open_string shut_string)
set_option linter.unusedVariables false
set_option linter.unusedSimpArgs false

def Walk (n r m q : Int) (t : ByteArray) (w : World) : Prop := Calls Tryd.prog 5 #[st n r, st m q, .string t] w fun e w' => e = .returned (.bool true) ∧ Below w.heap.size w w'
abbrev ParsesTo (s : ByteArray) (n r e : Int) : Prop := ∀ w, Calls Tryd.prog 9 #[.string s] w fun en w' => en = .returned (.tuple #[st n r, .int .i64 e]) ∧ Below w.heap.size w w'
abbrev TextIs (n r : Int) (s : ByteArray) : Prop := ∀ w, Tab w → Calls Tryd.prog 6 #[st n r] w fun e w' => e = .returned (.string s) ∧ Below w.heap.size w w'
theorem txtL_82 : txtL 8 2 = ⟨#[56, 46, 50]⟩ := by
  unfold txtL itS
  rw [itoa_pos (by decide), itoa_pos (by decide), show (8 : Int).toNat = 8 from rfl, show (2 : Int).toNat = 2 from rfl, dec_one 8 (by decide), dec_one 2 (by decide)]
  rfl
theorem parse_82 : ParsesTo ⟨#[56, 46, 50]⟩ 8 2 0 := fun w => parse_any _ (by show 3 ≤ maxLen; unfold maxLen; omega) 8 2 0 (Or.inl ⟨rfl, Or.inr (by decide), txtL_82.symm⟩) w
theorem txtL_ne (n r : Int) : ¬ (txtL n r).toList = [] := by
  rw [ByteArray.toList_eq, txtL_data]
  intro h
  exact absurd (congrArg List.length h) (by simp)
theorem txt_same {n r m q : Int} (h : okS n r) (e : txtL n r = txt m q) : n = m ∧ r = q := by
  by_cases k : okS m q
  · rw [txt_okS k] at e
    exact txtL_inj h k e
  · rw [txt_nok k] at e
    exact absurd (by rw [e, ByteArray.toList_eq]) (txtL_ne n r)
set_option maxHeartbeats 2000000 in
theorem back_no0a (n r m q u v x1 x2 e1 : Int) (t sa sb : ByteArray) (hTa : TextIs n r sa) (hPs : ParsesTo sa x1 x2 e1) (he : sa.toList.isEmpty = true) (he2 : sa.toList = []) (z1 : (n == 0) = false) (hR : ∀ w, Calls Tryd.prog 7 #[st n r] w fun e w' => e = .returned (.bool false) ∧ Below w.heap.size w w') (hPt : ParsesTo t u v 0) (hTy : TextIs u v t) (w : World) (hT : Tab w) : Walk n r m q t w := by
  have HTa := Lib.hid hTa
  have HPs := Lib.hid hPs
  have HPt := Lib.hid hPt
  have HT := Lib.hid hT
  have HRi := Lib.hid hR
  have H82 := Lib.hid parse_82
  have HTy := Lib.hid hTy
  have hg1 := fun xs ys x y w => run_guard .eql xs ys x y w (Or.inl rfl)
  have hg2 := fun xs ys x y w => run_guard .neq xs ys x y w (Or.inr rfl)
  have t0 := Tr.nil w
  clear hTa hPs hPt hT hR hTy
  unfold Walk
  go_enter Tryd.func5, Tryd.ntmps5
  go_wp2_with (first | (go_at_call 6; with_reducible refine (HTa.out _ (HT.out.later (Tr.below (W0 := w) (by repeat (first | with_reducible assumption | with_reducible apply Tr.alloc | with_reducible apply Tr.drew | with_reducible apply Tr.drewN | with_reducible apply Tr.ext | with_reducible apply Tr.other))))).mono ?_; rintro e w1 ⟨rfl, hb⟩; have t1 := Tr.later (W0 := w) (by repeat (first | with_reducible assumption | with_reducible apply Tr.alloc | with_reducible apply Tr.drew | with_reducible apply Tr.drewN | with_reducible apply Tr.ext | with_reducible apply Tr.other)) hb; have r1 := t1.rules; simp only [Rules, World.size_alloc, World.size_drew, World.size_setCell] at r1; clear hb) | (go_at_call 6; with_reducible refine (HTy.out _ (HT.out.later (Tr.below (W0 := w) (by repeat (first | with_reducible assumption | with_reducible apply Tr.alloc | with_reducible apply Tr.drew | with_reducible apply Tr.drewN | with_reducible apply Tr.ext | with_reducible apply Tr.other))))).mono ?_; rintro e w1 ⟨rfl, hb⟩; have t1 := Tr.later (W0 := w) (by repeat (first | with_reducible assumption | with_reducible apply Tr.alloc | with_reducible apply Tr.drew | with_reducible apply Tr.drewN | with_reducible apply Tr.ext | with_reducible apply Tr.other)) hb; have r1 := t1.rules; simp only [Rules, World.size_alloc, World.size_drew, World.size_setCell] at r1; clear hb) | (go_at_call 9; with_reducible refine (H82.out _).mono ?_; rintro e w1 ⟨rfl, hb⟩; have t1 := Tr.later (W0 := w) (by repeat (first | with_reducible assumption | with_reducible apply Tr.alloc | with_reducible apply Tr.drew | with_reducible apply Tr.drewN | with_reducible apply Tr.ext | with_reducible apply Tr.other)) hb; have r1 := t1.rules; simp only [Rules, World.size_alloc, World.size_drew, World.size_setCell] at r1; clear hb) | (go_at_call 9; with_reducible refine (HPs.out _).mono ?_; rintro e w1 ⟨rfl, hb⟩; have t1 := Tr.later (W0 := w) (by repeat (first | with_reducible assumption | with_reducible apply Tr.alloc | with_reducible apply Tr.drew | with_reducible apply Tr.drewN | with_reducible apply Tr.ext | with_reducible apply Tr.other)) hb; have r1 := t1.rules; simp only [Rules, World.size_alloc, World.size_drew, World.size_setCell] at r1; clear hb) | (go_at_call 9; with_reducible refine (HPt.out _).mono ?_; rintro e w1 ⟨rfl, hb⟩; have t1 := Tr.later (W0 := w) (by repeat (first | with_reducible assumption | with_reducible apply Tr.alloc | with_reducible apply Tr.drew | with_reducible apply Tr.drewN | with_reducible apply Tr.ext | with_reducible apply Tr.other)) hb; have r1 := t1.rules; simp only [Rules, World.size_alloc, World.size_drew, World.size_setCell] at r1; clear hb) | (go_at_call 7; with_reducible refine (HRi.out _).mono ?_; rintro e w1 ⟨rfl, hb⟩; have t1 := Tr.later (W0 := w) (by repeat (first | with_reducible assumption | with_reducible apply Tr.alloc | with_reducible apply Tr.drew | with_reducible apply Tr.drewN | with_reducible apply Tr.ext | with_reducible apply Tr.other)) hb; have r1 := t1.rules; simp only [Rules, World.size_alloc, World.size_drew, World.size_setCell] at r1; clear hb))
  go_ret
  exact ⟨rfl, Tr.below (W0 := w) (by repeat (first | with_reducible assumption | with_reducible apply Tr.alloc | with_reducible apply Tr.drew | with_reducible apply Tr.drewN | with_reducible apply Tr.ext | with_reducible apply Tr.other))⟩
set_option maxHeartbeats 2000000 in
theorem back_no1a (r m q u v x1 x2 e1 : Int) (t sa sb : ByteArray) (hTa : TextIs 0 r sa) (hPs : ParsesTo sa x1 x2 e1) (he : sa.toList.isEmpty = true) (he2 : sa.toList = []) (z1 : (r == 0) = false) (hR : ∀ w, Calls Tryd.prog 7 #[st 0 r] w fun e w' => e = .returned (.bool false) ∧ Below w.heap.size w w') (hPt : ParsesTo t u v 0) (hTy : TextIs u v t) (w : World) (hT : Tab w) : Walk 0 r m q t w := by
  have HTa := Lib.hid hTa
  have HPs := Lib.hid hPs
  have HPt := Lib.hid hPt
  have HT := Lib.hid hT
  have HRi := Lib.hid hR
  have H82 := Lib.hid parse_82
  have HTy := Lib.hid hTy
  have hg1 := fun xs ys x y w => run_guard .eql xs ys x y w (Or.inl rfl)
  have hg2 := fun xs ys x y w => run_guard .neq xs ys x y w (Or.inr rfl)
  have t0 := Tr.nil w
  clear hTa hPs hPt hT hR hTy
  unfold Walk
  go_enter Tryd.func5, Tryd.ntmps5
  go_wp2_with (first | (go_at_call 6; with_reducible refine (HTa.out _ (HT.out.later (Tr.below (W0 := w) (by repeat (first | with_reducible assumption | with_reducible apply Tr.alloc | with_reducible apply Tr.drew | with_reducible apply Tr.drewN | with_reducible apply Tr.ext | with_reducible apply Tr.other))))).mono ?_; rintro e w1 ⟨rfl, hb⟩; have t1 := Tr.later (W0 := w) (by repeat (first | with_reducible assumption | with_reducible apply Tr.alloc | with_reducible apply Tr.drew | with_reducible apply Tr.drewN | with_reducible apply Tr.ext | with_reducible apply Tr.other)) hb; have r1 := t1.rules; simp only [Rules, World.size_alloc, World.size_drew, World.size_setCell] at r1; clear hb) | (go_at_call 6; with_reducible refine (HTy.out _ (HT.out.later (Tr.below (W0 := w) (by repeat (first | with_reducible assumption | with_reducible apply Tr.alloc | with_reducible apply Tr.drew | with_reducible apply Tr.drewN | with_reducible apply Tr.ext | with_reducible apply Tr.other))))).mono ?_; rintro e w1 ⟨rfl, hb⟩; have t1 := Tr.later (W0 := w) (by repeat (first | with_reducible assumption | with_reducible apply Tr.alloc | with_reducible apply Tr.drew | with_reducible apply Tr.drewN | with_reducible apply Tr.ext | with_reducible apply Tr.other)) hb; have r1 := t1.rules; simp only [Rules, World.size_alloc, World.size_drew, World.size_setCell] at r1; clear hb) | (go_at_call 9; with_reducible refine (H82.out _).mono ?_; rintro e w1 ⟨rfl, hb⟩; have t1 := Tr.later (W0 := w) (by repeat (first | with_reducible assumption | with_reducible apply Tr.alloc | with_reducible apply Tr.drew | with_reducible apply Tr.drewN | with_reducible apply Tr.ext | with_reducible apply Tr.other)) hb; have r1 := t1.rules; simp only [Rules, World.size_alloc, World.size_drew, World.size_setCell] at r1; clear hb) | (go_at_call 9; with_reducible refine (HPs.out _).mono ?_; rintro e w1 ⟨rfl, hb⟩; have t1 := Tr.later (W0 := w) (by repeat (first | with_reducible assumption | with_reducible apply Tr.alloc | with_reducible apply Tr.drew | with_reducible apply Tr.drewN | with_reducible apply Tr.ext | with_reducible apply Tr.other)) hb; have r1 := t1.rules; simp only [Rules, World.size_alloc, World.size_drew, World.size_setCell] at r1; clear hb) | (go_at_call 9; with_reducible refine (HPt.out _).mono ?_; rintro e w1 ⟨rfl, hb⟩; have t1 := Tr.later (W0 := w) (by repeat (first | with_reducible assumption | with_reducible apply Tr.alloc | with_reducible apply Tr.drew | with_reducible apply Tr.drewN | with_reducible apply Tr.ext | with_reducible apply Tr.other)) hb; have r1 := t1.rules; simp only [Rules, World.size_alloc, World.size_drew, World.size_setCell] at r1; clear hb) | (go_at_call 7; with_reducible refine (HRi.out _).mono ?_; rintro e w1 ⟨rfl, hb⟩; have t1 := Tr.later (W0 := w) (by repeat (first | with_reducible assumption | with_reducible apply Tr.alloc | with_reducible apply Tr.drew | with_reducible apply Tr.drewN | with_reducible apply Tr.ext | with_reducible apply Tr.other)) hb; have r1 := t1.rules; simp only [Rules, World.size_alloc, World.size_drew, World.size_setCell] at r1; clear hb))
  go_ret
  exact ⟨rfl, Tr.below (W0 := w) (by repeat (first | with_reducible assumption | with_reducible apply Tr.alloc | with_reducible apply Tr.drew | with_reducible apply Tr.drewN | with_reducible apply Tr.ext | with_reducible apply Tr.other))⟩
set_option maxHeartbeats 2000000 in
theorem back_zero_samea (u v : Int) (t sa sb : ByteArray) (hTa : TextIs 0 0 sa) (hPs : ParsesTo sa 0 0 0) (he : sa.toList.isEmpty = false) (he2 : ¬ sa.toList = []) (hR : ∀ w, Calls Tryd.prog 7 #[st 0 0] w fun e w' => e = .returned (.bool false) ∧ Below w.heap.size w w') (hPt : ParsesTo t u v 0) (hTy : TextIs u v t) (w : World) (hT : Tab w) : Walk 0 0 0 0 t w := by
  have HTa := Lib.hid hTa
  have HPs := Lib.hid hPs
  have HPt := Lib.hid hPt
  have HT := Lib.hid hT
  have HRi := Lib.hid hR
  have H82 := Lib.hid parse_82
  have HTy := Lib.hid hTy
  have hg1 := fun xs ys x y w => run_guard .eql xs ys x y w (Or.inl rfl)
  have hg2 := fun xs ys x y w => run_guard .neq xs ys x y w (Or.inr rfl)
  have t0 := Tr.nil w
  clear hTa hPs hPt hT hR hTy
  unfold Walk
  go_enter Tryd.func5, Tryd.ntmps5
  go_wp2_with (first | (go_at_call 6; with_reducible refine (HTa.out _ (HT.out.later (Tr.below (W0 := w) (by repeat (first | with_reducible assumption | with_reducible apply Tr.alloc | with_reducible apply Tr.drew | with_reducible apply Tr.drewN | with_reducible apply Tr.ext | with_reducible apply Tr.other))))).mono ?_; rintro e w1 ⟨rfl, hb⟩; have t1 := Tr.later (W0 := w) (by repeat (first | with_reducible assumption | with_reducible apply Tr.alloc | with_reducible apply Tr.drew | with_reducible apply Tr.drewN | with_reducible apply Tr.ext | with_reducible apply Tr.other)) hb; have r1 := t1.rules; simp only [Rules, World.size_alloc, World.size_drew, World.size_setCell] at r1; clear hb) | (go_at_call 6; with_reducible refine (HTy.out _ (HT.out.later (Tr.below (W0 := w) (by repeat (first | with_reducible assumption | with_reducible apply Tr.alloc | with_reducible apply Tr.drew | with_reducible apply Tr.drewN | with_reducible apply Tr.ext | with_reducible apply Tr.other))))).mono ?_; rintro e w1 ⟨rfl, hb⟩; have t1 := Tr.later (W0 := w) (by repeat (first | with_reducible assumption | with_reducible apply Tr.alloc | with_reducible apply Tr.drew | with_reducible apply Tr.drewN | with_reducible apply Tr.ext | with_reducible apply Tr.other)) hb; have r1 := t1.rules; simp only [Rules, World.size_alloc, World.size_drew, World.size_setCell] at r1; clear hb) | (go_at_call 9; with_reducible refine (H82.out _).mono ?_; rintro e w1 ⟨rfl, hb⟩; have t1 := Tr.later (W0 := w) (by repeat (first | with_reducible assumption | with_reducible apply Tr.alloc | with_reducible apply Tr.drew | with_reducible apply Tr.drewN | with_reducible apply Tr.ext | with_reducible apply Tr.other)) hb; have r1 := t1.rules; simp only [Rules, World.size_alloc, World.size_drew, World.size_setCell] at r1; clear hb) | (go_at_call 9; with_reducible refine (HPs.out _).mono ?_; rintro e w1 ⟨rfl, hb⟩; have t1 := Tr.later (W0 := w) (by repeat (first | with_reducible assumption | with_reducible apply Tr.alloc | with_reducible apply Tr.drew | with_reducible apply Tr.drewN | with_reducible apply Tr.ext | with_reducible apply Tr.other)) hb; have r1 := t1.rules; simp only [Rules, World.size_alloc, World.size_drew, World.size_setCell] at r1; clear hb) | (go_at_call 9; with_reducible refine (HPt.out _).mono ?_; rintro e w1 ⟨rfl, hb⟩; have t1 := Tr.later (W0 := w) (by repeat (first | with_reducible assumption | with_reducible apply Tr.alloc | with_reducible apply Tr.drew | with_reducible apply Tr.drewN | with_reducible apply Tr.ext | with_reducible apply Tr.other)) hb; have r1 := t1.rules; simp only [Rules, World.size_alloc, World.size_drew, World.size_setCell] at r1; clear hb) | (go_at_call 7; with_reducible refine (HRi.out _).mono ?_; rintro e w1 ⟨rfl, hb⟩; have t1 := Tr.later (W0 := w) (by repeat (first | with_reducible assumption | with_reducible apply Tr.alloc | with_reducible apply Tr.drew | with_reducible apply Tr.drewN | with_reducible apply Tr.ext | with_reducible apply Tr.other)) hb; have r1 := t1.rules; simp only [Rules, World.size_alloc, World.size_drew, World.size_setCell] at r1; clear hb))
  go_ret
  exact ⟨rfl, Tr.below (W0 := w) (by repeat (first | with_reducible assumption | with_reducible apply Tr.alloc | with_reducible apply Tr.drew | with_reducible apply Tr.drewN | with_reducible apply Tr.ext | with_reducible apply Tr.other))⟩
set_option maxHeartbeats 2000000 in
theorem back_zero_diff0a (m q u v : Int) (t sa sb : ByteArray) (hTa : TextIs 0 0 sa) (hPs : ParsesTo sa 0 0 0) (he : sa.toList.isEmpty = false) (he2 : ¬ sa.toList = []) (hR : ∀ w, Calls Tryd.prog 7 #[st 0 0] w fun e w' => e = .returned (.bool false) ∧ Below w.heap.size w w') (hTb : TextIs m q sb) (hs : (sa.toList == sb.toList) = false) (z1 : (0 == m) = false) (z2 : (m == 0) = false) (hPt : ParsesTo t u v 0) (hTy : TextIs u v t) (w : World) (hT : Tab w) : Walk 0 0 m q t w := by
  have HTa := Lib.hid hTa
  have HPs := Lib.hid hPs
  have HPt := Lib.hid hPt
  have HT := Lib.hid hT
  have HRi := Lib.hid hR
  have H82 := Lib.hid parse_82
  have HTb := Lib.hid hTb
  have HTy := Lib.hid hTy
  have hg1 := fun xs ys x y w => run_guard .eql xs ys x y w (Or.inl rfl)
  have hg2 := fun xs ys x y w => run_guard .neq xs ys x y w (Or.inr rfl)
  have t0 := Tr.nil w
  clear hTa hPs hPt hT hR hTb hTy
  unfold Walk
  go_enter Tryd.func5, Tryd.ntmps5
  go_wp2_with (first | (go_at_call 6; with_reducible refine (HTa.out _ (HT.out.later (Tr.below (W0 := w) (by repeat (first | with_reducible assumption | with_reducible apply Tr.alloc | with_reducible apply Tr.drew | with_reducible apply Tr.drewN | with_reducible apply Tr.ext | with_reducible apply Tr.other))))).mono ?_; rintro e w1 ⟨rfl, hb⟩; have t1 := Tr.later (W0 := w) (by repeat (first | with_reducible assumption | with_reducible apply Tr.alloc | with_reducible apply Tr.drew | with_reducible apply Tr.drewN | with_reducible apply Tr.ext | with_reducible apply Tr.other)) hb; have r1 := t1.rules; simp only [Rules, World.size_alloc, World.size_drew, World.size_setCell] at r1; clear hb) | (go_at_call 6; with_reducible refine (HTb.out _ (HT.out.later (Tr.below (W0 := w) (by repeat (first | with_reducible assumption | with_reducible apply Tr.alloc | with_reducible apply Tr.drew | with_reducible apply Tr.drewN | with_reducible apply Tr.ext | with_reducible apply Tr.other))))).mono ?_; rintro e w1 ⟨rfl, hb⟩; have t1 := Tr.later (W0 := w) (by repeat (first | with_reducible assumption | with_reducible apply Tr.alloc | with_reducible apply Tr.drew | with_reducible apply Tr.drewN | with_reducible apply Tr.ext | with_reducible apply Tr.other)) hb; have r1 := t1.rules; simp only [Rules, World.size_alloc, World.size_drew, World.size_setCell] at r1; clear hb) | (go_at_call 6; with_reducible refine (HTy.out _ (HT.out.later (Tr.below (W0 := w) (by repeat (first | with_reducible assumption | with_reducible apply Tr.alloc | with_reducible apply Tr.drew | with_reducible apply Tr.drewN | with_reducible apply Tr.ext | with_reducible apply Tr.other))))).mono ?_; rintro e w1 ⟨rfl, hb⟩; have t1 := Tr.later (W0 := w) (by repeat (first | with_reducible assumption | with_reducible apply Tr.alloc | with_reducible apply Tr.drew | with_reducible apply Tr.drewN | with_reducible apply Tr.ext | with_reducible apply Tr.other)) hb; have r1 := t1.rules; simp only [Rules, World.size_alloc, World.size_drew, World.size_setCell] at r1; clear hb) | (go_at_call 9; with_reducible refine (H82.out _).mono ?_; rintro e w1 ⟨rfl, hb⟩; have t1 := Tr.later (W0 := w) (by repeat (first | with_reducible assumption | with_reducible apply Tr.alloc | with_reducible apply Tr.drew | with_reducible apply Tr.drewN | with_reducible apply Tr.ext | with_reducible apply Tr.other)) hb; have r1 := t1.rules; simp only [Rules, World.size_alloc, World.size_drew, World.size_setCell] at r1; clear hb) | (go_at_call 9; with_reducible refine (HPs.out _).mono ?_; rintro e w1 ⟨rfl, hb⟩; have t1 := Tr.later (W0 := w) (by repeat (first | with_reducible assumption | with_reducible apply Tr.alloc | with_reducible apply Tr.drew | with_reducible apply Tr.drewN | with_reducible apply Tr.ext | with_reducible apply Tr.other)) hb; have r1 := t1.rules; simp only [Rules, World.size_alloc, World.size_drew, World.size_setCell] at r1; clear hb) | (go_at_call 9; with_reducible refine (HPt.out _).mono ?_; rintro e w1 ⟨rfl, hb⟩; have t1 := Tr.later (W0 := w) (by repeat (first | with_reducible assumption | with_reducible apply Tr.alloc | with_reducible apply Tr.drew | with_reducible apply Tr.drewN | with_reducible apply Tr.ext | with_reducible apply Tr.other)) hb; have r1 := t1.rules; simp only [Rules, World.size_alloc, World.size_drew, World.size_setCell] at r1; clear hb) | (go_at_call 7; with_reducible refine (HRi.out _).mono ?_; rintro e w1 ⟨rfl, hb⟩; have t1 := Tr.later (W0 := w) (by repeat (first | with_reducible assumption | with_reducible apply Tr.alloc | with_reducible apply Tr.drew | with_reducible apply Tr.drewN | with_reducible apply Tr.ext | with_reducible apply Tr.other)) hb; have r1 := t1.rules; simp only [Rules, World.size_alloc, World.size_drew, World.size_setCell] at r1; clear hb))
  go_ret
  exact ⟨rfl, Tr.below (W0 := w) (by repeat (first | with_reducible assumption | with_reducible apply Tr.alloc | with_reducible apply Tr.drew | with_reducible apply Tr.drewN | with_reducible apply Tr.ext | with_reducible apply Tr.other))⟩
set_option maxHeartbeats 2000000 in
theorem back_zero_diff1a (q u v : Int) (t sa sb : ByteArray) (hTa : TextIs 0 0 sa) (hPs : ParsesTo sa 0 0 0) (he : sa.toList.isEmpty = false) (he2 : ¬ sa.toList = []) (hR : ∀ w, Calls Tryd.prog 7 #[st 0 0] w fun e w' => e = .returned (.bool false) ∧ Below w.heap.size w w') (hTb : TextIs 0 q sb) (hs : (sa.toList == sb.toList) = false) (z1 : (0 == q) = false) (z2 : (q == 0) = false) (hPt : ParsesTo t u v 0) (hTy : TextIs u v t) (w : World) (hT : Tab w) : Walk 0 0 0 q t w := by
  have HTa := Lib.hid hTa
  have HPs := Lib.hid hPs
  have HPt := Lib.hid hPt
  have HT := Lib.hid hT
  have HRi := Lib.hid hR
  have H82 := Lib.hid parse_82
  have HTb := Lib.hid hTb
  have HTy := Lib.hid hTy
  have hg1 := fun xs ys x y w => run_guard .eql xs ys x y w (Or.inl rfl)
  have hg2 := fun xs ys x y w => run_guard .neq xs ys x y w (Or.inr rfl)
  have t0 := Tr.nil w
  clear hTa hPs hPt hT hR hTb hTy
  unfold Walk
  go_enter Tryd.func5, Tryd.ntmps5
  go_wp2_with (first | (go_at_call 6; with_reducible refine (HTa.out _ (HT.out.later (Tr.below (W0 := w) (by repeat (first | with_reducible assumption | with_reducible apply Tr.alloc | with_reducible apply Tr.drew | with_reducible apply Tr.drewN | with_reducible apply Tr.ext | with_reducible apply Tr.other))))).mono ?_; rintro e w1 ⟨rfl, hb⟩; have t1 := Tr.later (W0 := w) (by repeat (first | with_reducible assumption | with_reducible apply Tr.alloc | with_reducible apply Tr.drew | with_reducible apply Tr.drewN | with_reducible apply Tr.ext | with_reducible apply Tr.other)) hb; have r1 := t1.rules; simp only [Rules, World.size_alloc, World.size_drew, World.size_setCell] at r1; clear hb) | (go_at_call 6; with_reducible refine (HTb.out _ (HT.out.later (Tr.below (W0 := w) (by repeat (first | with_reducible assumption | with_reducible apply Tr.alloc | with_reducible apply Tr.drew | with_reducible apply Tr.drewN | with_reducible apply Tr.ext | with_reducible apply Tr.other))))).mono ?_; rintro e w1 ⟨rfl, hb⟩; have t1 := Tr.later (W0 := w) (by repeat (first | with_reducible assumption | with_reducible apply Tr.alloc | with_reducible apply Tr.drew | with_reducible apply Tr.drewN | with_reducible apply Tr.ext | with_reducible apply Tr.other)) hb; have r1 := t1.rules; simp only [Rules, World.size_alloc, World.size_drew, World.size_setCell] at r1; clear hb) | (go_at_call 6; with_reducible refine (HTy.out _ (HT.out.later (Tr.below (W0 := w) (by repeat (first | with_reducible assumption | with_reducible apply Tr.alloc | with_reducible apply Tr.drew | with_reducible apply Tr.drewN | with_reducible apply Tr.ext | with_reducible apply Tr.other))))).mono ?_; rintro e w1 ⟨rfl, hb⟩; have t1 := Tr.later (W0 := w) (by repeat (first | with_reducible assumption | with_reducible apply Tr.alloc | with_reducible apply Tr.drew | with_reducible apply Tr.drewN | with_reducible apply Tr.ext | with_reducible apply Tr.other)) hb; have r1 := t1.rules; simp only [Rules, World.size_alloc, World.size_drew, World.size_setCell] at r1; clear hb) | (go_at_call 9; with_reducible refine (H82.out _).mono ?_; rintro e w1 ⟨rfl, hb⟩; have t1 := Tr.later (W0 := w) (by repeat (first | with_reducible assumption | with_reducible apply Tr.alloc | with_reducible apply Tr.drew | with_reducible apply Tr.drewN | with_reducible apply Tr.ext | with_reducible apply Tr.other)) hb; have r1 := t1.rules; simp only [Rules, World.size_alloc, World.size_drew, World.size_setCell] at r1; clear hb) | (go_at_call 9; with_reducible refine (HPs.out _).mono ?_; rintro e w1 ⟨rfl, hb⟩; have t1 := Tr.later (W0 := w) (by repeat (first | with_reducible assumption | with_reducible apply Tr.alloc | with_reducible apply Tr.drew | with_reducible apply Tr.drewN | with_reducible apply Tr.ext | with_reducible apply Tr.other)) hb; have r1 := t1.rules; simp only [Rules, World.size_alloc, World.size_drew, World.size_setCell] at r1; clear hb) | (go_at_call 9; with_reducible refine (HPt.out _).mono ?_; rintro e w1 ⟨rfl, hb⟩; have t1 := Tr.later (W0 := w) (by repeat (first | with_reducible assumption | with_reducible apply Tr.alloc | with_reducible apply Tr.drew | with_reducible apply Tr.drewN | with_reducible apply Tr.ext | with_reducible apply Tr.other)) hb; have r1 := t1.rules; simp only [Rules, World.size_alloc, World.size_drew, World.size_setCell] at r1; clear hb) | (go_at_call 7; with_reducible refine (HRi.out _).mono ?_; rintro e w1 ⟨rfl, hb⟩; have t1 := Tr.later (W0 := w) (by repeat (first | with_reducible assumption | with_reducible apply Tr.alloc | with_reducible apply Tr.drew | with_reducible apply Tr.drewN | with_reducible apply Tr.ext | with_reducible apply Tr.other)) hb; have r1 := t1.rules; simp only [Rules, World.size_alloc, World.size_drew, World.size_setCell] at r1; clear hb))
  go_ret
  exact ⟨rfl, Tr.below (W0 := w) (by repeat (first | with_reducible assumption | with_reducible apply Tr.alloc | with_reducible apply Tr.drew | with_reducible apply Tr.drewN | with_reducible apply Tr.ext | with_reducible apply Tr.other))⟩
set_option maxHeartbeats 2000000 in
theorem back_right_samea (n r u v : Int) (t sa sb : ByteArray) (hTa : TextIs n r sa) (hPs : ParsesTo sa n r 0) (he : sa.toList.isEmpty = false) (he2 : ¬ sa.toList = []) (hR : ∀ w, Calls Tryd.prog 7 #[st n r] w fun e w' => e = .returned (.bool true) ∧ Below w.heap.size w w') (hPt : ParsesTo t u v 0) (hTy : TextIs u v t) (w : World) (hT : Tab w) : Walk n r n r t w := by
  have HTa := Lib.hid hTa
  have HPs := Lib.hid hPs
  have HPt := Lib.hid hPt
  have HT := Lib.hid hT
  have HRi := Lib.hid hR
  have H82 := Lib.hid parse_82
  have HTy := Lib.hid hTy
  have hg1 := fun xs ys x y w => run_guard .eql xs ys x y w (Or.inl rfl)
  have hg2 := fun xs ys x y w => run_guard .neq xs ys x y w (Or.inr rfl)
  have t0 := Tr.nil w
  clear hTa hPs hPt hT hR hTy
  unfold Walk
  go_enter Tryd.func5, Tryd.ntmps5
  go_wp2_with (first | (go_at_call 6; with_reducible refine (HTa.out _ (HT.out.later (Tr.below (W0 := w) (by repeat (first | with_reducible assumption | with_reducible apply Tr.alloc | with_reducible apply Tr.drew | with_reducible apply Tr.drewN | with_reducible apply Tr.ext | with_reducible apply Tr.other))))).mono ?_; rintro e w1 ⟨rfl, hb⟩; have t1 := Tr.later (W0 := w) (by repeat (first | with_reducible assumption | with_reducible apply Tr.alloc | with_reducible apply Tr.drew | with_reducible apply Tr.drewN | with_reducible apply Tr.ext | with_reducible apply Tr.other)) hb; have r1 := t1.rules; simp only [Rules, World.size_alloc, World.size_drew, World.size_setCell] at r1; clear hb) | (go_at_call 6; with_reducible refine (HTy.out _ (HT.out.later (Tr.below (W0 := w) (by repeat (first | with_reducible assumption | with_reducible apply Tr.alloc | with_reducible apply Tr.drew | with_reducible apply Tr.drewN | with_reducible apply Tr.ext | with_reducible apply Tr.other))))).mono ?_; rintro e w1 ⟨rfl, hb⟩; have t1 := Tr.later (W0 := w) (by repeat (first | with_reducible assumption | with_reducible apply Tr.alloc | with_reducible apply Tr.drew | with_reducible apply Tr.drewN | with_reducible apply Tr.ext | with_reducible apply Tr.other)) hb; have r1 := t1.rules; simp only [Rules, World.size_alloc, World.size_drew, World.size_setCell] at r1; clear hb) | (go_at_call 9; with_reducible refine (H82.out _).mono ?_; rintro e w1 ⟨rfl, hb⟩; have t1 := Tr.later (W0 := w) (by repeat (first | with_reducible assumption | with_reducible apply Tr.alloc | with_reducible apply Tr.drew | with_reducible apply Tr.drewN | with_reducible apply Tr.ext | with_reducible apply Tr.other)) hb; have r1 := t1.rules; simp only [Rules, World.size_alloc, World.size_drew, World.size_setCell] at r1; clear hb) | (go_at_call 9; with_reducible refine (HPs.out _).mono ?_; rintro e w1 ⟨rfl, hb⟩; have t1 := Tr.later (W0 := w) (by repeat (first | with_reducible assumption | with_reducible apply Tr.alloc | with_reducible apply Tr.drew | with_reducible apply Tr.drewN | with_reducible apply Tr.ext | with_reducible apply Tr.other)) hb; have r1 := t1.rules; simp only [Rules, World.size_alloc, World.size_drew, World.size_setCell] at r1; clear hb) | (go_at_call 9; with_reducible refine (HPt.out _).mono ?_; rintro e w1 ⟨rfl, hb⟩; have t1 := Tr.later (W0 := w) (by repeat (first | with_reducible assumption | with_reducible apply Tr.alloc | with_reducible apply Tr.drew | with_reducible apply Tr.drewN | with_reducible apply Tr.ext | with_reducible apply Tr.other)) hb; have r1 := t1.rules; simp only [Rules, World.size_alloc, World.size_drew, World.size_setCell] at r1; clear hb) | (go_at_call 7; with_reducible refine (HRi.out _).mono ?_; rintro e w1 ⟨rfl, hb⟩; have t1 := Tr.later (W0 := w) (by repeat (first | with_reducible assumption | with_reducible apply Tr.alloc | with_reducible apply Tr.drew | with_reducible apply Tr.drewN | with_reducible apply Tr.ext | with_reducible apply Tr.other)) hb; have r1 := t1.rules; simp only [Rules, World.size_alloc, World.size_drew, World.size_setCell] at r1; clear hb))
  go_ret
  exact ⟨rfl, Tr.below (W0 := w) (by repeat (first | with_reducible assumption | with_reducible apply Tr.alloc | with_reducible apply Tr.drew | with_reducible apply Tr.drewN | with_reducible apply Tr.ext | with_reducible apply Tr.other))⟩
set_option maxHeartbeats 2000000 in
theorem back_right_diff0a (n r m q u v : Int) (t sa sb : ByteArray) (hTa : TextIs n r sa) (hPs : ParsesTo sa n r 0) (he : sa.toList.isEmpty = false) (he2 : ¬ sa.toList = []) (hR : ∀ w, Calls Tryd.prog 7 #[st n r] w fun e w' => e = .returned (.bool true) ∧ Below w.heap.size w w') (hTb : TextIs m q sb) (hs : (sa.toList == sb.toList) = false) (z1 : (n == m) = false) (z2 : (m == n) = false) (hPt : ParsesTo t u v 0) (hTy : TextIs u v t) (w : World) (hT : Tab w) : Walk n r m q t w := by
  have HTa := Lib.hid hTa
  have HPs := Lib.hid hPs
  have HPt := Lib.hid hPt
  have HT := Lib.hid hT
  have HRi := Lib.hid hR
  have H82 := Lib.hid parse_82
  have HTb := Lib.hid hTb
  have HTy := Lib.hid hTy
  have hg1 := fun xs ys x y w => run_guard .eql xs ys x y w (Or.inl rfl)
  have hg2 := fun xs ys x y w => run_guard .neq xs ys x y w (Or.inr rfl)
  have t0 := Tr.nil w
  clear hTa hPs hPt hT hR hTb hTy
  unfold Walk
  go_enter Tryd.func5, Tryd.ntmps5
  go_wp2_with (first | (go_at_call 6; with_reducible refine (HTa.out _ (HT.out.later (Tr.below (W0 := w) (by repeat (first | with_reducible assumption | with_reducible apply Tr.alloc | with_reducible apply Tr.drew | with_reducible apply Tr.drewN | with_reducible apply Tr.ext | with_reducible apply Tr.other))))).mono ?_; rintro e w1 ⟨rfl, hb⟩; have t1 := Tr.later (W0 := w) (by repeat (first | with_reducible assumption | with_reducible apply Tr.alloc | with_reducible apply Tr.drew | with_reducible apply Tr.drewN | with_reducible apply Tr.ext | with_reducible apply Tr.other)) hb; have r1 := t1.rules; simp only [Rules, World.size_alloc, World.size_drew, World.size_setCell] at r1; clear hb) | (go_at_call 6; with_reducible refine (HTb.out _ (HT.out.later (Tr.below (W0 := w) (by repeat (first | with_reducible assumption | with_reducible apply Tr.alloc | with_reducible apply Tr.drew | with_reducible apply Tr.drewN | with_reducible apply Tr.ext | with_reducible apply Tr.other))))).mono ?_; rintro e w1 ⟨rfl, hb⟩; have t1 := Tr.later (W0 := w) (by repeat (first | with_reducible assumption | with_reducible apply Tr.alloc | with_reducible apply Tr.drew | with_reducible apply Tr.drewN | with_reducible apply Tr.ext | with_reducible apply Tr.other)) hb; have r1 := t1.rules; simp only [Rules, World.size_alloc, World.size_drew, World.size_setCell] at r1; clear hb) | (go_at_call 6; with_reducible refine (HTy.out _ (HT.out.later (Tr.below (W0 := w) (by repeat (first | with_reducible assumption | with_reducible apply Tr.alloc | with_reducible apply Tr.drew | with_reducible apply Tr.drewN | with_reducible apply Tr.ext | with_reducible apply Tr.other))))).mono ?_; rintro e w1 ⟨rfl, hb⟩; have t1 := Tr.later (W0 := w) (by repeat (first | with_reducible assumption | with_reducible apply Tr.alloc | with_reducible apply Tr.drew | with_reducible apply Tr.drewN | with_reducible apply Tr.ext | with_reducible apply Tr.other)) hb; have r1 := t1.rules; simp only [Rules, World.size_alloc, World.size_drew, World.size_setCell] at r1; clear hb) | (go_at_call 9; with_reducible refine (H82.out _).mono ?_; rintro e w1 ⟨rfl, hb⟩; have t1 := Tr.later (W0 := w) (by repeat (first | with_reducible assumption | with_reducible apply Tr.alloc | with_reducible apply Tr.drew | with_reducible apply Tr.drewN | with_reducible apply Tr.ext | with_reducible apply Tr.other)) hb; have r1 := t1.rules; simp only [Rules, World.size_alloc, World.size_drew, World.size_setCell] at r1; clear hb) | (go_at_call 9; with_reducible refine (HPs.out _).mono ?_; rintro e w1 ⟨rfl, hb⟩; have t1 := Tr.later (W0 := w) (by repeat (first | with_reducible assumption | with_reducible apply Tr.alloc | with_reducible apply Tr.drew | with_reducible apply Tr.drewN | with_reducible apply Tr.ext | with_reducible apply Tr.other)) hb; have r1 := t1.rules; simp only [Rules, World.size_alloc, World.size_drew, World.size_setCell] at r1; clear hb) | (go_at_call 9; with_reducible refine (HPt.out _).mono ?_; rintro e w1 ⟨rfl, hb⟩; have t1 := Tr.later (W0 := w) (by repeat (first | with_reducible assumption | with_reducible apply Tr.alloc | with_reducible apply Tr.drew | with_reducible apply Tr.drewN | with_reducible apply Tr.ext | with_reducible apply Tr.other)) hb; have r1 := t1.rules; simp only [Rules, World.size_alloc, World.size_drew, World.size_setCell] at r1; clear hb) | (go_at_call 7; with_reducible refine (HRi.out _).mono ?_; rintro e w1 ⟨rfl, hb⟩; have t1 := Tr.later (W0 := w) (by repeat (first | with_reducible assumption | with_reducible apply Tr.alloc | with_reducible apply Tr.drew | with_reducible apply Tr.drewN | with_reducible apply Tr.ext | with_reducible apply Tr.other)) hb; have r1 := t1.rules; simp only [Rules, World.size_alloc, World.size_drew, World.size_setCell] at r1; clear hb))
  go_ret
  exact ⟨rfl, Tr.below (W0 := w) (by repeat (first | with_reducible assumption | with_reducible apply Tr.alloc | with_reducible apply Tr.drew | with_reducible apply Tr.drewN | with_reducible apply Tr.ext | with_reducible apply Tr.other))⟩
set_option maxHeartbeats 2000000 in
theorem back_right_diff1a (n r q u v : Int) (t sa sb : ByteArray) (hTa : TextIs n r sa) (hPs : ParsesTo sa n r 0) (he : sa.toList.isEmpty = false) (he2 : ¬ sa.toList = []) (hR : ∀ w, Calls Tryd.prog 7 #[st n r] w fun e w' => e = .returned (.bool true) ∧ Below w.heap.size w w') (hTb : TextIs n q sb) (hs : (sa.toList == sb.toList) = false) (z1 : (r == q) = false) (z2 : (q == r) = false) (hPt : ParsesTo t u v 0) (hTy : TextIs u v t) (w : World) (hT : Tab w) : Walk n r n q t w := by
  have HTa := Lib.hid hTa
  have HPs := Lib.hid hPs
  have HPt := Lib.hid hPt
  have HT := Lib.hid hT
  have HRi := Lib.hid hR
  have H82 := Lib.hid parse_82
  have HTb := Lib.hid hTb
  have HTy := Lib.hid hTy
  have hg1 := fun xs ys x y w => run_guard .eql xs ys x y w (Or.inl rfl)
  have hg2 := fun xs ys x y w => run_guard .neq xs ys x y w (Or.inr rfl)
  have t0 := Tr.nil w
  clear hTa hPs hPt hT hR hTb hTy
  unfold Walk
  go_enter Tryd.func5, Tryd.ntmps5
  go_wp2_with (first | (go_at_call 6; with_reducible refine (HTa.out _ (HT.out.later (Tr.below (W0 := w) (by repeat (first | with_reducible assumption | with_reducible apply Tr.alloc | with_reducible apply Tr.drew | with_reducible apply Tr.drewN | with_reducible apply Tr.ext | with_reducible apply Tr.other))))).mono ?_; rintro e w1 ⟨rfl, hb⟩; have t1 := Tr.later (W0 := w) (by repeat (first | with_reducible assumption | with_reducible apply Tr.alloc | with_reducible apply Tr.drew | with_reducible apply Tr.drewN | with_reducible apply Tr.ext | with_reducible apply Tr.other)) hb; have r1 := t1.rules; simp only [Rules, World.size_alloc, World.size_drew, World.size_setCell] at r1; clear hb) | (go_at_call 6; with_reducible refine (HTb.out _ (HT.out.later (Tr.below (W0 := w) (by repeat (first | with_reducible assumption | with_reducible apply Tr.alloc | with_reducible apply Tr.drew | with_reducible apply Tr.drewN | with_reducible apply Tr.ext | with_reducible apply Tr.other))))).mono ?_; rintro e w1 ⟨rfl, hb⟩; have t1 := Tr.later (W0 := w) (by repeat (first | with_reducible assumption | with_reducible apply Tr.alloc | with_reducible apply Tr.drew | with_reducible apply Tr.drewN | with_reducible apply Tr.ext | with_reducible apply Tr.other)) hb; have r1 := t1.rules; simp only [Rules, World.size_alloc, World.size_drew, World.size_setCell] at r1; clear hb) | (go_at_call 6; with_reducible refine (HTy.out _ (HT.out.later (Tr.below (W0 := w) (by repeat (first | with_reducible assumption | with_reducible apply Tr.alloc | with_reducible apply Tr.drew | with_reducible apply Tr.drewN | with_reducible apply Tr.ext | with_reducible apply Tr.other))))).mono ?_; rintro e w1 ⟨rfl, hb⟩; have t1 := Tr.later (W0 := w) (by repeat (first | with_reducible assumption | with_reducible apply Tr.alloc | with_reducible apply Tr.drew | with_reducible apply Tr.drewN | with_reducible apply Tr.ext | with_reducible apply Tr.other)) hb; have r1 := t1.rules; simp only [Rules, World.size_alloc, World.size_drew, World.size_setCell] at r1; clear hb) | (go_at_call 9; with_reducible refine (H82.out _).mono ?_; rintro e w1 ⟨rfl, hb⟩; have t1 := Tr.later (W0 := w) (by repeat (first | with_reducible assumption | with_reducible apply Tr.alloc | with_reducible apply Tr.drew | with_reducible apply Tr.drewN | with_reducible apply Tr.ext | with_reducible apply Tr.other)) hb; have r1 := t1.rules; simp only [Rules, World.size_alloc, World.size_drew, World.size_setCell] at r1; clear hb) | (go_at_call 9; with_reducible refine (HPs.out _).mono ?_; rintro e w1 ⟨rfl, hb⟩; have t1 := Tr.later (W0 := w) (by repeat (first | with_reducible assumption | with_reducible apply Tr.alloc | with_reducible apply Tr.drew | with_reducible apply Tr.drewN | with_reducible apply Tr.ext | with_reducible apply Tr.other)) hb; have r1 := t1.rules; simp only [Rules, World.size_alloc, World.size_drew, World.size_setCell] at r1; clear hb) | (go_at_call 9; with_reducible refine (HPt.out _).mono ?_; rintro e w1 ⟨rfl, hb⟩; have t1 := Tr.later (W0 := w) (by repeat (first | with_reducible assumption | with_reducible apply Tr.alloc | with_reducible apply Tr.drew | with_reducible apply Tr.drewN | with_reducible apply Tr.ext | with_reducible apply Tr.other)) hb; have r1 := t1.rules; simp only [Rules, World.size_alloc, World.size_drew, World.size_setCell] at r1; clear hb) | (go_at_call 7; with_reducible refine (HRi.out _).mono ?_; rintro e w1 ⟨rfl, hb⟩; have t1 := Tr.later (W0 := w) (by repeat (first | with_reducible assumption | with_reducible apply Tr.alloc | with_reducible apply Tr.drew | with_reducible apply Tr.drewN | with_reducible apply Tr.ext | with_reducible apply Tr.other)) hb; have r1 := t1.rules; simp only [Rules, World.size_alloc, World.size_drew, World.size_setCell] at r1; clear hb))
  go_ret
  exact ⟨rfl, Tr.below (W0 := w) (by repeat (first | with_reducible assumption | with_reducible apply Tr.alloc | with_reducible apply Tr.drew | with_reducible apply Tr.drewN | with_reducible apply Tr.ext | with_reducible apply Tr.other))⟩
set_option maxHeartbeats 2000000 in
theorem back_no0b (n r m q u v x1 x2 e1 : Int) (t sa sb : ByteArray) (hTa : TextIs n r sa) (hPs : ParsesTo sa x1 x2 e1) (he : sa.toList.isEmpty = true) (he2 : sa.toList = []) (z1 : (n == 0) = false) (hR : ∀ w, Calls Tryd.prog 7 #[st n r] w fun e w' => e = .returned (.bool false) ∧ Below w.heap.size w w') (hPt : ParsesTo t u v 12) (w : World) (hT : Tab w) : Walk n r m q t w := by
  have HTa := Lib.hid hTa
  have HPs := Lib.hid hPs
  have HPt := Lib.hid hPt
  have HT := Lib.hid hT
  have HRi := Lib.hid hR
  have H82 := Lib.hid parse_82
  have hg1 := fun xs ys x y w => run_guard .eql xs ys x y w (Or.inl rfl)
  have hg2 := fun xs ys x y w => run_guard .neq xs ys x y w (Or.inr rfl)
  have t0 := Tr.nil w
  clear hTa hPs hPt hT hR 
  unfold Walk
  go_enter Tryd.func5, Tryd.ntmps5
  go_wp2_with (first | (go_at_call 6; with_reducible refine (HTa.out _ (HT.out.later (Tr.below (W0 := w) (by repeat (first | with_reducible assumption | with_reducible apply Tr.alloc | with_reducible apply Tr.drew | with_reducible apply Tr.drewN | with_reducible apply Tr.ext | with_reducible apply Tr.other))))).mono ?_; rintro e w1 ⟨rfl, hb⟩; have t1 := Tr.later (W0 := w) (by repeat (first | with_reducible assumption | with_reducible apply Tr.alloc | with_reducible apply Tr.drew | with_reducible apply Tr.drewN | with_reducible apply Tr.ext | with_reducible apply Tr.other)) hb; have r1 := t1.rules; simp only [Rules, World.size_alloc, World.size_drew, World.size_setCell] at r1; clear hb) | (go_at_call 9; with_reducible refine (H82.out _).mono ?_; rintro e w1 ⟨rfl, hb⟩; have t1 := Tr.later (W0 := w) (by repeat (first | with_reducible assumption | with_reducible apply Tr.alloc | with_reducible apply Tr.drew | with_reducible apply Tr.drewN | with_reducible apply Tr.ext | with_reducible apply Tr.other)) hb; have r1 := t1.rules; simp only [Rules, World.size_alloc, World.size_drew, World.size_setCell] at r1; clear hb) | (go_at_call 9; with_reducible refine (HPs.out _).mono ?_; rintro e w1 ⟨rfl, hb⟩; have t1 := Tr.later (W0 := w) (by repeat (first | with_reducible assumption | with_reducible apply Tr.alloc | with_reducible apply Tr.drew | with_reducible apply Tr.drewN | with_reducible apply Tr.ext | with_reducible apply Tr.other)) hb; have r1 := t1.rules; simp only [Rules, World.size_alloc, World.size_drew, World.size_setCell] at r1; clear hb) | (go_at_call 9; with_reducible refine (HPt.out _).mono ?_; rintro e w1 ⟨rfl, hb⟩; have t1 := Tr.later (W0 := w) (by repeat (first | with_reducible assumption | with_reducible apply Tr.alloc | with_reducible apply Tr.drew | with_reducible apply Tr.drewN | with_reducible apply Tr.ext | with_reducible apply Tr.other)) hb; have r1 := t1.rules; simp only [Rules, World.size_alloc, World.size_drew, World.size_setCell] at r1; clear hb) | (go_at_call 7; with_reducible refine (HRi.out _).mono ?_; rintro e w1 ⟨rfl, hb⟩; have t1 := Tr.later (W0 := w) (by repeat (first | with_reducible assumption | with_reducible apply Tr.alloc | with_reducible apply Tr.drew | with_reducible apply Tr.drewN | with_reducible apply Tr.ext | with_reducible apply Tr.other)) hb; have r1 := t1.rules; simp only [Rules, World.size_alloc, World.size_drew, World.size_setCell] at r1; clear hb))
  go_ret
  exact ⟨rfl, Tr.below (W0 := w) (by repeat (first | with_reducible assumption | with_reducible apply Tr.alloc | with_reducible apply Tr.drew | with_reducible apply Tr.drewN | with_reducible apply Tr.ext | with_reducible apply Tr.other))⟩
set_option maxHeartbeats 2000000 in
theorem back_no1b (r m q u v x1 x2 e1 : Int) (t sa sb : ByteArray) (hTa : TextIs 0 r sa) (hPs : ParsesTo sa x1 x2 e1) (he : sa.toList.isEmpty = true) (he2 : sa.toList = []) (z1 : (r == 0) = false) (hR : ∀ w, Calls Tryd.prog 7 #[st 0 r] w fun e w' => e = .returned (.bool false) ∧ Below w.heap.size w w') (hPt : ParsesTo t u v 12) (w : World) (hT : Tab w) : Walk 0 r m q t w := by
  have HTa := Lib.hid hTa
  have HPs := Lib.hid hPs
  have HPt := Lib.hid hPt
  have HT := Lib.hid hT
  have HRi := Lib.hid hR
  have H82 := Lib.hid parse_82
  have hg1 := fun xs ys x y w => run_guard .eql xs ys x y w (Or.inl rfl)
  have hg2 := fun xs ys x y w => run_guard .neq xs ys x y w (Or.inr rfl)
  have t0 := Tr.nil w
  clear hTa hPs hPt hT hR 
  unfold Walk
  go_enter Tryd.func5, Tryd.ntmps5
  go_wp2_with (first | (go_at_call 6; with_reducible refine (HTa.out _ (HT.out.later (Tr.below (W0 := w) (by repeat (first | with_reducible assumption | with_reducible apply Tr.alloc | with_reducible apply Tr.drew | with_reducible apply Tr.drewN | with_reducible apply Tr.ext | with_reducible apply Tr.other))))).mono ?_; rintro e w1 ⟨rfl, hb⟩; have t1 := Tr.later (W0 := w) (by repeat (first | with_reducible assumption | with_reducible apply Tr.alloc | with_reducible apply Tr.drew | with_reducible apply Tr.drewN | with_reducible apply Tr.ext | with_reducible apply Tr.other)) hb; have r1 := t1.rules; simp only [Rules, World.size_alloc, World.size_drew, World.size_setCell] at r1; clear hb) | (go_at_call 9; with_reducible refine (H82.out _).mono ?_; rintro e w1 ⟨rfl, hb⟩; have t1 := Tr.later (W0 := w) (by repeat (first | with_reducible assumption | with_reducible apply Tr.alloc | with_reducible apply Tr.drew | with_reducible apply Tr.drewN | with_reducible apply Tr.ext | with_reducible apply Tr.other)) hb; have r1 := t1.rules; simp only [Rules, World.size_alloc, World.size_drew, World.size_setCell] at r1; clear hb) | (go_at_call 9; with_reducible refine (HPs.out _).mono ?_; rintro e w1 ⟨rfl, hb⟩; have t1 := Tr.later (W0 := w) (by repeat (first | with_reducible assumption | with_reducible apply Tr.alloc | with_reducible apply Tr.drew | with_reducible apply Tr.drewN | with_reducible apply Tr.ext | with_reducible apply Tr.other)) hb; have r1 := t1.rules; simp only [Rules, World.size_alloc, World.size_drew, World.size_setCell] at r1; clear hb) | (go_at_call 9; with_reducible refine (HPt.out _).mono ?_; rintro e w1 ⟨rfl, hb⟩; have t1 := Tr.later (W0 := w) (by repeat (first | with_reducible assumption | with_reducible apply Tr.alloc | with_reducible apply Tr.drew | with_reducible apply Tr.drewN | with_reducible apply Tr.ext | with_reducible apply Tr.other)) hb; have r1 := t1.rules; simp only [Rules, World.size_alloc, World.size_drew, World.size_setCell] at r1; clear hb) | (go_at_call 7; with_reducible refine (HRi.out _).mono ?_; rintro e w1 ⟨rfl, hb⟩; have t1 := Tr.later (W0 := w) (by repeat (first | with_reducible assumption | with_reducible apply Tr.alloc | with_reducible apply Tr.drew | with_reducible apply Tr.drewN | with_reducible apply Tr.ext | with_reducible apply Tr.other)) hb; have r1 := t1.rules; simp only [Rules, World.size_alloc, World.size_drew, World.size_setCell] at r1; clear hb))
  go_ret
  exact ⟨rfl, Tr.below (W0 := w) (by repeat (first | with_reducible assumption | with_reducible apply Tr.alloc | with_reducible apply Tr.drew | with_reducible apply Tr.drewN | with_reducible apply Tr.ext | with_reducible apply Tr.other))⟩
set_option maxHeartbeats 2000000 in
theorem back_zero_sameb (u v : Int) (t sa sb : ByteArray) (hTa : TextIs 0 0 sa) (hPs : ParsesTo sa 0 0 0) (he : sa.toList.isEmpty = false) (he2 : ¬ sa.toList = []) (hR : ∀ w, Calls Tryd.prog 7 #[st 0 0] w fun e w' => e = .returned (.bool false) ∧ Below w.heap.size w w') (hPt : ParsesTo t u v 12) (w : World) (hT : Tab w) : Walk 0 0 0 0 t w := by
  have HTa := Lib.hid hTa
  have HPs := Lib.hid hPs
  have HPt := Lib.hid hPt
  have HT := Lib.hid hT
  have HRi := Lib.hid hR
  have H82 := Lib.hid parse_82
  have hg1 := fun xs ys x y w => run_guard .eql xs ys x y w (Or.inl rfl)
  have hg2 := fun xs ys x y w => run_guard .neq xs ys x y w (Or.inr rfl)
  have t0 := Tr.nil w
  clear hTa hPs hPt hT hR 
  unfold Walk
  go_enter Tryd.func5, Tryd.ntmps5
  go_wp2_with (first | (go_at_call 6; with_reducible refine (HTa.out _ (HT.out.later (Tr.below (W0 := w) (by repeat (first | with_reducible assumption | with_reducible apply Tr.alloc | with_reducible apply Tr.drew | with_reducible apply Tr.drewN | with_reducible apply Tr.ext | with_reducible apply Tr.other))))).mono ?_; rintro e w1 ⟨rfl, hb⟩; have t1 := Tr.later (W0 := w) (by repeat (first | with_reducible assumption | with_reducible apply Tr.alloc | with_reducible apply Tr.drew | with_reducible apply Tr.drewN | with_reducible apply Tr.ext | with_reducible apply Tr.other)) hb; have r1 := t1.rules; simp only [Rules, World.size_alloc, World.size_drew, World.size_setCell] at r1; clear hb) | (go_at_call 9; with_reducible refine (H82.out _).mono ?_; rintro e w1 ⟨rfl, hb⟩; have t1 := Tr.later (W0 := w) (by repeat (first | with_reducible assumption | with_reducible apply Tr.alloc | with_reducible apply Tr.drew | with_reducible apply Tr.drewN | with_reducible apply Tr.ext | with_reducible apply Tr.other)) hb; have r1 := t1.rules; simp only [Rules, World.size_alloc, World.size_drew, World.size_setCell] at r1; clear hb) | (go_at_call 9; with_reducible refine (HPs.out _).mono ?_; rintro e w1 ⟨rfl, hb⟩; have t1 := Tr.later (W0 := w) (by repeat (first | with_reducible assumption | with_reducible apply Tr.alloc | with_reducible apply Tr.drew | with_reducible apply Tr.drewN | with_reducible apply Tr.ext | with_reducible apply Tr.other)) hb; have r1 := t1.rules; simp only [Rules, World.size_alloc, World.size_drew, World.size_setCell] at r1; clear hb) | (go_at_call 9; with_reducible refine (HPt.out _).mono ?_; rintro e w1 ⟨rfl, hb⟩; have t1 := Tr.later (W0 := w) (by repeat (first | with_reducible assumption | with_reducible apply Tr.alloc | with_reducible apply Tr.drew | with_reducible apply Tr.drewN | with_reducible apply Tr.ext | with_reducible apply Tr.other)) hb; have r1 := t1.rules; simp only [Rules, World.size_alloc, World.size_drew, World.size_setCell] at r1; clear hb) | (go_at_call 7; with_reducible refine (HRi.out _).mono ?_; rintro e w1 ⟨rfl, hb⟩; have t1 := Tr.later (W0 := w) (by repeat (first | with_reducible assumption | with_reducible apply Tr.alloc | with_reducible apply Tr.drew | with_reducible apply Tr.drewN | with_reducible apply Tr.ext | with_reducible apply Tr.other)) hb; have r1 := t1.rules; simp only [Rules, World.size_alloc, World.size_drew, World.size_setCell] at r1; clear hb))
  go_ret
  exact ⟨rfl, Tr.below (W0 := w) (by repeat (first | with_reducible assumption | with_reducible apply Tr.alloc | with_reducible apply Tr.drew | with_reducible apply Tr.drewN | with_reducible apply Tr.ext | with_reducible apply Tr.other))⟩
set_option maxHeartbeats 2000000 in
theorem back_zero_diff0b (m q u v : Int) (t sa sb : ByteArray) (hTa : TextIs 0 0 sa) (hPs : ParsesTo sa 0 0 0) (he : sa.toList.isEmpty = false) (he2 : ¬ sa.toList = []) (hR : ∀ w, Calls Tryd.prog 7 #[st 0 0] w fun e w' => e = .returned (.bool false) ∧ Below w.heap.size w w') (hTb : TextIs m q sb) (hs : (sa.toList == sb.toList) = false) (z1 : (0 == m) = false) (z2 : (m == 0) = false) (hPt : ParsesTo t u v 12) (w : World) (hT : Tab w) : Walk 0 0 m q t w := by
  have HTa := Lib.hid hTa
  have HPs := Lib.hid hPs
  have HPt := Lib.hid hPt
  have HT := Lib.hid hT
  have HRi := Lib.hid hR
  have H82 := Lib.hid parse_82
  have HTb := Lib.hid hTb
  have hg1 := fun xs ys x y w => run_guard .eql xs ys x y w (Or.inl rfl)
  have hg2 := fun xs ys x y w => run_guard .neq xs ys x y w (Or.inr rfl)
  have t0 := Tr.nil w
  clear hTa hPs hPt hT hR hTb 
  unfold Walk
  go_enter Tryd.func5, Tryd.ntmps5
  go_wp2_with (first | (go_at_call 6; with_reducible refine (HTa.out _ (HT.out.later (Tr.below (W0 := w) (by repeat (first | with_reducible assumption | with_reducible apply Tr.alloc | with_reducible apply Tr.drew | with_reducible apply Tr.drewN | with_reducible apply Tr.ext | with_reducible apply Tr.other))))).mono ?_; rintro e w1 ⟨rfl, hb⟩; have t1 := Tr.later (W0 := w) (by repeat (first | with_reducible assumption | with_reducible apply Tr.alloc | with_reducible apply Tr.drew | with_reducible apply Tr.drewN | with_reducible apply Tr.ext | with_reducible apply Tr.other)) hb; have r1 := t1.rules; simp only [Rules, World.size_alloc, World.size_drew, World.size_setCell] at r1; clear hb) | (go_at_call 6; with_reducible refine (HTb.out _ (HT.out.later (Tr.below (W0 := w) (by repeat (first | with_reducible assumption | with_reducible apply Tr.alloc | with_reducible apply Tr.drew | with_reducible apply Tr.drewN | with_reducible apply Tr.ext | with_reducible apply Tr.other))))).mono ?_; rintro e w1 ⟨rfl, hb⟩; have t1 := Tr.later (W0 := w) (by repeat (first | with_reducible assumption | with_reducible apply Tr.alloc | with_reducible apply Tr.drew | with_reducible apply Tr.drewN | with_reducible apply Tr.ext | with_reducible apply Tr.other)) hb; have r1 := t1.rules; simp only [Rules, World.size_alloc, World.size_drew, World.size_setCell] at r1; clear hb) | (go_at_call 9; with_reducible refine (H82.out _).mono ?_; rintro e w1 ⟨rfl, hb⟩; have t1 := Tr.later (W0 := w) (by repeat (first | with_reducible assumption | with_reducible apply Tr.alloc | with_reducible apply Tr.drew | with_reducible apply Tr.drewN | with_reducible apply Tr.ext | with_reducible apply Tr.other)) hb; have r1 := t1.rules; simp only [Rules, World.size_alloc, World.size_drew, World.size_setCell] at r1; clear hb) | (go_at_call 9; with_reducible refine (HPs.out _).mono ?_; rintro e w1 ⟨rfl, hb⟩; have t1 := Tr.later (W0 := w) (by repeat (first | with_reducible assumption | with_reducible apply Tr.alloc | with_reducible apply Tr.drew | with_reducible apply Tr.drewN | with_reducible apply Tr.ext | with_reducible apply Tr.other)) hb; have r1 := t1.rules; simp only [Rules, World.size_alloc, World.size_drew, World.size_setCell] at r1; clear hb) | (go_at_call 9; with_reducible refine (HPt.out _).mono ?_; rintro e w1 ⟨rfl, hb⟩; have t1 := Tr.later (W0 := w) (by repeat (first | with_reducible assumption | with_reducible apply Tr.alloc | with_reducible apply Tr.drew | with_reducible apply Tr.drewN | with_reducible apply Tr.ext | with_reducible apply Tr.other)) hb; have r1 := t1.rules; simp only [Rules, World.size_alloc, World.size_drew, World.size_setCell] at r1; clear hb) | (go_at_call 7; with_reducible refine (HRi.out _).mono ?_; rintro e w1 ⟨rfl, hb⟩; have t1 := Tr.later (W0 := w) (by repeat (first | with_reducible assumption | with_reducible apply Tr.alloc | with_reducible apply Tr.drew | with_reducible apply Tr.drewN | with_reducible apply Tr.ext | with_reducible apply Tr.other)) hb; have r1 := t1.rules; simp only [Rules, World.size_alloc, World.size_drew, World.size_setCell] at r1; clear hb))
  go_ret
  exact ⟨rfl, Tr.below (W0 := w) (by repeat (first | with_reducible assumption | with_reducible apply Tr.alloc | with_reducible apply Tr.drew | with_reducible apply Tr.drewN | with_reducible apply Tr.ext | with_reducible apply Tr.other))⟩
set_option maxHeartbeats 2000000 in
theorem back_zero_diff1b (q u v : Int) (t sa sb : ByteArray) (hTa : TextIs 0 0 sa) (hPs : ParsesTo sa 0 0 0) (he : sa.toList.isEmpty = false) (he2 : ¬ sa.toList = []) (hR : ∀ w, Calls Tryd.prog 7 #[st 0 0] w fun e w' => e = .returned (.bool false) ∧ Below w.heap.size w w') (hTb : TextIs 0 q sb) (hs : (sa.toList == sb.toList) = false) (z1 : (0 == q) = false) (z2 : (q == 0) = false) (hPt : ParsesTo t u v 12) (w : World) (hT : Tab w) : Walk 0 0 0 q t w := by
  have HTa := Lib.hid hTa
  have HPs := Lib.hid hPs
  have HPt := Lib.hid hPt
  have HT := Lib.hid hT
  have HRi := Lib.hid hR
  have H82 := Lib.hid parse_82
  have HTb := Lib.hid hTb
  have hg1 := fun xs ys x y w => run_guard .eql xs ys x y w (Or.inl rfl)
  have hg2 := fun xs ys x y w => run_guard .neq xs ys x y w (Or.inr rfl)
  have t0 := Tr.nil w
  clear hTa hPs hPt hT hR hTb 
  unfold Walk
  go_enter Tryd.func5, Tryd.ntmps5
  go_wp2_with (first | (go_at_call 6; with_reducible refine (HTa.out _ (HT.out.later (Tr.below (W0 := w) (by repeat (first | with_reducible assumption | with_reducible apply Tr.alloc | with_reducible apply Tr.drew | with_reducible apply Tr.drewN | with_reducible apply Tr.ext | with_reducible apply Tr.other))))).mono ?_; rintro e w1 ⟨rfl, hb⟩; have t1 := Tr.later (W0 := w) (by repeat (first | with_reducible assumption | with_reducible apply Tr.alloc | with_reducible apply Tr.drew | with_reducible apply Tr.drewN | with_reducible apply Tr.ext | with_reducible apply Tr.other)) hb; have r1 := t1.rules; simp only [Rules, World.size_alloc, World.size_drew, World.size_setCell] at r1; clear hb) | (go_at_call 6; with_reducible refine (HTb.out _ (HT.out.later (Tr.below (W0 := w) (by repeat (first | with_reducible assumption | with_reducible apply Tr.alloc | with_reducible apply Tr.drew | with_reducible apply Tr.drewN | with_reducible apply Tr.ext | with_reducible apply Tr.other))))).mono ?_; rintro e w1 ⟨rfl, hb⟩; have t1 := Tr.later (W0 := w) (by repeat (first | with_reducible assumption | with_reducible apply Tr.alloc | with_reducible apply Tr.drew | with_reducible apply Tr.drewN | with_reducible apply Tr.ext | with_reducible apply Tr.other)) hb; have r1 := t1.rules; simp only [Rules, World.size_alloc, World.size_drew, World.size_setCell] at r1; clear hb) | (go_at_call 9; with_reducible refine (H82.out _).mono ?_; rintro e w1 ⟨rfl, hb⟩; have t1 := Tr.later (W0 := w) (by repeat (first | with_reducible assumption | with_reducible apply Tr.alloc | with_reducible apply Tr.drew | with_reducible apply Tr.drewN | with_reducible apply Tr.ext | with_reducible apply Tr.other)) hb; have r1 := t1.rules; simp only [Rules, World.size_alloc, World.size_drew, World.size_setCell] at r1; clear hb) | (go_at_call 9; with_reducible refine (HPs.out _).mono ?_; rintro e w1 ⟨rfl, hb⟩; have t1 := Tr.later (W0 := w) (by repeat (first | with_reducible assumption | with_reducible apply Tr.alloc | with_reducible apply Tr.drew | with_reducible apply Tr.drewN | with_reducible apply Tr.ext | with_reducible apply Tr.other)) hb; have r1 := t1.rules; simp only [Rules, World.size_alloc, World.size_drew, World.size_setCell] at r1; clear hb) | (go_at_call 9; with_reducible refine (HPt.out _).mono ?_; rintro e w1 ⟨rfl, hb⟩; have t1 := Tr.later (W0 := w) (by repeat (first | with_reducible assumption | with_reducible apply Tr.alloc | with_reducible apply Tr.drew | with_reducible apply Tr.drewN | with_reducible apply Tr.ext | with_reducible apply Tr.other)) hb; have r1 := t1.rules; simp only [Rules, World.size_alloc, World.size_drew, World.size_setCell] at r1; clear hb) | (go_at_call 7; with_reducible refine (HRi.out _).mono ?_; rintro e w1 ⟨rfl, hb⟩; have t1 := Tr.later (W0 := w) (by repeat (first | with_reducible assumption | with_reducible apply Tr.alloc | with_reducible apply Tr.drew | with_reducible apply Tr.drewN | with_reducible apply Tr.ext | with_reducible apply Tr.other)) hb; have r1 := t1.rules; simp only [Rules, World.size_alloc, World.size_drew, World.size_setCell] at r1; clear hb))
  go_ret
  exact ⟨rfl, Tr.below (W0 := w) (by repeat (first | with_reducible assumption | with_reducible apply Tr.alloc | with_reducible apply Tr.drew | with_reducible apply Tr.drewN | with_reducible apply Tr.ext | with_reducible apply Tr.other))⟩
set_option maxHeartbeats 2000000 in
theorem back_right_sameb (n r u v : Int) (t sa sb : ByteArray) (hTa : TextIs n r sa) (hPs : ParsesTo sa n r 0) (he : sa.toList.isEmpty = false) (he2 : ¬ sa.toList = []) (hR : ∀ w, Calls Tryd.prog 7 #[st n r] w fun e w' => e = .returned (.bool true) ∧ Below w.heap.size w w') (hPt : ParsesTo t u v 12) (w : World) (hT : Tab w) : Walk n r n r t w := by
  have HTa := Lib.hid hTa
  have HPs := Lib.hid hPs
  have HPt := Lib.hid hPt
  have HT := Lib.hid hT
  have HRi := Lib.hid hR
  have H82 := Lib.hid parse_82
  have hg1 := fun xs ys x y w => run_guard .eql xs ys x y w (Or.inl rfl)
  have hg2 := fun xs ys x y w => run_guard .neq xs ys x y w (Or.inr rfl)
  have t0 := Tr.nil w
  clear hTa hPs hPt hT hR 
  unfold Walk
  go_enter Tryd.func5, Tryd.ntmps5
  go_wp2_with (first | (go_at_call 6; with_reducible refine (HTa.out _ (HT.out.later (Tr.below (W0 := w) (by repeat (first | with_reducible assumption | with_reducible apply Tr.alloc | with_reducible apply Tr.drew | with_reducible apply Tr.drewN | with_reducible apply Tr.ext | with_reducible apply Tr.other))))).mono ?_; rintro e w1 ⟨rfl, hb⟩; have t1 := Tr.later (W0 := w) (by repeat (first | with_reducible assumption | with_reducible apply Tr.alloc | with_reducible apply Tr.drew | with_reducible apply Tr.drewN | with_reducible apply Tr.ext | with_reducible apply Tr.other)) hb; have r1 := t1.rules; simp only [Rules, World.size_alloc, World.size_drew, World.size_setCell] at r1; clear hb) | (go_at_call 9; with_reducible refine (H82.out _).mono ?_; rintro e w1 ⟨rfl, hb⟩; have t1 := Tr.later (W0 := w) (by repeat (first | with_reducible assumption | with_reducible apply Tr.alloc | with_reducible apply Tr.drew | with_reducible apply Tr.drewN | with_reducible apply Tr.ext | with_reducible apply Tr.other)) hb; have r1 := t1.rules; simp only [Rules, World.size_alloc, World.size_drew, World.size_setCell] at r1; clear hb) | (go_at_call 9; with_reducible refine (HPs.out _).mono ?_; rintro e w1 ⟨rfl, hb⟩; have t1 := Tr.later (W0 := w) (by repeat (first | with_reducible assumption | with_reducible apply Tr.alloc | with_reducible apply Tr.drew | with_reducible apply Tr.drewN | with_reducible apply Tr.ext | with_reducible apply Tr.other)) hb; have r1 := t1.rules; simp only [Rules, World.size_alloc, World.size_drew, World.size_setCell] at r1; clear hb) | (go_at_call 9; with_reducible refine (HPt.out _).mono ?_; rintro e w1 ⟨rfl, hb⟩; have t1 := Tr.later (W0 := w) (by repeat (first | with_reducible assumption | with_reducible apply Tr.alloc | with_reducible apply Tr.drew | with_reducible apply Tr.drewN | with_reducible apply Tr.ext | with_reducible apply Tr.other)) hb; have r1 := t1.rules; simp only [Rules, World.size_alloc, World.size_drew, World.size_setCell] at r1; clear hb) | (go_at_call 7; with_reducible refine (HRi.out _).mono ?_; rintro e w1 ⟨rfl, hb⟩; have t1 := Tr.later (W0 := w) (by repeat (first | with_reducible assumption | with_reducible apply Tr.alloc | with_reducible apply Tr.drew | with_reducible apply Tr.drewN | with_reducible apply Tr.ext | with_reducible apply Tr.other)) hb; have r1 := t1.rules; simp only [Rules, World.size_alloc, World.size_drew, World.size_setCell] at r1; clear hb))
  go_ret
  exact ⟨rfl, Tr.below (W0 := w) (by repeat (first | with_reducible assumption | with_reducible apply Tr.alloc | with_reducible apply Tr.drew | with_reducible apply Tr.drewN | with_reducible apply Tr.ext | with_reducible apply Tr.other))⟩
set_option maxHeartbeats 2000000 in
theorem back_right_diff0b (n r m q u v : Int) (t sa sb : ByteArray) (hTa : TextIs n r sa) (hPs : ParsesTo sa n r 0) (he : sa.toList.isEmpty = false) (he2 : ¬ sa.toList = []) (hR : ∀ w, Calls Tryd.prog 7 #[st n r] w fun e w' => e = .returned (.bool true) ∧ Below w.heap.size w w') (hTb : TextIs m q sb) (hs : (sa.toList == sb.toList) = false) (z1 : (n == m) = false) (z2 : (m == n) = false) (hPt : ParsesTo t u v 12) (w : World) (hT : Tab w) : Walk n r m q t w := by
  have HTa := Lib.hid hTa
  have HPs := Lib.hid hPs
  have HPt := Lib.hid hPt
  have HT := Lib.hid hT
  have HRi := Lib.hid hR
  have H82 := Lib.hid parse_82
  have HTb := Lib.hid hTb
  have hg1 := fun xs ys x y w => run_guard .eql xs ys x y w (Or.inl rfl)
  have hg2 := fun xs ys x y w => run_guard .neq xs ys x y w (Or.inr rfl)
  have t0 := Tr.nil w
  clear hTa hPs hPt hT hR hTb 
  unfold Walk
  go_enter Tryd.func5, Tryd.ntmps5
  go_wp2_with (first | (go_at_call 6; with_reducible refine (HTa.out _ (HT.out.later (Tr.below (W0 := w) (by repeat (first | with_reducible assumption | with_reducible apply Tr.alloc | with_reducible apply Tr.drew | with_reducible apply Tr.drewN | with_reducible apply Tr.ext | with_reducible apply Tr.other))))).mono ?_; rintro e w1 ⟨rfl, hb⟩; have t1 := Tr.later (W0 := w) (by repeat (first | with_reducible assumption | with_reducible apply Tr.alloc | with_reducible apply Tr.drew | with_reducible apply Tr.drewN | with_reducible apply Tr.ext | with_reducible apply Tr.other)) hb; have r1 := t1.rules; simp only [Rules, World.size_alloc, World.size_drew, World.size_setCell] at r1; clear hb) | (go_at_call 6; with_reducible refine (HTb.out _ (HT.out.later (Tr.below (W0 := w) (by repeat (first | with_reducible assumption | with_reducible apply Tr.alloc | with_reducible apply Tr.drew | with_reducible apply Tr.drewN | with_reducible apply Tr.ext | with_reducible apply Tr.other))))).mono ?_; rintro e w1 ⟨rfl, hb⟩; have t1 := Tr.later (W0 := w) (by repeat (first | with_reducible assumption | with_reducible apply Tr.alloc | with_reducible apply Tr.drew | with_reducible apply Tr.drewN | with_reducible apply Tr.ext | with_reducible apply Tr.other)) hb; have r1 := t1.rules; simp only [Rules, World.size_alloc, World.size_drew, World.size_setCell] at r1; clear hb) | (go_at_call 9; with_reducible refine (H82.out _).mono ?_; rintro e w1 ⟨rfl, hb⟩; have t1 := Tr.later (W0 := w) (by repeat (first | with_reducible assumption | with_reducible apply Tr.alloc | with_reducible apply Tr.drew | with_reducible apply Tr.drewN | with_reducible apply Tr.ext | with_reducible apply Tr.other)) hb; have r1 := t1.rules; simp only [Rules, World.size_alloc, World.size_drew, World.size_setCell] at r1; clear hb) | (go_at_call 9; with_reducible refine (HPs.out _).mono ?_; rintro e w1 ⟨rfl, hb⟩; have t1 := Tr.later (W0 := w) (by repeat (first | with_reducible assumption | with_reducible apply Tr.alloc | with_reducible apply Tr.drew | with_reducible apply Tr.drewN | with_reducible apply Tr.ext | with_reducible apply Tr.other)) hb; have r1 := t1.rules; simp only [Rules, World.size_alloc, World.size_drew, World.size_setCell] at r1; clear hb) | (go_at_call 9; with_reducible refine (HPt.out _).mono ?_; rintro e w1 ⟨rfl, hb⟩; have t1 := Tr.later (W0 := w) (by repeat (first | with_reducible assumption | with_reducible apply Tr.alloc | with_reducible apply Tr.drew | with_reducible apply Tr.drewN | with_reducible apply Tr.ext | with_reducible apply Tr.other)) hb; have r1 := t1.rules; simp only [Rules, World.size_alloc, World.size_drew, World.size_setCell] at r1; clear hb) | (go_at_call 7; with_reducible refine (HRi.out _).mono ?_; rintro e w1 ⟨rfl, hb⟩; have t1 := Tr.later (W0 := w) (by repeat (first | with_reducible assumption | with_reducible apply Tr.alloc | with_reducible apply Tr.drew | with_reducible apply Tr.drewN | with_reducible apply Tr.ext | with_reducible apply Tr.other)) hb; have r1 := t1.rules; simp only [Rules, World.size_alloc, World.size_drew, World.size_setCell] at r1; clear hb))
  go_ret
  exact ⟨rfl, Tr.below (W0 := w) (by repeat (first | with_reducible assumption | with_reducible apply Tr.alloc | with_reducible apply Tr.drew | with_reducible apply Tr.drewN | with_reducible apply Tr.ext | with_reducible apply Tr.other))⟩
set_option maxHeartbeats 2000000 in
theorem back_right_diff1b (n r q u v : Int) (t sa sb : ByteArray) (hTa : TextIs n r sa) (hPs : ParsesTo sa n r 0) (he : sa.toList.isEmpty = false) (he2 : ¬ sa.toList = []) (hR : ∀ w, Calls Tryd.prog 7 #[st n r] w fun e w' => e = .returned (.bool true) ∧ Below w.heap.size w w') (hTb : TextIs n q sb) (hs : (sa.toList == sb.toList) = false) (z1 : (r == q) = false) (z2 : (q == r) = false) (hPt : ParsesTo t u v 12) (w : World) (hT : Tab w) : Walk n r n q t w := by
  have HTa := Lib.hid hTa
  have HPs := Lib.hid hPs
  have HPt := Lib.hid hPt
  have HT := Lib.hid hT
  have HRi := Lib.hid hR
  have H82 := Lib.hid parse_82
  have HTb := Lib.hid hTb
  have hg1 := fun xs ys x y w => run_guard .eql xs ys x y w (Or.inl rfl)
  have hg2 := fun xs ys x y w => run_guard .neq xs ys x y w (Or.inr rfl)
  have t0 := Tr.nil w
  clear hTa hPs hPt hT hR hTb 
  unfold Walk
  go_enter Tryd.func5, Tryd.ntmps5
  go_wp2_with (first | (go_at_call 6; with_reducible refine (HTa.out _ (HT.out.later (Tr.below (W0 := w) (by repeat (first | with_reducible assumption | with_reducible apply Tr.alloc | with_reducible apply Tr.drew | with_reducible apply Tr.drewN | with_reducible apply Tr.ext | with_reducible apply Tr.other))))).mono ?_; rintro e w1 ⟨rfl, hb⟩; have t1 := Tr.later (W0 := w) (by repeat (first | with_reducible assumption | with_reducible apply Tr.alloc | with_reducible apply Tr.drew | with_reducible apply Tr.drewN | with_reducible apply Tr.ext | with_reducible apply Tr.other)) hb; have r1 := t1.rules; simp only [Rules, World.size_alloc, World.size_drew, World.size_setCell] at r1; clear hb) | (go_at_call 6; with_reducible refine (HTb.out _ (HT.out.later (Tr.below (W0 := w) (by repeat (first | with_reducible assumption | with_reducible apply Tr.alloc | with_reducible apply Tr.drew | with_reducible apply Tr.drewN | with_reducible apply Tr.ext | with_reducible apply Tr.other))))).mono ?_; rintro e w1 ⟨rfl, hb⟩; have t1 := Tr.later (W0 := w) (by repeat (first | with_reducible assumption | with_reducible apply Tr.alloc | with_reducible apply Tr.drew | with_reducible apply Tr.drewN | with_reducible apply Tr.ext | with_reducible apply Tr.other)) hb; have r1 := t1.rules; simp only [Rules, World.size_alloc, World.size_drew, World.size_setCell] at r1; clear hb) | (go_at_call 9; with_reducible refine (H82.out _).mono ?_; rintro e w1 ⟨rfl, hb⟩; have t1 := Tr.later (W0 := w) (by repeat (first | with_reducible assumption | with_reducible apply Tr.alloc | with_reducible apply Tr.drew | with_reducible apply Tr.drewN | with_reducible apply Tr.ext | with_reducible apply Tr.other)) hb; have r1 := t1.rules; simp only [Rules, World.size_alloc, World.size_drew, World.size_setCell] at r1; clear hb) | (go_at_call 9; with_reducible refine (HPs.out _).mono ?_; rintro e w1 ⟨rfl, hb⟩; have t1 := Tr.later (W0 := w) (by repeat (first | with_reducible assumption | with_reducible apply Tr.alloc | with_reducible apply Tr.drew | with_reducible apply Tr.drewN | with_reducible apply Tr.ext | with_reducible apply Tr.other)) hb; have r1 := t1.rules; simp only [Rules, World.size_alloc, World.size_drew, World.size_setCell] at r1; clear hb) | (go_at_call 9; with_reducible refine (HPt.out _).mono ?_; rintro e w1 ⟨rfl, hb⟩; have t1 := Tr.later (W0 := w) (by repeat (first | with_reducible assumption | with_reducible apply Tr.alloc | with_reducible apply Tr.drew | with_reducible apply Tr.drewN | with_reducible apply Tr.ext | with_reducible apply Tr.other)) hb; have r1 := t1.rules; simp only [Rules, World.size_alloc, World.size_drew, World.size_setCell] at r1; clear hb) | (go_at_call 7; with_reducible refine (HRi.out _).mono ?_; rintro e w1 ⟨rfl, hb⟩; have t1 := Tr.later (W0 := w) (by repeat (first | with_reducible assumption | with_reducible apply Tr.alloc | with_reducible apply Tr.drew | with_reducible apply Tr.drewN | with_reducible apply Tr.ext | with_reducible apply Tr.other)) hb; have r1 := t1.rules; simp only [Rules, World.size_alloc, World.size_drew, World.size_setCell] at r1; clear hb))
  go_ret
  exact ⟨rfl, Tr.below (W0 := w) (by repeat (first | with_reducible assumption | with_reducible apply Tr.alloc | with_reducible apply Tr.drew | with_reducible apply Tr.drewN | with_reducible apply Tr.ext | with_reducible apply Tr.other))⟩
theorem back_walk (n r m q : Int) (hn : IntKind.i64.has n) (hr : IntKind.i64.has r) (hm : IntKind.i64.has m) (hq : IntKind.i64.has q) (t : ByteArray) (ht : t.size ≤ maxLen) (w : World) (hT : Tab w) : Walk n r m q t w := by
  obtain ⟨u, v, f, hp⟩ := parsed_some t
  have hPt : ParsesTo t u v f := fun w => parse_any t ht u v f hp w
  have hTa : TextIs n r (txt n r) := fun w hT => text_any n r hn hr w hT
  have hTb : TextIs m q (txt m q) := fun w hT => text_any m q hm hq w hT
  have hfin : (f = 0 ∧ TextIs u v t) ∨ f = 12 := by
    rcases hp with ⟨h0, h1, h2⟩ | ⟨h0, _⟩
    · refine Or.inl ⟨h0, fun w hT => ?_⟩
      obtain ⟨k0, k1, k2, k3⟩ := okS_range h1
      have c := text_any u v (has64 (by omega) (by omega)) (has64 (by omega) (by omega)) w hT
      rwa [txt_okS h1, ← h2] at c
    · exact Or.inr h0
  by_cases hok : okS n r
  · have es := txt_okS hok
    have hsz : (txt n r).size ≤ maxLen := by
      obtain ⟨k0, k1, k2, k3⟩ := okS_range hok
      have a1 := (scan_numeral_of k0 k1).2.2.2.2
      have a2 := (scan_numeral_of k2 (by omega : r ≤ 1048576)).2.2.2.2
      rw [es, show (txtL n r).size = (txtL n r).data.toList.length from rfl, txtL_data]
      simp only [List.length_append, List.length_cons]
      unfold maxLen; omega
    have hPs : ParsesTo (txt n r) n r 0 := fun w => parse_any _ hsz n r 0 (Or.inl ⟨rfl, hok, es⟩) w
    have he2 : ¬ (txt n r).toList = [] := by rw [es]; exact txtL_ne n r
    have he : (txt n r).toList.isEmpty = false := by simpa using he2
    have hs : ¬ (n = m ∧ r = q) → ((txt n r).toList == (txt m q).toList) = false := fun hne => by
      rw [beq_eq_false_iff_ne]
      intro e
      have e := (toList_eq_iff _ _).1 e
      rw [es] at e
      exact hne (txt_same hok e)
    by_cases hz : n = 0 ∧ r = 0
    · obtain ⟨rfl, rfl⟩ := hz
      have hR := fun w => bool_of (show rightB 0 0 = false by decide) (right0_any 0 0 w)
      by_cases c1 : m = 0
      · by_cases c2 : q = 0
        · subst c1; subst c2
          rcases hfin with ⟨rfl, hy⟩ | rfl
          · exact back_zero_samea u v t _ t hTa hPs he he2 hR hPt hy w hT
          · exact back_zero_sameb u v t _ t hTa hPs he he2 hR hPt w hT
        · subst c1
          have hs := hs (fun h => c2 h.2.symm)
          rcases hfin with ⟨rfl, hy⟩ | rfl
          · exact back_zero_diff1a q u v t _ _ hTa hPs he he2 hR hTb hs (beq_eq_false_iff_ne.2 (Ne.symm c2)) (beq_eq_false_iff_ne.2 c2) hPt hy w hT
          · exact back_zero_diff1b q u v t _ _ hTa hPs he he2 hR hTb hs (beq_eq_false_iff_ne.2 (Ne.symm c2)) (beq_eq_false_iff_ne.2 c2) hPt w hT
      · have hs := hs (fun h => c1 h.1.symm)
        rcases hfin with ⟨rfl, hy⟩ | rfl
        · exact back_zero_diff0a m q u v t _ _ hTa hPs he he2 hR hTb hs (beq_eq_false_iff_ne.2 (Ne.symm c1)) (beq_eq_false_iff_ne.2 c1) hPt hy w hT
        · exact back_zero_diff0b m q u v t _ _ hTa hPs he he2 hR hTb hs (beq_eq_false_iff_ne.2 (Ne.symm c1)) (beq_eq_false_iff_ne.2 c1) hPt w hT
    · have hB : rightB n r = true := hok.resolve_left hz
      have hR := fun w => bool_of hB (right0_any n r w)
      by_cases c1 : m = n
      · by_cases c2 : q = r
        · subst c1; subst c2
          rcases hfin with ⟨rfl, hy⟩ | rfl
          · exact back_right_samea m q u v t _ t hTa hPs he he2 hR hPt hy w hT
          · exact back_right_sameb m q u v t _ t hTa hPs he he2 hR hPt w hT
        · subst c1
          have hs := hs (fun h => c2 h.2.symm)
          rcases hfin with ⟨rfl, hy⟩ | rfl
          · exact back_right_diff1a m r q u v t _ _ hTa hPs he he2 hR hTb hs (beq_eq_false_iff_ne.2 (Ne.symm c2)) (beq_eq_false_iff_ne.2 c2) hPt hy w hT
          · exact back_right_diff1b m r q u v t _ _ hTa hPs he he2 hR hTb hs (beq_eq_false_iff_ne.2 (Ne.symm c2)) (beq_eq_false_iff_ne.2 c2) hPt w hT
      · have hs := hs (fun h => c1 h.1.symm)
        rcases hfin with ⟨rfl, hy⟩ | rfl
        · exact back_right_diff0a n r m q u v t _ _ hTa hPs he he2 hR hTb hs (beq_eq_false_iff_ne.2 (Ne.symm c1)) (beq_eq_false_iff_ne.2 c1) hPt hy w hT
        · exact back_right_diff0b n r m q u v t _ _ hTa hPs he he2 hR hTb hs (beq_eq_false_iff_ne.2 (Ne.symm c1)) (beq_eq_false_iff_ne.2 c1) hPt w hT
  · have es := txt_nok hok
    have hsz : (txt n r).size ≤ maxLen := by rw [es]; exact Nat.zero_le _
    obtain ⟨x1, x2, e1, hq⟩ := parsed_some (txt n r)
    have hPs : ParsesTo (txt n r) x1 x2 e1 := fun w => parse_any _ hsz x1 x2 e1 hq w
    have he2 : (txt n r).toList = [] := by rw [es, ByteArray.toList_eq]
    have he : (txt n r).toList.isEmpty = true := by rw [he2]; rfl
    have hB : rightB n r = false := by
      cases hx : rightB n r with
      | false => rfl
      | true => exact absurd (Or.inr hx) hok
    have hR := fun w => bool_of hB (right0_any n r w)
    by_cases c1 : n = 0
    · have c2 : ¬ r = 0 := fun c2 => hok (Or.inl ⟨c1, c2⟩)
      subst c1
      rcases hfin with ⟨rfl, hy⟩ | rfl
      · exact back_no1a r m q u v x1 x2 e1 t _ t hTa hPs he he2 (beq_eq_false_iff_ne.2 c2) hR hPt hy w hT
      · exact back_no1b r m q u v x1 x2 e1 t _ t hTa hPs he he2 (beq_eq_false_iff_ne.2 c2) hR hPt w hT
    · rcases hfin with ⟨rfl, hy⟩ | rfl
      · exact back_no0a n r m q u v x1 x2 e1 t _ t hTa hPs he he2 (beq_eq_false_iff_ne.2 c1) hR hPt hy w hT
      · exact back_no0b n r m q u v x1 x2 e1 t _ t hTa hPs he he2 (beq_eq_false_iff_ne.2 c1) hR hPt w hT

theorem stampBack_door (os : Os) (args : Array Value) : laidMet Tryd.prog Rows.stampBackRow.laid ((World.doorLaid Tryd.prog 3000 os).forCall (fun _ _ => 0) ⟨#[], args, []⟩).memory :=
  laidMet_of_run' 8 (by kernel_rfl) (by kernel_rfl)
theorem stampBack_reads (os : Os) {H : Type} (enc : TypeId × Value → H) : DataW.whole enc Tryd.prog ((World.doorLaid Tryd.prog 3000 os).forCall (fun _ _ => 0) ⟨#[], #[.agg #[.int .i64 0, .int .i64 0], .agg #[.int .i64 0, .int .i64 0], .string ⟨#[]⟩], []⟩).memory Tryd.f5.params.toList Rows.stampBackSpec.vars false #[.agg #[.int .i64 0, .int .i64 0], .agg #[.int .i64 0, .int .i64 0], .string ⟨#[]⟩].toList 8 = some ([.agg [.lit (.int .i64 0), .lit (.int .i64 0)], .agg [.lit (.int .i64 0), .lit (.int .i64 0)], .lit (.string [])], [], []) := by kernel_rfl
set_option maxRecDepth 100000 in
theorem stampBack_lifted (os : Os) (started : os.Started) (H : Type) (enc : TypeId × Value → H) (F : Stop.Interp) :
    ReturnsInHanded {} Tryd.checked os 5 .any ((OpenSpec.ofChange Rows.stampBackSpec).preRow enc Tryd.prog Tryd.f5 Rows.stampBackRow.domain false Rows.stampBackRow.laid) (((OpenSpec.ofChange Rows.stampBackSpec).at F).post enc Tryd.prog Tryd.f5 false true false false) := by
  have hx := stampBack_reads os enc
  refine returnsInHanded_of_row (C := Tryd.checked) (s := OpenSpec.ofChange Rows.stampBackSpec) own started (by kernel_rfl) Tryd.func5
    (witness_row_at (enc := enc) (C := Tryd.checked) false (World.doorLaid Tryd.prog 3000 os) #[.agg #[.int .i64 0, .int .i64 0], .agg #[.int .i64 0, .int .i64 0], .string ⟨#[]⟩] rfl (by kernel_rfl) (by kernel_rfl) (by kernel_rfl)
      (OpenSpec.preRow_of_cond 8 hx (by kernel_rfl) (fun k hk => by cases hk) (by kernel_rfl) (stampBack_door os _))) ?_
  intro W base args ds gs before hval0 hW _ _ _ hL _ _
  have hval : ∀ (j : Nat) t v, Tryd.f5.params[j]? = some t → args[j]? = some v → Value.okWide Tryd.prog W .any base t v := hval0
  have hW' := hW
  obtain ⟨p, q, hA0, hV, rfl, hfz, hnd⟩ := hW
  have hA : DataW.TrodAll enc Tryd.prog W 0 (fun _ => true) true Tryd.f5.params.toList args.toList ds p := hA0
  rw [Tryd.params5] at hA hval
  obtain ⟨v0, vs0, d0, ds0, p0, q0, hargs, rfl, rfl, h0, r0⟩ := trodAll_cons hA
  obtain ⟨v1, vs1, d1, ds1, p1, q1, rfl, rfl, rfl, h1, r1⟩ := trodAll_cons r0
  obtain ⟨v2, vs2, d2, ds2, p2, q2, rfl, rfl, rfl, h2, r2⟩ := trodAll_cons r1
  obtain ⟨rfl, rfl, rfl⟩ := trodAll_nil r2
  obtain rfl : args = #[v0, v1, v2] := by cases args; simp_all
  obtain ⟨rfl, rfl⟩ := trodVars_none hV
  have lt0 : ∀ x ∈ p0, x.block < W.heap.size := by obtain ⟨m, hm⟩ := h0; exact DataW.trod_lt m _ _ _ hm
  have lt1 : ∀ x ∈ p1, x.block < W.heap.size := by obtain ⟨m, hm⟩ := h1; exact DataW.trod_lt m _ _ _ hm
  have lt2 : ∀ x ∈ p2, x.block < W.heap.size := by obtain ⟨m, hm⟩ := h2; exact DataW.trod_lt m _ _ _ hm
  have hTab : Tab W := tab_of_laid hL
  obtain ⟨x0, y0, rfl, ix0, iy0⟩ := open_st (hval 0 23 v0 rfl rfl)
  obtain ⟨x1, y1, rfl, ix1, iy1⟩ := open_st (hval 1 23 v1 rfl rfl)
  obtain ⟨s2, rfl, rfl, rfl, hz2⟩ := open_string Tryd.underlying9 (hval 2 9 v2 rfl rfl) h2
  clear hA0 hval0
  refine (back_walk x0 y0 x1 y1 ix0 iy0 ix1 iy1 s2 hz2 W hTab).mono fun e W' ⟨he, bel⟩ => ?_
  subst he
  exact ⟨_, rfl, _, _, _, [], _, [], hW', trodAll_mk1 (shut_bool Tryd.underlying4 _), (trodAll_cons_mk (Below.trod laidOut (by kernel_rfl) (of_decide_eq_true (by kernel_rfl)) h0 bel lt0) (trodAll_cons_mk (Below.trod laidOut (by kernel_rfl) (of_decide_eq_true (by kernel_rfl)) h1 bel lt1) (trodAll_cons_mk (Below.trod laidOut (by kernel_rfl) (of_decide_eq_true (by kernel_rfl)) h2 bel lt2) trodAll_mk0))), rfl, bel.frame _, fun h => by cases h⟩

theorem stampBack_said : Rows.StampBackSaid :=
  OpenClaim.holds_of_cond 5 Tryd.f5 rfl rfl rfl rfl rfl rfl rfl ⟨rfl, rfl, rfl, rfl, rfl⟩ rfl rfl rfl rfl rfl (by kernel_rfl) Tryd.func5 (by kernel_rfl)
    (of_decide_eq_true (by kernel_rfl)) (by unfold Func.isWrapper; first | (rw [if_pos (by decide +kernel)]; kernel_rfl) | (rw [if_neg (by decide +kernel)]; exact ⟨rfl, rfl⟩))
    (fun os started H enc _ F => by rw [OpenClaim.pre_eq_preRow]; exact stampBack_lifted os started H enc F)
theorem stampBack_plain (f : FuncId) (fn : Func) (hf : Tryd.pinned.checked.prog.funcNamed "stemma/stemmalaw01.StampBack" = some f) (hfn : Tryd.pinned.checked.prog.funcs[f]? = some fn) :
    false = Tryd.pinned.checked.prog.looks [] ∧ ∀ (j : Nat) t, fn.params[j]? = some t → Tryd.pinned.checked.prog.wantsStandIn t = false := by
  obtain rfl : f = 5 := Option.some.inj ((show Tryd.prog.funcNamed "stemma/stemmalaw01.StampBack" = some 5 by kernel_rfl).symm.trans hf) |>.symm
  obtain rfl : fn = Tryd.f5 := (Option.some.inj (Tryd.func5.symm.trans hfn)).symm
  refine ⟨by kernel_rfl, fun j t ht => ?_⟩
  rw [Tryd.params5] at ht
  have hm : t ∈ [23, 23, 9] := by simpa using Array.mem_of_getElem? ht
  have all : ∀ t ∈ [23, 23, 9], Tryd.prog.wantsStandIn t = false := by
    simp only [List.forall_mem_cons, List.not_mem_nil, false_imp_iff, implies_true, and_true]
    exact ⟨(by kernel_rfl), (by kernel_rfl), (by kernel_rfl)⟩
  exact all t hm
theorem stampBack_holds : Rows.StampBackCardSaid :=
  Claim7.holds_tied_plain_at .later [] _ _ _ _ stampBack_said (fun _ h => by cases h) (by kernel_rfl) (fun _ h => by cases h) stampBack_row_tie rfl ⟨rfl, rfl⟩ (by kernel_rfl) rfl stampBack_plain (by kernel_rfl)

end Go.Proofs.YtpkbkcjegbpifaaDoor
