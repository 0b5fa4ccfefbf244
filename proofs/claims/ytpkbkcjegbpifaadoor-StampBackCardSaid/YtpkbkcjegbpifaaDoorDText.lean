/- THE TEXT OF A STAMP: package stamp's Text: over the shelf's strconv.Itoa, which reads a table. -/
import Derived.Test.YtpkbkcjegbpifaaDoorStamp
import Derived.Test.YtpkbkcjegbpifaaDoorDShelf
import Derived.Lib.SmallJoins
import Derived.Lib.AppendIntMem
import Derived.Lib.ItoaLen
import Derived.Lib.Hide
namespace Go.Proofs.YtpkbkcjegbpifaaDoor
open Go.RowKit Go.Lib Go.Joins
set_option linter.unusedSimpArgs false
set_option linter.unusedVariables false

/-- strconv's table lies as it was laid -/
def Tab (w : World) : Prop := Lib.TabIs Tryd.prog w "internal/strconv.uint64pow10" .u64 Lib.pow10Tab
theorem tab_name : ∃ g, Tryd.prog.globalNamed "internal/strconv.uint64pow10" = some g := ⟨1, by kernel_rfl⟩
theorem Tab.later {w w' : World} (h : Tab w) (hb : Below w.heap.size w w') : Tab w' := by
  obtain ⟨g, hg⟩ := tab_name
  exact tab_stays hg h hb (Nat.le_refl _)
theorem has64 {n : Int} (h0 : -9223372036854775808 ≤ n) (h1 : n ≤ 9223372036854775807) : IntKind.i64.has n := by
  simp [IntKind.has, IntKind.min, IntKind.max, IntKind.signed, IntKind.bits]
  omega
def itS (n : Int) : ByteArray := ⟨(Lib.itoa n).toArray⟩
theorem itS_size (n : Int) (h : IntKind.i64.has n) : (itS n).size ≤ 21 := by
  have hb : -9223372036854775808 ≤ n ∧ n ≤ 9223372036854775807 := by
    simp [IntKind.has, IntKind.min, IntKind.max, IntKind.signed, IntKind.bits] at h
    omega
  have := Lib.itoa_length_le n hb.1 hb.2
  simpa [itS, ByteArray.size] using this
theorem itS_one (x : Nat) (h : x ≤ 21) : ¬ (x + 1 > 9223372036854775807) ∧ ¬ (9223372036854775807 < x + 1) ∧ ¬ (9223372036854775807 ≤ x) ∧ ¬ (9223372036854775806 < x) := by omega
theorem itS_two (x y : Nat) (h : x ≤ 21) (k : y ≤ 21) : ¬ (x + 1 + y > 9223372036854775807) ∧ ¬ (9223372036854775807 < x + 1 + y) := by omega
theorem itoa_any (n : Int) (h : IntKind.i64.has n) (w : World) (hT : Tab w) : Calls Tryd.prog 12 #[.int .i64 n] w fun e w' => e = .returned (.string (itS n)) ∧ Below w.heap.size w w' := by
  have hb : -9223372036854775808 ≤ n ∧ n ≤ 9223372036854775807 := by
    simp [IntKind.has, IntKind.min, IntKind.max, IntKind.signed, IntKind.bits] at h
    omega
  exact (Tryd.strconv_Itoa n hb.1 hb.2 w hT).mono fun _ _ ⟨he, k, os, hw⟩ => ⟨he, hw ▸ below_grow _ _ (Nat.le_refl _) _ _⟩
def txtL (n r : Int) : ByteArray := itS n ++ ⟨#[46]⟩ ++ itS r
def txt (n r : Int) : ByteArray := if (n = 0 ∧ r = 0) ∨ rightB n r = true then txtL n r else ⟨#[]⟩
theorem run_guard (o : BinOp) (xs ys : Array Value) (x y : Operand) (w : World) (h : o = .eql ∨ o = .neq) : (eqGuard o 23 x y (.agg xs) (.agg ys)).run Tryd.prog w = .ok () w := by
  rcases h with rfl | rfl <;> kernel_rfl

set_option maxHeartbeats 1000000 in
theorem text_any (n r : Int) (hn : IntKind.i64.has n) (hr : IntKind.i64.has r) (w : World) (hT : Tab w) : Calls Tryd.prog 6 #[st n r] w fun e w' => e = .returned (.string (txt n r)) ∧ Below w.heap.size w w' := by
  have hg1 := fun xs ys x y w => run_guard .eql xs ys x y w (Or.inl rfl)
  have hg2 := fun xs ys x y w => run_guard .neq xs ys x y w (Or.inr rfl)
  have t0 := Tr.nil w
  by_cases h0 : n = 0
  · subst h0
    by_cases h1 : r = 0
    · subst h1
      rw [show txt 0 0 = txtL 0 0 from if_pos (Or.inl ⟨rfl, rfl⟩)]
      have HN := Lib.hid hn
      have z1 := itS_size 0 hn
      obtain ⟨c1, c2, c3, c4⟩ := itS_one _ z1
      obtain ⟨c5, c6⟩ := itS_two _ _ z1 z1
      clear hn hr
      go_enter Tryd.func6, Tryd.ntmps6
      go_wp2
      refine wp_name (W0 := w) (by repeat (first | with_reducible assumption | with_reducible apply Tr.alloc | with_reducible apply Tr.drew | with_reducible apply Tr.drewN | with_reducible apply Tr.ext | with_reducible apply Tr.other)) (fun x tx rx => ?_); simp only [Rules, World.size_alloc, World.size_drew, World.size_setCell] at rx
      have hE := fun e => hT.later (tx.ext (e := e)).below
      refine region_ext (by kernel_rfl) (by kernel_rfl) ?_
      repeat (go_big_quiet_step ((go_at_call 12; with_reducible exact calls_ext (itoa_any _ HN.out _ (hE _)))))
      refine wpQuiet_nil ?_
      rintro _ ⟨nq, rfl⟩
      go_wp2
      go_ret
      exact ⟨rfl, Tr.below (W0 := w) (by repeat (first | with_reducible assumption | with_reducible apply Tr.alloc | with_reducible apply Tr.drew | with_reducible apply Tr.drewN | with_reducible apply Tr.ext | with_reducible apply Tr.other))⟩
    · rw [show txt 0 r = ⟨#[]⟩ from if_neg (fun h => h.elim (fun h => h1 h.2) (fun h => by simp [rightB] at h))]
      have hR := fun w => bool_of (show rightB 0 r = false by simp [rightB]) (right0_any 0 r w)
      have b1 : (r == 0) = false := by simpa using h1
      clear h1
      go_enter Tryd.func6, Tryd.ntmps6
      go_wp2_with (go_at_call 7; with_reducible refine (hR _).mono ?_; rintro e w1 ⟨rfl, hb⟩; have t1 := Tr.later (W0 := w) (by repeat (first | with_reducible assumption | with_reducible apply Tr.alloc | with_reducible apply Tr.drew | with_reducible apply Tr.drewN | with_reducible apply Tr.ext | with_reducible apply Tr.other)) hb; have r1 := t1.rules; simp only [Rules, World.size_alloc, World.size_drew, World.size_setCell] at r1; clear hb)
      go_ret
      exact ⟨rfl, Tr.below (W0 := w) (by repeat (first | with_reducible assumption | with_reducible apply Tr.alloc | with_reducible apply Tr.drew | with_reducible apply Tr.drewN | with_reducible apply Tr.ext | with_reducible apply Tr.other))⟩
  · have b0 : (n == 0) = false := by simpa using h0
    cases hB : rightB n r with
    | true =>
      rw [show txt n r = txtL n r from if_pos (Or.inr hB)]
      have hR := fun w => bool_of hB (right0_any n r w)
      have HN := Lib.hid hn
      have HR := Lib.hid hr
      have z1 := itS_size n hn
      have z2 := itS_size r hr
      obtain ⟨c1, c2, c3, c4⟩ := itS_one _ z1
      obtain ⟨c5, c6⟩ := itS_two _ _ z1 z2
      clear hn hr h0
      go_enter Tryd.func6, Tryd.ntmps6
      go_wp2_with (go_at_call 7; with_reducible refine (hR _).mono ?_; rintro e w1 ⟨rfl, hb⟩; have t1 := Tr.later (W0 := w) (by repeat (first | with_reducible assumption | with_reducible apply Tr.alloc | with_reducible apply Tr.drew | with_reducible apply Tr.drewN | with_reducible apply Tr.ext | with_reducible apply Tr.other)) hb; have r1 := t1.rules; simp only [Rules, World.size_alloc, World.size_drew, World.size_setCell] at r1; clear hb)
      refine wp_name (W0 := w) (by repeat (first | with_reducible assumption | with_reducible apply Tr.alloc | with_reducible apply Tr.drew | with_reducible apply Tr.drewN | with_reducible apply Tr.ext | with_reducible apply Tr.other)) (fun x tx rx => ?_); simp only [Rules, World.size_alloc, World.size_drew, World.size_setCell] at rx
      have hE := fun e => hT.later (tx.ext (e := e)).below
      refine region_ext (by kernel_rfl) (by kernel_rfl) ?_
      repeat (go_big_quiet_step ((go_at_call 12; first | with_reducible exact calls_ext (itoa_any n HN.out _ (hE _)) | with_reducible exact calls_ext (itoa_any r HR.out _ (hE _)))))
      refine wpQuiet_nil ?_
      rintro _ ⟨nq, rfl⟩
      go_wp2
      go_ret
      exact ⟨rfl, Tr.below (W0 := w) (by repeat (first | with_reducible assumption | with_reducible apply Tr.alloc | with_reducible apply Tr.drew | with_reducible apply Tr.drewN | with_reducible apply Tr.ext | with_reducible apply Tr.other))⟩
    | false =>
      rw [show txt n r = ⟨#[]⟩ from if_neg (fun h => h.elim (fun h => h0 h.1) (fun h => by rw [hB] at h; cases h))]
      have hR := fun w => bool_of hB (right0_any n r w)
      clear h0
      go_enter Tryd.func6, Tryd.ntmps6
      go_wp2_with (go_at_call 7; with_reducible refine (hR _).mono ?_; rintro e w1 ⟨rfl, hb⟩; have t1 := Tr.later (W0 := w) (by repeat (first | with_reducible assumption | with_reducible apply Tr.alloc | with_reducible apply Tr.drew | with_reducible apply Tr.drewN | with_reducible apply Tr.ext | with_reducible apply Tr.other)) hb; have r1 := t1.rules; simp only [Rules, World.size_alloc, World.size_drew, World.size_setCell] at r1; clear hb)
      go_ret
      exact ⟨rfl, Tr.below (W0 := w) (by repeat (first | with_reducible assumption | with_reducible apply Tr.alloc | with_reducible apply Tr.drew | with_reducible apply Tr.drewN | with_reducible apply Tr.ext | with_reducible apply Tr.other))⟩
end Go.Proofs.YtpkbkcjegbpifaaDoor
