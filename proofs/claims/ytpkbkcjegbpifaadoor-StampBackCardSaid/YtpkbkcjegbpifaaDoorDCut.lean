/- A TEXT CUT AT ITS FIRST POINT: strings.Cut at ".", whatever the text's length. -/
import Derived.Test.YtpkbkcjegbpifaaDoorDText
import Derived.BigGuard
import Derived.WalkSpells
namespace Go.Proofs.YtpkbkcjegbpifaaDoor
open Go.RowKit Go.Lib
set_option linter.unusedSimpArgs false
set_option linter.unusedVariables false

theorem point_split : ∀ l : List UInt8, (46 ∉ l ∧ Lib.indexByte l 46 = -1) ∨ ∃ a b, l = a ++ 46 :: b ∧ 46 ∉ a ∧ Lib.indexByte l 46 = (a.length : Int)
  | [] => Or.inl ⟨by simp, rfl⟩
  | c :: l => by
    by_cases hc : c = 46
    · subst hc
      exact Or.inr ⟨[], l, rfl, by simp, by simp [Lib.indexByte]⟩
    · rcases point_split l with ⟨h, hi⟩ | ⟨a, b, h, ha, hi⟩
      · refine Or.inl ⟨by simp [h]; exact fun e => hc e.symm, ?_⟩
        simp [Lib.indexByte, hc, hi]
      · refine Or.inr ⟨c :: a, b, by rw [h]; rfl, by simp [ha]; exact fun e => hc e.symm, ?_⟩
        have : ¬ ((a.length : Int) = -1) := by omega
        simp [Lib.indexByte, hc, hi, this]
theorem index_any (s : ByteArray) (w : World) : Calls Tryd.prog 23 #[.string s, .string ⟨#[46]⟩] w fun e w' => e = .returned (.int .i64 (Lib.indexByte s.data.toList 46)) ∧ Below w.heap.size w w' :=
  (Tryd.stringslite_Index_one s 46 w).mono fun _ _ ⟨he, hw⟩ => ⟨he, hw ▸ Below.refl _ _⟩
theorem index_no (s : ByteArray) (h : Lib.indexByte s.data.toList 46 = -1) (w : World) : Calls Tryd.prog 23 #[.string s, .string ⟨#[46]⟩] w fun e w' => e = .returned (.int .i64 (-1)) ∧ Below w.heap.size w w' := by
  have k := index_any s w; rwa [h] at k
theorem index_yes (s : ByteArray) (k : Nat) (h : Lib.indexByte s.data.toList 46 = k) (w : World) : Calls Tryd.prog 23 #[.string s, .string ⟨#[46]⟩] w fun e w' => e = .returned (.int .i64 k) ∧ Below w.heap.size w w' := by
  have j := index_any s w; rwa [h] at j
theorem litecut_no (s : ByteArray) (h : Lib.indexByte s.data.toList 46 = -1) (w : World) : Calls Tryd.prog 21 #[.string s, .string ⟨#[46]⟩] w fun e w' => e = .returned (.tuple #[.string s, .string ⟨#[]⟩, .bool false]) ∧ Below w.heap.size w w' := by
  have t0 := Tr.nil w
  have H := Lib.hid h
  clear h
  go_enter Tryd.func21, Tryd.ntmps21
  go_wp2_with (go_at_call 23; with_reducible refine (index_no s H.out _).mono ?_; rintro e w1 ⟨rfl, hb⟩; have t1 := Tr.later (W0 := w) (by repeat (first | with_reducible assumption | with_reducible apply Tr.alloc | with_reducible apply Tr.drew | with_reducible apply Tr.drewN | with_reducible apply Tr.ext | with_reducible apply Tr.other)) hb; have r1 := t1.rules; simp only [Rules, World.size_alloc, World.size_drew, World.size_setCell] at r1; clear hb)
  go_ret3
  exact ⟨rfl, Tr.below (W0 := w) (by repeat (first | with_reducible assumption | with_reducible apply Tr.alloc | with_reducible apply Tr.drew | with_reducible apply Tr.drewN | with_reducible apply Tr.ext | with_reducible apply Tr.other))⟩
set_option maxHeartbeats 1000000 in
theorem litecut_yes (s : ByteArray) (k : Nat) (h : Lib.indexByte s.data.toList 46 = k) (hk : k < s.size) (hm : s.size ≤ maxLen) (w : World) : Calls Tryd.prog 21 #[.string s, .string ⟨#[46]⟩] w fun e w' => e = .returned (.tuple #[.string (s.extract 0 k), .string (s.extract (k + 1) s.size), .bool true]) ∧ Below w.heap.size w w' := by
  have t0 := Tr.nil w
  have H := Lib.hid h
  clear h
  unfold maxLen at hm
  have b0 : (0 : Int) ≤ (k : Int) := by omega
  have b1 : (k : Int) ≤ (s.size : Int) := by omega
  have b2 : IntKind.i64.wrap ((k : Int) + 1) = (k : Int) + 1 := by rw [IntKind.wrap_i64]; omega
  have b3 : (0 : Int) ≤ (k : Int) + 1 := by omega
  have b4 : (k : Int) + 1 ≤ (s.size : Int) := by omega
  have b5 : ((k : Int) + 1).toNat = k + 1 := by omega
  have b6 : k ≤ s.size := by omega
  have b7 : k + 1 ≤ s.size := by omega
  go_enter Tryd.func21, Tryd.ntmps21
  go_wp2_with (go_at_call 23; with_reducible refine (index_yes s k H.out _).mono ?_; rintro e w1 ⟨rfl, hb⟩; have t1 := Tr.later (W0 := w) (by repeat (first | with_reducible assumption | with_reducible apply Tr.alloc | with_reducible apply Tr.drew | with_reducible apply Tr.drewN | with_reducible apply Tr.ext | with_reducible apply Tr.other)) hb; have r1 := t1.rules; simp only [Rules, World.size_alloc, World.size_drew, World.size_setCell] at r1; clear hb)
  refine wp_name (W0 := w) (by repeat (first | with_reducible assumption | with_reducible apply Tr.alloc | with_reducible apply Tr.drew | with_reducible apply Tr.drewN | with_reducible apply Tr.ext | with_reducible apply Tr.other)) (fun x tx rx => ?_); simp only [Rules, World.size_alloc, World.size_drew, World.size_setCell] at rx
  refine region_ext (by kernel_rfl) (by kernel_rfl) ?_
  repeat (go_big_quiet_step (fail))
  refine wpQuiet_nil ?_
  rintro _ ⟨nq, rfl⟩
  go_wp2
  go_ret3
  exact ⟨rfl, Tr.below (W0 := w) (by repeat (first | with_reducible assumption | with_reducible apply Tr.alloc | with_reducible apply Tr.drew | with_reducible apply Tr.drewN | with_reducible apply Tr.ext | with_reducible apply Tr.other))⟩
theorem cut_no (s : ByteArray) (h : Lib.indexByte s.data.toList 46 = -1) (w : World) : Calls Tryd.prog 15 #[.string s, .string ⟨#[46]⟩] w fun e w' => e = .returned (.tuple #[.string s, .string ⟨#[]⟩, .bool false]) ∧ Below w.heap.size w w' := by
  have t0 := Tr.nil w
  have H := Lib.hid h
  clear h
  go_enter Tryd.func15, Tryd.ntmps15
  go_wp2_with (go_at_call 21; with_reducible refine (litecut_no s H.out _).mono ?_; rintro e w1 ⟨rfl, hb⟩; have t1 := Tr.later (W0 := w) (by repeat (first | with_reducible assumption | with_reducible apply Tr.alloc | with_reducible apply Tr.drew | with_reducible apply Tr.drewN | with_reducible apply Tr.ext | with_reducible apply Tr.other)) hb; have r1 := t1.rules; simp only [Rules, World.size_alloc, World.size_drew, World.size_setCell] at r1; clear hb)
  go_ret3
  exact ⟨rfl, Tr.below (W0 := w) (by repeat (first | with_reducible assumption | with_reducible apply Tr.alloc | with_reducible apply Tr.drew | with_reducible apply Tr.drewN | with_reducible apply Tr.ext | with_reducible apply Tr.other))⟩
theorem cut_yes (s : ByteArray) (k : Nat) (h : Lib.indexByte s.data.toList 46 = k) (hk : k < s.size) (hm : s.size ≤ maxLen) (w : World) : Calls Tryd.prog 15 #[.string s, .string ⟨#[46]⟩] w fun e w' => e = .returned (.tuple #[.string (s.extract 0 k), .string (s.extract (k + 1) s.size), .bool true]) ∧ Below w.heap.size w w' := by
  have t0 := Tr.nil w
  have H := Lib.hid h
  have HK := Lib.hid hk
  have HM := Lib.hid hm
  clear h hk hm
  go_enter Tryd.func15, Tryd.ntmps15
  go_wp2_with (go_at_call 21; with_reducible refine (litecut_yes s k H.out HK.out HM.out _).mono ?_; rintro e w1 ⟨rfl, hb⟩; have t1 := Tr.later (W0 := w) (by repeat (first | with_reducible assumption | with_reducible apply Tr.alloc | with_reducible apply Tr.drew | with_reducible apply Tr.drewN | with_reducible apply Tr.ext | with_reducible apply Tr.other)) hb; have r1 := t1.rules; simp only [Rules, World.size_alloc, World.size_drew, World.size_setCell] at r1; clear hb)
  go_ret3
  exact ⟨rfl, Tr.below (W0 := w) (by repeat (first | with_reducible assumption | with_reducible apply Tr.alloc | with_reducible apply Tr.drew | with_reducible apply Tr.drewN | with_reducible apply Tr.ext | with_reducible apply Tr.other))⟩
/-- one text, cut: as lists -/
theorem cut_point (a b : List UInt8) (h : 46 ∉ a) (s : ByteArray) (hs : s.data.toList = a ++ 46 :: b) (hm : s.size ≤ maxLen) (hi : Lib.indexByte s.data.toList 46 = (a.length : Int)) (w : World) :
    Calls Tryd.prog 15 #[.string s, .string ⟨#[46]⟩] w fun e w' => e = .returned (.tuple #[.string ⟨a.toArray⟩, .string ⟨b.toArray⟩, .bool true]) ∧ Below w.heap.size w w' := by
  have hl : s.size = a.length + (b.length + 1) := by
    rw [show s.size = s.data.toList.length from rfl, hs, List.length_append, List.length_cons]
  have c := cut_yes s a.length hi (by omega) hm w
  have e1 : s.extract 0 a.length = ⟨a.toArray⟩ := by
    apply ByteArray.ext
    rw [ByteArray.data_extract]
    apply Array.toList_inj.1
    rw [Array.toList_extract, hs]
    simp
  have e2 : s.extract (a.length + 1) s.size = ⟨b.toArray⟩ := by
    apply ByteArray.ext
    rw [ByteArray.data_extract]
    apply Array.toList_inj.1
    rw [Array.toList_extract, hs, hl]
    rw [List.extract_eq_take_drop, show a.length + (b.length + 1) - (a.length + 1) = b.length from by omega]
    simp
  rwa [e1, e2] at c
end Go.Proofs.YtpkbkcjegbpifaaDoor
