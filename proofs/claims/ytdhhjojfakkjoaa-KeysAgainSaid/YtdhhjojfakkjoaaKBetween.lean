/- A KEY BETWEEN TWO KEYS: package orderkey's Between, the reference's Why and Stands. -/
import Derived.Test.YtdhhjojfakkjoaaKMiddle
namespace Go.Proofs.Ytdhhjojfakkjoaa
open Go.RowKit Go.Joins
set_option linter.unusedSimpArgs false
set_option linter.unusedVariables false

/-- which error there is: 0 none -/
def code (eA kA eB kB lt : Bool) (n m : Nat) : Int := if ((!eA && !kA) || (!eB && !kB)) = true then 131 else if (!eA && !eB && !lt) = true then 132 else if n = 64 ∨ m = 64 then 133 else 0
def codeS (a b : ByteArray) : Int := code a.toList.isEmpty (keyB a.data.toList) b.toList.isEmpty (keyB b.data.toList) (Op.bytesLess a.toList b.toList) a.size b.size
theorem empty_no (a : ByteArray) (h : a.toList.isEmpty = true) : keyB a.data.toList = false := by
  rw [List.isEmpty_iff, ByteArray.toList_eq] at h
  rw [h]; rfl
set_option maxHeartbeats 1000000 in
theorem why0 (a b : ByteArray) (ha : a.size ≤ maxLen) (hb : b.size ≤ maxLen) (a1 : a.toList.isEmpty = true) (a2 : keyB a.data.toList = false) (b1 : b.toList.isEmpty = true) (b2 : keyB b.data.toList = false) (z : a.size = 64) (w : World) : Calls Try.prog 10 #[.string a, .string b] w fun e w' => e = .returned (.int .i64 133) ∧ Below w.heap.size w w' := by
  have t0 := Tr.nil w
  have HA := Lib.hid ha
  have HB := Lib.hid hb
  clear ha hb
  have an : a.toList = [] := by simpa using a1
  have bn : b.toList = [] := by simpa using b1
  have s1 : ((a.size : Int) == 64) = true := by simp; omega
  have Z := Lib.hid z
  clear z
  go_enter Try.func10, Try.ntmps10
  go_wp2_with (first | (go_at_call 8; with_reducible refine (key_any a HA.out _).mono ?_; rintro e w1 ⟨rfl, hb⟩; have t1 := Tr.later (W0 := w) (by repeat (first | with_reducible assumption | with_reducible apply Tr.alloc | with_reducible apply Tr.drew | with_reducible apply Tr.drewN | with_reducible apply Tr.ext | with_reducible apply Tr.other)) hb; have r1 := t1.rules; simp only [Rules, World.size_alloc, World.size_drew, World.size_setCell] at r1; clear hb) | (go_at_call 8; with_reducible refine (key_any b HB.out _).mono ?_; rintro e w1 ⟨rfl, hb⟩; have t1 := Tr.later (W0 := w) (by repeat (first | with_reducible assumption | with_reducible apply Tr.alloc | with_reducible apply Tr.drew | with_reducible apply Tr.drewN | with_reducible apply Tr.ext | with_reducible apply Tr.other)) hb; have r1 := t1.rules; simp only [Rules, World.size_alloc, World.size_drew, World.size_setCell] at r1; clear hb))
  go_ret
  exact ⟨rfl, Tr.below (W0 := w) (by repeat (first | with_reducible assumption | with_reducible apply Tr.alloc | with_reducible apply Tr.drew | with_reducible apply Tr.drewN | with_reducible apply Tr.ext | with_reducible apply Tr.other))⟩
set_option maxHeartbeats 1000000 in
theorem bet0 (a b : ByteArray) (ha : a.size ≤ maxLen) (hb : b.size ≤ maxLen) (a1 : a.toList.isEmpty = true) (a2 : keyB a.data.toList = false) (b1 : b.toList.isEmpty = true) (b2 : keyB b.data.toList = false) (z : a.size = 64) (w : World) : Calls Try.prog 9 #[.string a, .string b] w fun e w' => e = .returned (.tuple #[.string ⟨#[]⟩, .int .i64 133]) ∧ Below w.heap.size w w' := by
  have t0 := Tr.nil w
  have HA := Lib.hid ha
  have HB := Lib.hid hb
  clear ha hb
  have an : a.toList = [] := by simpa using a1
  have bn : b.toList = [] := by simpa using b1
  have s1 : ((a.size : Int) == 64) = true := by simp; omega
  have Z := Lib.hid z
  clear z
  go_enter Try.func9, Try.ntmps9
  go_wp2_with (first | (go_at_call 7; with_reducible refine (right_any a HA.out _).mono ?_; rintro e w1 ⟨rfl, hb⟩; have t1 := Tr.later (W0 := w) (by repeat (first | with_reducible assumption | with_reducible apply Tr.alloc | with_reducible apply Tr.drew | with_reducible apply Tr.drewN | with_reducible apply Tr.ext | with_reducible apply Tr.other)) hb; have r1 := t1.rules; simp only [Rules, World.size_alloc, World.size_drew, World.size_setCell] at r1; clear hb) | (go_at_call 7; with_reducible refine (right_any b HB.out _).mono ?_; rintro e w1 ⟨rfl, hb⟩; have t1 := Tr.later (W0 := w) (by repeat (first | with_reducible assumption | with_reducible apply Tr.alloc | with_reducible apply Tr.drew | with_reducible apply Tr.drewN | with_reducible apply Tr.ext | with_reducible apply Tr.other)) hb; have r1 := t1.rules; simp only [Rules, World.size_alloc, World.size_drew, World.size_setCell] at r1; clear hb))
  go_ret2
  exact ⟨rfl, Tr.below (W0 := w) (by repeat (first | with_reducible assumption | with_reducible apply Tr.alloc | with_reducible apply Tr.drew | with_reducible apply Tr.drewN | with_reducible apply Tr.ext | with_reducible apply Tr.other))⟩
set_option maxHeartbeats 1000000 in
theorem why1 (a b : ByteArray) (ha : a.size ≤ maxLen) (hb : b.size ≤ maxLen) (a1 : a.toList.isEmpty = true) (a2 : keyB a.data.toList = false) (b1 : b.toList.isEmpty = true) (b2 : keyB b.data.toList = false) (y : ¬ a.size = 64) (z : b.size = 64) (w : World) : Calls Try.prog 10 #[.string a, .string b] w fun e w' => e = .returned (.int .i64 133) ∧ Below w.heap.size w w' := by
  have t0 := Tr.nil w
  have HA := Lib.hid ha
  have HB := Lib.hid hb
  clear ha hb
  have an : a.toList = [] := by simpa using a1
  have bn : b.toList = [] := by simpa using b1
  have s1 : ((a.size : Int) == 64) = false := by simp; omega
  have s2 : ((b.size : Int) == 64) = true := by simp; omega
  have Y := Lib.hid y
  have Z := Lib.hid z
  clear y z
  go_enter Try.func10, Try.ntmps10
  go_wp2_with (first | (go_at_call 8; with_reducible refine (key_any a HA.out _).mono ?_; rintro e w1 ⟨rfl, hb⟩; have t1 := Tr.later (W0 := w) (by repeat (first | with_reducible assumption | with_reducible apply Tr.alloc | with_reducible apply Tr.drew | with_reducible apply Tr.drewN | with_reducible apply Tr.ext | with_reducible apply Tr.other)) hb; have r1 := t1.rules; simp only [Rules, World.size_alloc, World.size_drew, World.size_setCell] at r1; clear hb) | (go_at_call 8; with_reducible refine (key_any b HB.out _).mono ?_; rintro e w1 ⟨rfl, hb⟩; have t1 := Tr.later (W0 := w) (by repeat (first | with_reducible assumption | with_reducible apply Tr.alloc | with_reducible apply Tr.drew | with_reducible apply Tr.drewN | with_reducible apply Tr.ext | with_reducible apply Tr.other)) hb; have r1 := t1.rules; simp only [Rules, World.size_alloc, World.size_drew, World.size_setCell] at r1; clear hb))
  go_ret
  exact ⟨rfl, Tr.below (W0 := w) (by repeat (first | with_reducible assumption | with_reducible apply Tr.alloc | with_reducible apply Tr.drew | with_reducible apply Tr.drewN | with_reducible apply Tr.ext | with_reducible apply Tr.other))⟩
set_option maxHeartbeats 1000000 in
theorem bet1 (a b : ByteArray) (ha : a.size ≤ maxLen) (hb : b.size ≤ maxLen) (a1 : a.toList.isEmpty = true) (a2 : keyB a.data.toList = false) (b1 : b.toList.isEmpty = true) (b2 : keyB b.data.toList = false) (y : ¬ a.size = 64) (z : b.size = 64) (w : World) : Calls Try.prog 9 #[.string a, .string b] w fun e w' => e = .returned (.tuple #[.string ⟨#[]⟩, .int .i64 133]) ∧ Below w.heap.size w w' := by
  have t0 := Tr.nil w
  have HA := Lib.hid ha
  have HB := Lib.hid hb
  clear ha hb
  have an : a.toList = [] := by simpa using a1
  have bn : b.toList = [] := by simpa using b1
  have s1 : ((a.size : Int) == 64) = false := by simp; omega
  have s2 : ((b.size : Int) == 64) = true := by simp; omega
  have Y := Lib.hid y
  have Z := Lib.hid z
  clear y z
  go_enter Try.func9, Try.ntmps9
  go_wp2_with (first | (go_at_call 7; with_reducible refine (right_any a HA.out _).mono ?_; rintro e w1 ⟨rfl, hb⟩; have t1 := Tr.later (W0 := w) (by repeat (first | with_reducible assumption | with_reducible apply Tr.alloc | with_reducible apply Tr.drew | with_reducible apply Tr.drewN | with_reducible apply Tr.ext | with_reducible apply Tr.other)) hb; have r1 := t1.rules; simp only [Rules, World.size_alloc, World.size_drew, World.size_setCell] at r1; clear hb) | (go_at_call 7; with_reducible refine (right_any b HB.out _).mono ?_; rintro e w1 ⟨rfl, hb⟩; have t1 := Tr.later (W0 := w) (by repeat (first | with_reducible assumption | with_reducible apply Tr.alloc | with_reducible apply Tr.drew | with_reducible apply Tr.drewN | with_reducible apply Tr.ext | with_reducible apply Tr.other)) hb; have r1 := t1.rules; simp only [Rules, World.size_alloc, World.size_drew, World.size_setCell] at r1; clear hb))
  go_ret2
  exact ⟨rfl, Tr.below (W0 := w) (by repeat (first | with_reducible assumption | with_reducible apply Tr.alloc | with_reducible apply Tr.drew | with_reducible apply Tr.drewN | with_reducible apply Tr.ext | with_reducible apply Tr.other))⟩
set_option maxHeartbeats 1000000 in
theorem why2 (a b : ByteArray) (ha : a.size ≤ maxLen) (hb : b.size ≤ maxLen) (a1 : a.toList.isEmpty = true) (a2 : keyB a.data.toList = false) (b1 : b.toList.isEmpty = true) (b2 : keyB b.data.toList = false) (y : ¬ a.size = 64) (z : ¬ b.size = 64) (w : World) : Calls Try.prog 10 #[.string a, .string b] w fun e w' => e = .returned (.int .i64 0) ∧ Below w.heap.size w w' := by
  have t0 := Tr.nil w
  have HA := Lib.hid ha
  have HB := Lib.hid hb
  clear ha hb
  have an : a.toList = [] := by simpa using a1
  have bn : b.toList = [] := by simpa using b1
  have s1 : ((a.size : Int) == 64) = false := by simp; omega
  have s2 : ((b.size : Int) == 64) = false := by simp; omega
  have Y := Lib.hid y
  have Z := Lib.hid z
  clear y z
  go_enter Try.func10, Try.ntmps10
  go_wp2_with (first | (go_at_call 8; with_reducible refine (key_any a HA.out _).mono ?_; rintro e w1 ⟨rfl, hb⟩; have t1 := Tr.later (W0 := w) (by repeat (first | with_reducible assumption | with_reducible apply Tr.alloc | with_reducible apply Tr.drew | with_reducible apply Tr.drewN | with_reducible apply Tr.ext | with_reducible apply Tr.other)) hb; have r1 := t1.rules; simp only [Rules, World.size_alloc, World.size_drew, World.size_setCell] at r1; clear hb) | (go_at_call 8; with_reducible refine (key_any b HB.out _).mono ?_; rintro e w1 ⟨rfl, hb⟩; have t1 := Tr.later (W0 := w) (by repeat (first | with_reducible assumption | with_reducible apply Tr.alloc | with_reducible apply Tr.drew | with_reducible apply Tr.drewN | with_reducible apply Tr.ext | with_reducible apply Tr.other)) hb; have r1 := t1.rules; simp only [Rules, World.size_alloc, World.size_drew, World.size_setCell] at r1; clear hb))
  go_ret
  exact ⟨rfl, Tr.below (W0 := w) (by repeat (first | with_reducible assumption | with_reducible apply Tr.alloc | with_reducible apply Tr.drew | with_reducible apply Tr.drewN | with_reducible apply Tr.ext | with_reducible apply Tr.other))⟩
set_option maxHeartbeats 1000000 in
theorem bet2 (a b : ByteArray) (ha : a.size ≤ maxLen) (hb : b.size ≤ maxLen) (r : ByteArray) (hm : ∀ w, Calls Try.prog 14 #[.string a, .string b] w fun e w' => e = .returned (.string r) ∧ Below w.heap.size w w') (a1 : a.toList.isEmpty = true) (a2 : keyB a.data.toList = false) (b1 : b.toList.isEmpty = true) (b2 : keyB b.data.toList = false) (y : ¬ a.size = 64) (z : ¬ b.size = 64) (w : World) : Calls Try.prog 9 #[.string a, .string b] w fun e w' => e = .returned (.tuple #[.string r, .int .i64 0]) ∧ Below w.heap.size w w' := by
  have t0 := Tr.nil w
  have HA := Lib.hid ha
  have HB := Lib.hid hb
  have HM := Lib.hid hm
  clear ha hb hm
  have an : a.toList = [] := by simpa using a1
  have bn : b.toList = [] := by simpa using b1
  have s1 : ((a.size : Int) == 64) = false := by simp; omega
  have s2 : ((b.size : Int) == 64) = false := by simp; omega
  have Y := Lib.hid y
  have Z := Lib.hid z
  clear y z
  go_enter Try.func9, Try.ntmps9
  go_wp2_with (first | (go_at_call 7; with_reducible refine (right_any a HA.out _).mono ?_; rintro e w1 ⟨rfl, hb⟩; have t1 := Tr.later (W0 := w) (by repeat (first | with_reducible assumption | with_reducible apply Tr.alloc | with_reducible apply Tr.drew | with_reducible apply Tr.drewN | with_reducible apply Tr.ext | with_reducible apply Tr.other)) hb; have r1 := t1.rules; simp only [Rules, World.size_alloc, World.size_drew, World.size_setCell] at r1; clear hb) | (go_at_call 7; with_reducible refine (right_any b HB.out _).mono ?_; rintro e w1 ⟨rfl, hb⟩; have t1 := Tr.later (W0 := w) (by repeat (first | with_reducible assumption | with_reducible apply Tr.alloc | with_reducible apply Tr.drew | with_reducible apply Tr.drewN | with_reducible apply Tr.ext | with_reducible apply Tr.other)) hb; have r1 := t1.rules; simp only [Rules, World.size_alloc, World.size_drew, World.size_setCell] at r1; clear hb) | (go_at_call 14; with_reducible refine (HM.out _).mono ?_; rintro e w1 ⟨rfl, hb⟩; have t1 := Tr.later (W0 := w) (by repeat (first | with_reducible assumption | with_reducible apply Tr.alloc | with_reducible apply Tr.drew | with_reducible apply Tr.drewN | with_reducible apply Tr.ext | with_reducible apply Tr.other)) hb; have r1 := t1.rules; simp only [Rules, World.size_alloc, World.size_drew, World.size_setCell] at r1; clear hb))
  go_ret2
  exact ⟨rfl, Tr.below (W0 := w) (by repeat (first | with_reducible assumption | with_reducible apply Tr.alloc | with_reducible apply Tr.drew | with_reducible apply Tr.drewN | with_reducible apply Tr.ext | with_reducible apply Tr.other))⟩
set_option maxHeartbeats 1000000 in
theorem why3 (a b : ByteArray) (ha : a.size ≤ maxLen) (hb : b.size ≤ maxLen) (a1 : a.toList.isEmpty = true) (a2 : keyB a.data.toList = false) (b1 : b.toList.isEmpty = false) (b2 : keyB b.data.toList = true) (z : a.size = 64) (w : World) : Calls Try.prog 10 #[.string a, .string b] w fun e w' => e = .returned (.int .i64 133) ∧ Below w.heap.size w w' := by
  have t0 := Tr.nil w
  have HA := Lib.hid ha
  have HB := Lib.hid hb
  clear ha hb
  have an : a.toList = [] := by simpa using a1
  have bn : ¬ b.toList = [] := by simpa using b1
  have bm : (!b.toList.isEmpty) = true := by rw [b1]; rfl
  have s1 : ((a.size : Int) == 64) = true := by simp; omega
  have Z := Lib.hid z
  clear z
  go_enter Try.func10, Try.ntmps10
  go_wp2_with (first | (go_at_call 8; with_reducible refine (key_any a HA.out _).mono ?_; rintro e w1 ⟨rfl, hb⟩; have t1 := Tr.later (W0 := w) (by repeat (first | with_reducible assumption | with_reducible apply Tr.alloc | with_reducible apply Tr.drew | with_reducible apply Tr.drewN | with_reducible apply Tr.ext | with_reducible apply Tr.other)) hb; have r1 := t1.rules; simp only [Rules, World.size_alloc, World.size_drew, World.size_setCell] at r1; clear hb) | (go_at_call 8; with_reducible refine (key_any b HB.out _).mono ?_; rintro e w1 ⟨rfl, hb⟩; have t1 := Tr.later (W0 := w) (by repeat (first | with_reducible assumption | with_reducible apply Tr.alloc | with_reducible apply Tr.drew | with_reducible apply Tr.drewN | with_reducible apply Tr.ext | with_reducible apply Tr.other)) hb; have r1 := t1.rules; simp only [Rules, World.size_alloc, World.size_drew, World.size_setCell] at r1; clear hb))
  go_ret
  exact ⟨rfl, Tr.below (W0 := w) (by repeat (first | with_reducible assumption | with_reducible apply Tr.alloc | with_reducible apply Tr.drew | with_reducible apply Tr.drewN | with_reducible apply Tr.ext | with_reducible apply Tr.other))⟩
set_option maxHeartbeats 1000000 in
theorem bet3 (a b : ByteArray) (ha : a.size ≤ maxLen) (hb : b.size ≤ maxLen) (a1 : a.toList.isEmpty = true) (a2 : keyB a.data.toList = false) (b1 : b.toList.isEmpty = false) (b2 : keyB b.data.toList = true) (z : a.size = 64) (w : World) : Calls Try.prog 9 #[.string a, .string b] w fun e w' => e = .returned (.tuple #[.string ⟨#[]⟩, .int .i64 133]) ∧ Below w.heap.size w w' := by
  have t0 := Tr.nil w
  have HA := Lib.hid ha
  have HB := Lib.hid hb
  clear ha hb
  have an : a.toList = [] := by simpa using a1
  have bn : ¬ b.toList = [] := by simpa using b1
  have bm : (!b.toList.isEmpty) = true := by rw [b1]; rfl
  have s1 : ((a.size : Int) == 64) = true := by simp; omega
  have Z := Lib.hid z
  clear z
  go_enter Try.func9, Try.ntmps9
  go_wp2_with (first | (go_at_call 7; with_reducible refine (right_any a HA.out _).mono ?_; rintro e w1 ⟨rfl, hb⟩; have t1 := Tr.later (W0 := w) (by repeat (first | with_reducible assumption | with_reducible apply Tr.alloc | with_reducible apply Tr.drew | with_reducible apply Tr.drewN | with_reducible apply Tr.ext | with_reducible apply Tr.other)) hb; have r1 := t1.rules; simp only [Rules, World.size_alloc, World.size_drew, World.size_setCell] at r1; clear hb) | (go_at_call 7; with_reducible refine (right_any b HB.out _).mono ?_; rintro e w1 ⟨rfl, hb⟩; have t1 := Tr.later (W0 := w) (by repeat (first | with_reducible assumption | with_reducible apply Tr.alloc | with_reducible apply Tr.drew | with_reducible apply Tr.drewN | with_reducible apply Tr.ext | with_reducible apply Tr.other)) hb; have r1 := t1.rules; simp only [Rules, World.size_alloc, World.size_drew, World.size_setCell] at r1; clear hb))
  go_ret2
  exact ⟨rfl, Tr.below (W0 := w) (by repeat (first | with_reducible assumption | with_reducible apply Tr.alloc | with_reducible apply Tr.drew | with_reducible apply Tr.drewN | with_reducible apply Tr.ext | with_reducible apply Tr.other))⟩
set_option maxHeartbeats 1000000 in
theorem why4 (a b : ByteArray) (ha : a.size ≤ maxLen) (hb : b.size ≤ maxLen) (a1 : a.toList.isEmpty = true) (a2 : keyB a.data.toList = false) (b1 : b.toList.isEmpty = false) (b2 : keyB b.data.toList = true) (y : ¬ a.size = 64) (z : b.size = 64) (w : World) : Calls Try.prog 10 #[.string a, .string b] w fun e w' => e = .returned (.int .i64 133) ∧ Below w.heap.size w w' := by
  have t0 := Tr.nil w
  have HA := Lib.hid ha
  have HB := Lib.hid hb
  clear ha hb
  have an : a.toList = [] := by simpa using a1
  have bn : ¬ b.toList = [] := by simpa using b1
  have bm : (!b.toList.isEmpty) = true := by rw [b1]; rfl
  have s1 : ((a.size : Int) == 64) = false := by simp; omega
  have s2 : ((b.size : Int) == 64) = true := by simp; omega
  have Y := Lib.hid y
  have Z := Lib.hid z
  clear y z
  go_enter Try.func10, Try.ntmps10
  go_wp2_with (first | (go_at_call 8; with_reducible refine (key_any a HA.out _).mono ?_; rintro e w1 ⟨rfl, hb⟩; have t1 := Tr.later (W0 := w) (by repeat (first | with_reducible assumption | with_reducible apply Tr.alloc | with_reducible apply Tr.drew | with_reducible apply Tr.drewN | with_reducible apply Tr.ext | with_reducible apply Tr.other)) hb; have r1 := t1.rules; simp only [Rules, World.size_alloc, World.size_drew, World.size_setCell] at r1; clear hb) | (go_at_call 8; with_reducible refine (key_any b HB.out _).mono ?_; rintro e w1 ⟨rfl, hb⟩; have t1 := Tr.later (W0 := w) (by repeat (first | with_reducible assumption | with_reducible apply Tr.alloc | with_reducible apply Tr.drew | with_reducible apply Tr.drewN | with_reducible apply Tr.ext | with_reducible apply Tr.other)) hb; have r1 := t1.rules; simp only [Rules, World.size_alloc, World.size_drew, World.size_setCell] at r1; clear hb))
  go_ret
  exact ⟨rfl, Tr.below (W0 := w) (by repeat (first | with_reducible assumption | with_reducible apply Tr.alloc | with_reducible apply Tr.drew | with_reducible apply Tr.drewN | with_reducible apply Tr.ext | with_reducible apply Tr.other))⟩
set_option maxHeartbeats 1000000 in
theorem bet4 (a b : ByteArray) (ha : a.size ≤ maxLen) (hb : b.size ≤ maxLen) (a1 : a.toList.isEmpty = true) (a2 : keyB a.data.toList = false) (b1 : b.toList.isEmpty = false) (b2 : keyB b.data.toList = true) (y : ¬ a.size = 64) (z : b.size = 64) (w : World) : Calls Try.prog 9 #[.string a, .string b] w fun e w' => e = .returned (.tuple #[.string ⟨#[]⟩, .int .i64 133]) ∧ Below w.heap.size w w' := by
  have t0 := Tr.nil w
  have HA := Lib.hid ha
  have HB := Lib.hid hb
  clear ha hb
  have an : a.toList = [] := by simpa using a1
  have bn : ¬ b.toList = [] := by simpa using b1
  have bm : (!b.toList.isEmpty) = true := by rw [b1]; rfl
  have s1 : ((a.size : Int) == 64) = false := by simp; omega
  have s2 : ((b.size : Int) == 64) = true := by simp; omega
  have Y := Lib.hid y
  have Z := Lib.hid z
  clear y z
  go_enter Try.func9, Try.ntmps9
  go_wp2_with (first | (go_at_call 7; with_reducible refine (right_any a HA.out _).mono ?_; rintro e w1 ⟨rfl, hb⟩; have t1 := Tr.later (W0 := w) (by repeat (first | with_reducible assumption | with_reducible apply Tr.alloc | with_reducible apply Tr.drew | with_reducible apply Tr.drewN | with_reducible apply Tr.ext | with_reducible apply Tr.other)) hb; have r1 := t1.rules; simp only [Rules, World.size_alloc, World.size_drew, World.size_setCell] at r1; clear hb) | (go_at_call 7; with_reducible refine (right_any b HB.out _).mono ?_; rintro e w1 ⟨rfl, hb⟩; have t1 := Tr.later (W0 := w) (by repeat (first | with_reducible assumption | with_reducible apply Tr.alloc | with_reducible apply Tr.drew | with_reducible apply Tr.drewN | with_reducible apply Tr.ext | with_reducible apply Tr.other)) hb; have r1 := t1.rules; simp only [Rules, World.size_alloc, World.size_drew, World.size_setCell] at r1; clear hb))
  go_ret2
  exact ⟨rfl, Tr.below (W0 := w) (by repeat (first | with_reducible assumption | with_reducible apply Tr.alloc | with_reducible apply Tr.drew | with_reducible apply Tr.drewN | with_reducible apply Tr.ext | with_reducible apply Tr.other))⟩
set_option maxHeartbeats 1000000 in
theorem why5 (a b : ByteArray) (ha : a.size ≤ maxLen) (hb : b.size ≤ maxLen) (a1 : a.toList.isEmpty = true) (a2 : keyB a.data.toList = false) (b1 : b.toList.isEmpty = false) (b2 : keyB b.data.toList = true) (y : ¬ a.size = 64) (z : ¬ b.size = 64) (w : World) : Calls Try.prog 10 #[.string a, .string b] w fun e w' => e = .returned (.int .i64 0) ∧ Below w.heap.size w w' := by
  have t0 := Tr.nil w
  have HA := Lib.hid ha
  have HB := Lib.hid hb
  clear ha hb
  have an : a.toList = [] := by simpa using a1
  have bn : ¬ b.toList = [] := by simpa using b1
  have bm : (!b.toList.isEmpty) = true := by rw [b1]; rfl
  have s1 : ((a.size : Int) == 64) = false := by simp; omega
  have s2 : ((b.size : Int) == 64) = false := by simp; omega
  have Y := Lib.hid y
  have Z := Lib.hid z
  clear y z
  go_enter Try.func10, Try.ntmps10
  go_wp2_with (first | (go_at_call 8; with_reducible refine (key_any a HA.out _).mono ?_; rintro e w1 ⟨rfl, hb⟩; have t1 := Tr.later (W0 := w) (by repeat (first | with_reducible assumption | with_reducible apply Tr.alloc | with_reducible apply Tr.drew | with_reducible apply Tr.drewN | with_reducible apply Tr.ext | with_reducible apply Tr.other)) hb; have r1 := t1.rules; simp only [Rules, World.size_alloc, World.size_drew, World.size_setCell] at r1; clear hb) | (go_at_call 8; with_reducible refine (key_any b HB.out _).mono ?_; rintro e w1 ⟨rfl, hb⟩; have t1 := Tr.later (W0 := w) (by repeat (first | with_reducible assumption | with_reducible apply Tr.alloc | with_reducible apply Tr.drew | with_reducible apply Tr.drewN | with_reducible apply Tr.ext | with_reducible apply Tr.other)) hb; have r1 := t1.rules; simp only [Rules, World.size_alloc, World.size_drew, World.size_setCell] at r1; clear hb))
  go_ret
  exact ⟨rfl, Tr.below (W0 := w) (by repeat (first | with_reducible assumption | with_reducible apply Tr.alloc | with_reducible apply Tr.drew | with_reducible apply Tr.drewN | with_reducible apply Tr.ext | with_reducible apply Tr.other))⟩
set_option maxHeartbeats 1000000 in
theorem bet5 (a b : ByteArray) (ha : a.size ≤ maxLen) (hb : b.size ≤ maxLen) (r : ByteArray) (hm : ∀ w, Calls Try.prog 14 #[.string a, .string b] w fun e w' => e = .returned (.string r) ∧ Below w.heap.size w w') (a1 : a.toList.isEmpty = true) (a2 : keyB a.data.toList = false) (b1 : b.toList.isEmpty = false) (b2 : keyB b.data.toList = true) (y : ¬ a.size = 64) (z : ¬ b.size = 64) (w : World) : Calls Try.prog 9 #[.string a, .string b] w fun e w' => e = .returned (.tuple #[.string r, .int .i64 0]) ∧ Below w.heap.size w w' := by
  have t0 := Tr.nil w
  have HA := Lib.hid ha
  have HB := Lib.hid hb
  have HM := Lib.hid hm
  clear ha hb hm
  have an : a.toList = [] := by simpa using a1
  have bn : ¬ b.toList = [] := by simpa using b1
  have bm : (!b.toList.isEmpty) = true := by rw [b1]; rfl
  have s1 : ((a.size : Int) == 64) = false := by simp; omega
  have s2 : ((b.size : Int) == 64) = false := by simp; omega
  have Y := Lib.hid y
  have Z := Lib.hid z
  clear y z
  go_enter Try.func9, Try.ntmps9
  go_wp2_with (first | (go_at_call 7; with_reducible refine (right_any a HA.out _).mono ?_; rintro e w1 ⟨rfl, hb⟩; have t1 := Tr.later (W0 := w) (by repeat (first | with_reducible assumption | with_reducible apply Tr.alloc | with_reducible apply Tr.drew | with_reducible apply Tr.drewN | with_reducible apply Tr.ext | with_reducible apply Tr.other)) hb; have r1 := t1.rules; simp only [Rules, World.size_alloc, World.size_drew, World.size_setCell] at r1; clear hb) | (go_at_call 7; with_reducible refine (right_any b HB.out _).mono ?_; rintro e w1 ⟨rfl, hb⟩; have t1 := Tr.later (W0 := w) (by repeat (first | with_reducible assumption | with_reducible apply Tr.alloc | with_reducible apply Tr.drew | with_reducible apply Tr.drewN | with_reducible apply Tr.ext | with_reducible apply Tr.other)) hb; have r1 := t1.rules; simp only [Rules, World.size_alloc, World.size_drew, World.size_setCell] at r1; clear hb) | (go_at_call 14; with_reducible refine (HM.out _).mono ?_; rintro e w1 ⟨rfl, hb⟩; have t1 := Tr.later (W0 := w) (by repeat (first | with_reducible assumption | with_reducible apply Tr.alloc | with_reducible apply Tr.drew | with_reducible apply Tr.drewN | with_reducible apply Tr.ext | with_reducible apply Tr.other)) hb; have r1 := t1.rules; simp only [Rules, World.size_alloc, World.size_drew, World.size_setCell] at r1; clear hb))
  go_ret2
  exact ⟨rfl, Tr.below (W0 := w) (by repeat (first | with_reducible assumption | with_reducible apply Tr.alloc | with_reducible apply Tr.drew | with_reducible apply Tr.drewN | with_reducible apply Tr.ext | with_reducible apply Tr.other))⟩
set_option maxHeartbeats 1000000 in
theorem why6 (a b : ByteArray) (ha : a.size ≤ maxLen) (hb : b.size ≤ maxLen) (a1 : a.toList.isEmpty = true) (a2 : keyB a.data.toList = false) (b1 : b.toList.isEmpty = false) (b2 : keyB b.data.toList = false) (w : World) : Calls Try.prog 10 #[.string a, .string b] w fun e w' => e = .returned (.int .i64 131) ∧ Below w.heap.size w w' := by
  have t0 := Tr.nil w
  have HA := Lib.hid ha
  have HB := Lib.hid hb
  clear ha hb
  have an : a.toList = [] := by simpa using a1
  have bn : ¬ b.toList = [] := by simpa using b1
  have bm : (!b.toList.isEmpty) = true := by rw [b1]; rfl
  go_enter Try.func10, Try.ntmps10
  go_wp2_with (first | (go_at_call 8; with_reducible refine (key_any a HA.out _).mono ?_; rintro e w1 ⟨rfl, hb⟩; have t1 := Tr.later (W0 := w) (by repeat (first | with_reducible assumption | with_reducible apply Tr.alloc | with_reducible apply Tr.drew | with_reducible apply Tr.drewN | with_reducible apply Tr.ext | with_reducible apply Tr.other)) hb; have r1 := t1.rules; simp only [Rules, World.size_alloc, World.size_drew, World.size_setCell] at r1; clear hb) | (go_at_call 8; with_reducible refine (key_any b HB.out _).mono ?_; rintro e w1 ⟨rfl, hb⟩; have t1 := Tr.later (W0 := w) (by repeat (first | with_reducible assumption | with_reducible apply Tr.alloc | with_reducible apply Tr.drew | with_reducible apply Tr.drewN | with_reducible apply Tr.ext | with_reducible apply Tr.other)) hb; have r1 := t1.rules; simp only [Rules, World.size_alloc, World.size_drew, World.size_setCell] at r1; clear hb))
  go_ret
  exact ⟨rfl, Tr.below (W0 := w) (by repeat (first | with_reducible assumption | with_reducible apply Tr.alloc | with_reducible apply Tr.drew | with_reducible apply Tr.drewN | with_reducible apply Tr.ext | with_reducible apply Tr.other))⟩
set_option maxHeartbeats 1000000 in
theorem bet6 (a b : ByteArray) (ha : a.size ≤ maxLen) (hb : b.size ≤ maxLen) (a1 : a.toList.isEmpty = true) (a2 : keyB a.data.toList = false) (b1 : b.toList.isEmpty = false) (b2 : keyB b.data.toList = false) (w : World) : Calls Try.prog 9 #[.string a, .string b] w fun e w' => e = .returned (.tuple #[.string ⟨#[]⟩, .int .i64 131]) ∧ Below w.heap.size w w' := by
  have t0 := Tr.nil w
  have HA := Lib.hid ha
  have HB := Lib.hid hb
  clear ha hb
  have an : a.toList = [] := by simpa using a1
  have bn : ¬ b.toList = [] := by simpa using b1
  have bm : (!b.toList.isEmpty) = true := by rw [b1]; rfl
  go_enter Try.func9, Try.ntmps9
  go_wp2_with (first | (go_at_call 7; with_reducible refine (right_any a HA.out _).mono ?_; rintro e w1 ⟨rfl, hb⟩; have t1 := Tr.later (W0 := w) (by repeat (first | with_reducible assumption | with_reducible apply Tr.alloc | with_reducible apply Tr.drew | with_reducible apply Tr.drewN | with_reducible apply Tr.ext | with_reducible apply Tr.other)) hb; have r1 := t1.rules; simp only [Rules, World.size_alloc, World.size_drew, World.size_setCell] at r1; clear hb) | (go_at_call 7; with_reducible refine (right_any b HB.out _).mono ?_; rintro e w1 ⟨rfl, hb⟩; have t1 := Tr.later (W0 := w) (by repeat (first | with_reducible assumption | with_reducible apply Tr.alloc | with_reducible apply Tr.drew | with_reducible apply Tr.drewN | with_reducible apply Tr.ext | with_reducible apply Tr.other)) hb; have r1 := t1.rules; simp only [Rules, World.size_alloc, World.size_drew, World.size_setCell] at r1; clear hb))
  go_ret2
  exact ⟨rfl, Tr.below (W0 := w) (by repeat (first | with_reducible assumption | with_reducible apply Tr.alloc | with_reducible apply Tr.drew | with_reducible apply Tr.drewN | with_reducible apply Tr.ext | with_reducible apply Tr.other))⟩
set_option maxHeartbeats 1000000 in
theorem why7 (a b : ByteArray) (ha : a.size ≤ maxLen) (hb : b.size ≤ maxLen) (a1 : a.toList.isEmpty = false) (a2 : keyB a.data.toList = true) (b1 : b.toList.isEmpty = true) (b2 : keyB b.data.toList = false) (z : a.size = 64) (w : World) : Calls Try.prog 10 #[.string a, .string b] w fun e w' => e = .returned (.int .i64 133) ∧ Below w.heap.size w w' := by
  have t0 := Tr.nil w
  have HA := Lib.hid ha
  have HB := Lib.hid hb
  clear ha hb
  have an : ¬ a.toList = [] := by simpa using a1
  have am : (!a.toList.isEmpty) = true := by rw [a1]; rfl
  have bn : b.toList = [] := by simpa using b1
  have s1 : ((a.size : Int) == 64) = true := by simp; omega
  have Z := Lib.hid z
  clear z
  go_enter Try.func10, Try.ntmps10
  go_wp2_with (first | (go_at_call 8; with_reducible refine (key_any a HA.out _).mono ?_; rintro e w1 ⟨rfl, hb⟩; have t1 := Tr.later (W0 := w) (by repeat (first | with_reducible assumption | with_reducible apply Tr.alloc | with_reducible apply Tr.drew | with_reducible apply Tr.drewN | with_reducible apply Tr.ext | with_reducible apply Tr.other)) hb; have r1 := t1.rules; simp only [Rules, World.size_alloc, World.size_drew, World.size_setCell] at r1; clear hb) | (go_at_call 8; with_reducible refine (key_any b HB.out _).mono ?_; rintro e w1 ⟨rfl, hb⟩; have t1 := Tr.later (W0 := w) (by repeat (first | with_reducible assumption | with_reducible apply Tr.alloc | with_reducible apply Tr.drew | with_reducible apply Tr.drewN | with_reducible apply Tr.ext | with_reducible apply Tr.other)) hb; have r1 := t1.rules; simp only [Rules, World.size_alloc, World.size_drew, World.size_setCell] at r1; clear hb))
  go_ret
  exact ⟨rfl, Tr.below (W0 := w) (by repeat (first | with_reducible assumption | with_reducible apply Tr.alloc | with_reducible apply Tr.drew | with_reducible apply Tr.drewN | with_reducible apply Tr.ext | with_reducible apply Tr.other))⟩
set_option maxHeartbeats 1000000 in
theorem bet7 (a b : ByteArray) (ha : a.size ≤ maxLen) (hb : b.size ≤ maxLen) (a1 : a.toList.isEmpty = false) (a2 : keyB a.data.toList = true) (b1 : b.toList.isEmpty = true) (b2 : keyB b.data.toList = false) (z : a.size = 64) (w : World) : Calls Try.prog 9 #[.string a, .string b] w fun e w' => e = .returned (.tuple #[.string ⟨#[]⟩, .int .i64 133]) ∧ Below w.heap.size w w' := by
  have t0 := Tr.nil w
  have HA := Lib.hid ha
  have HB := Lib.hid hb
  clear ha hb
  have an : ¬ a.toList = [] := by simpa using a1
  have am : (!a.toList.isEmpty) = true := by rw [a1]; rfl
  have bn : b.toList = [] := by simpa using b1
  have s1 : ((a.size : Int) == 64) = true := by simp; omega
  have Z := Lib.hid z
  clear z
  go_enter Try.func9, Try.ntmps9
  go_wp2_with (first | (go_at_call 7; with_reducible refine (right_any a HA.out _).mono ?_; rintro e w1 ⟨rfl, hb⟩; have t1 := Tr.later (W0 := w) (by repeat (first | with_reducible assumption | with_reducible apply Tr.alloc | with_reducible apply Tr.drew | with_reducible apply Tr.drewN | with_reducible apply Tr.ext | with_reducible apply Tr.other)) hb; have r1 := t1.rules; simp only [Rules, World.size_alloc, World.size_drew, World.size_setCell] at r1; clear hb) | (go_at_call 7; with_reducible refine (right_any b HB.out _).mono ?_; rintro e w1 ⟨rfl, hb⟩; have t1 := Tr.later (W0 := w) (by repeat (first | with_reducible assumption | with_reducible apply Tr.alloc | with_reducible apply Tr.drew | with_reducible apply Tr.drewN | with_reducible apply Tr.ext | with_reducible apply Tr.other)) hb; have r1 := t1.rules; simp only [Rules, World.size_alloc, World.size_drew, World.size_setCell] at r1; clear hb))
  go_ret2
  exact ⟨rfl, Tr.below (W0 := w) (by repeat (first | with_reducible assumption | with_reducible apply Tr.alloc | with_reducible apply Tr.drew | with_reducible apply Tr.drewN | with_reducible apply Tr.ext | with_reducible apply Tr.other))⟩
set_option maxHeartbeats 1000000 in
theorem why8 (a b : ByteArray) (ha : a.size ≤ maxLen) (hb : b.size ≤ maxLen) (a1 : a.toList.isEmpty = false) (a2 : keyB a.data.toList = true) (b1 : b.toList.isEmpty = true) (b2 : keyB b.data.toList = false) (y : ¬ a.size = 64) (z : b.size = 64) (w : World) : Calls Try.prog 10 #[.string a, .string b] w fun e w' => e = .returned (.int .i64 133) ∧ Below w.heap.size w w' := by
  have t0 := Tr.nil w
  have HA := Lib.hid ha
  have HB := Lib.hid hb
  clear ha hb
  have an : ¬ a.toList = [] := by simpa using a1
  have am : (!a.toList.isEmpty) = true := by rw [a1]; rfl
  have bn : b.toList = [] := by simpa using b1
  have s1 : ((a.size : Int) == 64) = false := by simp; omega
  have s2 : ((b.size : Int) == 64) = true := by simp; omega
  have Y := Lib.hid y
  have Z := Lib.hid z
  clear y z
  go_enter Try.func10, Try.ntmps10
  go_wp2_with (first | (go_at_call 8; with_reducible refine (key_any a HA.out _).mono ?_; rintro e w1 ⟨rfl, hb⟩; have t1 := Tr.later (W0 := w) (by repeat (first | with_reducible assumption | with_reducible apply Tr.alloc | with_reducible apply Tr.drew | with_reducible apply Tr.drewN | with_reducible apply Tr.ext | with_reducible apply Tr.other)) hb; have r1 := t1.rules; simp only [Rules, World.size_alloc, World.size_drew, World.size_setCell] at r1; clear hb) | (go_at_call 8; with_reducible refine (key_any b HB.out _).mono ?_; rintro e w1 ⟨rfl, hb⟩; have t1 := Tr.later (W0 := w) (by repeat (first | with_reducible assumption | with_reducible apply Tr.alloc | with_reducible apply Tr.drew | with_reducible apply Tr.drewN | with_reducible apply Tr.ext | with_reducible apply Tr.other)) hb; have r1 := t1.rules; simp only [Rules, World.size_alloc, World.size_drew, World.size_setCell] at r1; clear hb))
  go_ret
  exact ⟨rfl, Tr.below (W0 := w) (by repeat (first | with_reducible assumption | with_reducible apply Tr.alloc | with_reducible apply Tr.drew | with_reducible apply Tr.drewN | with_reducible apply Tr.ext | with_reducible apply Tr.other))⟩
set_option maxHeartbeats 1000000 in
theorem bet8 (a b : ByteArray) (ha : a.size ≤ maxLen) (hb : b.size ≤ maxLen) (a1 : a.toList.isEmpty = false) (a2 : keyB a.data.toList = true) (b1 : b.toList.isEmpty = true) (b2 : keyB b.data.toList = false) (y : ¬ a.size = 64) (z : b.size = 64) (w : World) : Calls Try.prog 9 #[.string a, .string b] w fun e w' => e = .returned (.tuple #[.string ⟨#[]⟩, .int .i64 133]) ∧ Below w.heap.size w w' := by
  have t0 := Tr.nil w
  have HA := Lib.hid ha
  have HB := Lib.hid hb
  clear ha hb
  have an : ¬ a.toList = [] := by simpa using a1
  have am : (!a.toList.isEmpty) = true := by rw [a1]; rfl
  have bn : b.toList = [] := by simpa using b1
  have s1 : ((a.size : Int) == 64) = false := by simp; omega
  have s2 : ((b.size : Int) == 64) = true := by simp; omega
  have Y := Lib.hid y
  have Z := Lib.hid z
  clear y z
  go_enter Try.func9, Try.ntmps9
  go_wp2_with (first | (go_at_call 7; with_reducible refine (right_any a HA.out _).mono ?_; rintro e w1 ⟨rfl, hb⟩; have t1 := Tr.later (W0 := w) (by repeat (first | with_reducible assumption | with_reducible apply Tr.alloc | with_reducible apply Tr.drew | with_reducible apply Tr.drewN | with_reducible apply Tr.ext | with_reducible apply Tr.other)) hb; have r1 := t1.rules; simp only [Rules, World.size_alloc, World.size_drew, World.size_setCell] at r1; clear hb) | (go_at_call 7; with_reducible refine (right_any b HB.out _).mono ?_; rintro e w1 ⟨rfl, hb⟩; have t1 := Tr.later (W0 := w) (by repeat (first | with_reducible assumption | with_reducible apply Tr.alloc | with_reducible apply Tr.drew | with_reducible apply Tr.drewN | with_reducible apply Tr.ext | with_reducible apply Tr.other)) hb; have r1 := t1.rules; simp only [Rules, World.size_alloc, World.size_drew, World.size_setCell] at r1; clear hb))
  go_ret2
  exact ⟨rfl, Tr.below (W0 := w) (by repeat (first | with_reducible assumption | with_reducible apply Tr.alloc | with_reducible apply Tr.drew | with_reducible apply Tr.drewN | with_reducible apply Tr.ext | with_reducible apply Tr.other))⟩
set_option maxHeartbeats 1000000 in
theorem why9 (a b : ByteArray) (ha : a.size ≤ maxLen) (hb : b.size ≤ maxLen) (a1 : a.toList.isEmpty = false) (a2 : keyB a.data.toList = true) (b1 : b.toList.isEmpty = true) (b2 : keyB b.data.toList = false) (y : ¬ a.size = 64) (z : ¬ b.size = 64) (w : World) : Calls Try.prog 10 #[.string a, .string b] w fun e w' => e = .returned (.int .i64 0) ∧ Below w.heap.size w w' := by
  have t0 := Tr.nil w
  have HA := Lib.hid ha
  have HB := Lib.hid hb
  clear ha hb
  have an : ¬ a.toList = [] := by simpa using a1
  have am : (!a.toList.isEmpty) = true := by rw [a1]; rfl
  have bn : b.toList = [] := by simpa using b1
  have s1 : ((a.size : Int) == 64) = false := by simp; omega
  have s2 : ((b.size : Int) == 64) = false := by simp; omega
  have Y := Lib.hid y
  have Z := Lib.hid z
  clear y z
  go_enter Try.func10, Try.ntmps10
  go_wp2_with (first | (go_at_call 8; with_reducible refine (key_any a HA.out _).mono ?_; rintro e w1 ⟨rfl, hb⟩; have t1 := Tr.later (W0 := w) (by repeat (first | with_reducible assumption | with_reducible apply Tr.alloc | with_reducible apply Tr.drew | with_reducible apply Tr.drewN | with_reducible apply Tr.ext | with_reducible apply Tr.other)) hb; have r1 := t1.rules; simp only [Rules, World.size_alloc, World.size_drew, World.size_setCell] at r1; clear hb) | (go_at_call 8; with_reducible refine (key_any b HB.out _).mono ?_; rintro e w1 ⟨rfl, hb⟩; have t1 := Tr.later (W0 := w) (by repeat (first | with_reducible assumption | with_reducible apply Tr.alloc | with_reducible apply Tr.drew | with_reducible apply Tr.drewN | with_reducible apply Tr.ext | with_reducible apply Tr.other)) hb; have r1 := t1.rules; simp only [Rules, World.size_alloc, World.size_drew, World.size_setCell] at r1; clear hb))
  go_ret
  exact ⟨rfl, Tr.below (W0 := w) (by repeat (first | with_reducible assumption | with_reducible apply Tr.alloc | with_reducible apply Tr.drew | with_reducible apply Tr.drewN | with_reducible apply Tr.ext | with_reducible apply Tr.other))⟩
set_option maxHeartbeats 1000000 in
theorem bet9 (a b : ByteArray) (ha : a.size ≤ maxLen) (hb : b.size ≤ maxLen) (r : ByteArray) (hm : ∀ w, Calls Try.prog 14 #[.string a, .string b] w fun e w' => e = .returned (.string r) ∧ Below w.heap.size w w') (a1 : a.toList.isEmpty = false) (a2 : keyB a.data.toList = true) (b1 : b.toList.isEmpty = true) (b2 : keyB b.data.toList = false) (y : ¬ a.size = 64) (z : ¬ b.size = 64) (w : World) : Calls Try.prog 9 #[.string a, .string b] w fun e w' => e = .returned (.tuple #[.string r, .int .i64 0]) ∧ Below w.heap.size w w' := by
  have t0 := Tr.nil w
  have HA := Lib.hid ha
  have HB := Lib.hid hb
  have HM := Lib.hid hm
  clear ha hb hm
  have an : ¬ a.toList = [] := by simpa using a1
  have am : (!a.toList.isEmpty) = true := by rw [a1]; rfl
  have bn : b.toList = [] := by simpa using b1
  have s1 : ((a.size : Int) == 64) = false := by simp; omega
  have s2 : ((b.size : Int) == 64) = false := by simp; omega
  have Y := Lib.hid y
  have Z := Lib.hid z
  clear y z
  go_enter Try.func9, Try.ntmps9
  go_wp2_with (first | (go_at_call 7; with_reducible refine (right_any a HA.out _).mono ?_; rintro e w1 ⟨rfl, hb⟩; have t1 := Tr.later (W0 := w) (by repeat (first | with_reducible assumption | with_reducible apply Tr.alloc | with_reducible apply Tr.drew | with_reducible apply Tr.drewN | with_reducible apply Tr.ext | with_reducible apply Tr.other)) hb; have r1 := t1.rules; simp only [Rules, World.size_alloc, World.size_drew, World.size_setCell] at r1; clear hb) | (go_at_call 7; with_reducible refine (right_any b HB.out _).mono ?_; rintro e w1 ⟨rfl, hb⟩; have t1 := Tr.later (W0 := w) (by repeat (first | with_reducible assumption | with_reducible apply Tr.alloc | with_reducible apply Tr.drew | with_reducible apply Tr.drewN | with_reducible apply Tr.ext | with_reducible apply Tr.other)) hb; have r1 := t1.rules; simp only [Rules, World.size_alloc, World.size_drew, World.size_setCell] at r1; clear hb) | (go_at_call 14; with_reducible refine (HM.out _).mono ?_; rintro e w1 ⟨rfl, hb⟩; have t1 := Tr.later (W0 := w) (by repeat (first | with_reducible assumption | with_reducible apply Tr.alloc | with_reducible apply Tr.drew | with_reducible apply Tr.drewN | with_reducible apply Tr.ext | with_reducible apply Tr.other)) hb; have r1 := t1.rules; simp only [Rules, World.size_alloc, World.size_drew, World.size_setCell] at r1; clear hb))
  go_ret2
  exact ⟨rfl, Tr.below (W0 := w) (by repeat (first | with_reducible assumption | with_reducible apply Tr.alloc | with_reducible apply Tr.drew | with_reducible apply Tr.drewN | with_reducible apply Tr.ext | with_reducible apply Tr.other))⟩
set_option maxHeartbeats 1000000 in
theorem why10 (a b : ByteArray) (ha : a.size ≤ maxLen) (hb : b.size ≤ maxLen) (a1 : a.toList.isEmpty = false) (a2 : keyB a.data.toList = true) (b1 : b.toList.isEmpty = false) (b2 : keyB b.data.toList = true) (l1 : Op.bytesLess a.toList b.toList = false) (w : World) : Calls Try.prog 10 #[.string a, .string b] w fun e w' => e = .returned (.int .i64 132) ∧ Below w.heap.size w w' := by
  have t0 := Tr.nil w
  have HA := Lib.hid ha
  have HB := Lib.hid hb
  clear ha hb
  have an : ¬ a.toList = [] := by simpa using a1
  have am : (!a.toList.isEmpty) = true := by rw [a1]; rfl
  have bn : ¬ b.toList = [] := by simpa using b1
  have bm : (!b.toList.isEmpty) = true := by rw [b1]; rfl
  go_enter Try.func10, Try.ntmps10
  go_wp2_with (first | (go_at_call 8; with_reducible refine (key_any a HA.out _).mono ?_; rintro e w1 ⟨rfl, hb⟩; have t1 := Tr.later (W0 := w) (by repeat (first | with_reducible assumption | with_reducible apply Tr.alloc | with_reducible apply Tr.drew | with_reducible apply Tr.drewN | with_reducible apply Tr.ext | with_reducible apply Tr.other)) hb; have r1 := t1.rules; simp only [Rules, World.size_alloc, World.size_drew, World.size_setCell] at r1; clear hb) | (go_at_call 8; with_reducible refine (key_any b HB.out _).mono ?_; rintro e w1 ⟨rfl, hb⟩; have t1 := Tr.later (W0 := w) (by repeat (first | with_reducible assumption | with_reducible apply Tr.alloc | with_reducible apply Tr.drew | with_reducible apply Tr.drewN | with_reducible apply Tr.ext | with_reducible apply Tr.other)) hb; have r1 := t1.rules; simp only [Rules, World.size_alloc, World.size_drew, World.size_setCell] at r1; clear hb))
  go_ret
  exact ⟨rfl, Tr.below (W0 := w) (by repeat (first | with_reducible assumption | with_reducible apply Tr.alloc | with_reducible apply Tr.drew | with_reducible apply Tr.drewN | with_reducible apply Tr.ext | with_reducible apply Tr.other))⟩
set_option maxHeartbeats 1000000 in
theorem bet10 (a b : ByteArray) (ha : a.size ≤ maxLen) (hb : b.size ≤ maxLen) (a1 : a.toList.isEmpty = false) (a2 : keyB a.data.toList = true) (b1 : b.toList.isEmpty = false) (b2 : keyB b.data.toList = true) (l1 : Op.bytesLess a.toList b.toList = false) (w : World) : Calls Try.prog 9 #[.string a, .string b] w fun e w' => e = .returned (.tuple #[.string ⟨#[]⟩, .int .i64 132]) ∧ Below w.heap.size w w' := by
  have t0 := Tr.nil w
  have HA := Lib.hid ha
  have HB := Lib.hid hb
  clear ha hb
  have an : ¬ a.toList = [] := by simpa using a1
  have am : (!a.toList.isEmpty) = true := by rw [a1]; rfl
  have bn : ¬ b.toList = [] := by simpa using b1
  have bm : (!b.toList.isEmpty) = true := by rw [b1]; rfl
  go_enter Try.func9, Try.ntmps9
  go_wp2_with (first | (go_at_call 7; with_reducible refine (right_any a HA.out _).mono ?_; rintro e w1 ⟨rfl, hb⟩; have t1 := Tr.later (W0 := w) (by repeat (first | with_reducible assumption | with_reducible apply Tr.alloc | with_reducible apply Tr.drew | with_reducible apply Tr.drewN | with_reducible apply Tr.ext | with_reducible apply Tr.other)) hb; have r1 := t1.rules; simp only [Rules, World.size_alloc, World.size_drew, World.size_setCell] at r1; clear hb) | (go_at_call 7; with_reducible refine (right_any b HB.out _).mono ?_; rintro e w1 ⟨rfl, hb⟩; have t1 := Tr.later (W0 := w) (by repeat (first | with_reducible assumption | with_reducible apply Tr.alloc | with_reducible apply Tr.drew | with_reducible apply Tr.drewN | with_reducible apply Tr.ext | with_reducible apply Tr.other)) hb; have r1 := t1.rules; simp only [Rules, World.size_alloc, World.size_drew, World.size_setCell] at r1; clear hb))
  go_ret2
  exact ⟨rfl, Tr.below (W0 := w) (by repeat (first | with_reducible assumption | with_reducible apply Tr.alloc | with_reducible apply Tr.drew | with_reducible apply Tr.drewN | with_reducible apply Tr.ext | with_reducible apply Tr.other))⟩
set_option maxHeartbeats 1000000 in
theorem why11 (a b : ByteArray) (ha : a.size ≤ maxLen) (hb : b.size ≤ maxLen) (a1 : a.toList.isEmpty = false) (a2 : keyB a.data.toList = true) (b1 : b.toList.isEmpty = false) (b2 : keyB b.data.toList = true) (l1 : Op.bytesLess a.toList b.toList = true) (z : a.size = 64) (w : World) : Calls Try.prog 10 #[.string a, .string b] w fun e w' => e = .returned (.int .i64 133) ∧ Below w.heap.size w w' := by
  have t0 := Tr.nil w
  have HA := Lib.hid ha
  have HB := Lib.hid hb
  clear ha hb
  have an : ¬ a.toList = [] := by simpa using a1
  have am : (!a.toList.isEmpty) = true := by rw [a1]; rfl
  have bn : ¬ b.toList = [] := by simpa using b1
  have bm : (!b.toList.isEmpty) = true := by rw [b1]; rfl
  have s1 : ((a.size : Int) == 64) = true := by simp; omega
  have Z := Lib.hid z
  clear z
  go_enter Try.func10, Try.ntmps10
  go_wp2_with (first | (go_at_call 8; with_reducible refine (key_any a HA.out _).mono ?_; rintro e w1 ⟨rfl, hb⟩; have t1 := Tr.later (W0 := w) (by repeat (first | with_reducible assumption | with_reducible apply Tr.alloc | with_reducible apply Tr.drew | with_reducible apply Tr.drewN | with_reducible apply Tr.ext | with_reducible apply Tr.other)) hb; have r1 := t1.rules; simp only [Rules, World.size_alloc, World.size_drew, World.size_setCell] at r1; clear hb) | (go_at_call 8; with_reducible refine (key_any b HB.out _).mono ?_; rintro e w1 ⟨rfl, hb⟩; have t1 := Tr.later (W0 := w) (by repeat (first | with_reducible assumption | with_reducible apply Tr.alloc | with_reducible apply Tr.drew | with_reducible apply Tr.drewN | with_reducible apply Tr.ext | with_reducible apply Tr.other)) hb; have r1 := t1.rules; simp only [Rules, World.size_alloc, World.size_drew, World.size_setCell] at r1; clear hb))
  go_ret
  exact ⟨rfl, Tr.below (W0 := w) (by repeat (first | with_reducible assumption | with_reducible apply Tr.alloc | with_reducible apply Tr.drew | with_reducible apply Tr.drewN | with_reducible apply Tr.ext | with_reducible apply Tr.other))⟩
set_option maxHeartbeats 1000000 in
theorem bet11 (a b : ByteArray) (ha : a.size ≤ maxLen) (hb : b.size ≤ maxLen) (a1 : a.toList.isEmpty = false) (a2 : keyB a.data.toList = true) (b1 : b.toList.isEmpty = false) (b2 : keyB b.data.toList = true) (l1 : Op.bytesLess a.toList b.toList = true) (z : a.size = 64) (w : World) : Calls Try.prog 9 #[.string a, .string b] w fun e w' => e = .returned (.tuple #[.string ⟨#[]⟩, .int .i64 133]) ∧ Below w.heap.size w w' := by
  have t0 := Tr.nil w
  have HA := Lib.hid ha
  have HB := Lib.hid hb
  clear ha hb
  have an : ¬ a.toList = [] := by simpa using a1
  have am : (!a.toList.isEmpty) = true := by rw [a1]; rfl
  have bn : ¬ b.toList = [] := by simpa using b1
  have bm : (!b.toList.isEmpty) = true := by rw [b1]; rfl
  have s1 : ((a.size : Int) == 64) = true := by simp; omega
  have Z := Lib.hid z
  clear z
  go_enter Try.func9, Try.ntmps9
  go_wp2_with (first | (go_at_call 7; with_reducible refine (right_any a HA.out _).mono ?_; rintro e w1 ⟨rfl, hb⟩; have t1 := Tr.later (W0 := w) (by repeat (first | with_reducible assumption | with_reducible apply Tr.alloc | with_reducible apply Tr.drew | with_reducible apply Tr.drewN | with_reducible apply Tr.ext | with_reducible apply Tr.other)) hb; have r1 := t1.rules; simp only [Rules, World.size_alloc, World.size_drew, World.size_setCell] at r1; clear hb) | (go_at_call 7; with_reducible refine (right_any b HB.out _).mono ?_; rintro e w1 ⟨rfl, hb⟩; have t1 := Tr.later (W0 := w) (by repeat (first | with_reducible assumption | with_reducible apply Tr.alloc | with_reducible apply Tr.drew | with_reducible apply Tr.drewN | with_reducible apply Tr.ext | with_reducible apply Tr.other)) hb; have r1 := t1.rules; simp only [Rules, World.size_alloc, World.size_drew, World.size_setCell] at r1; clear hb))
  go_ret2
  exact ⟨rfl, Tr.below (W0 := w) (by repeat (first | with_reducible assumption | with_reducible apply Tr.alloc | with_reducible apply Tr.drew | with_reducible apply Tr.drewN | with_reducible apply Tr.ext | with_reducible apply Tr.other))⟩
set_option maxHeartbeats 1000000 in
theorem why12 (a b : ByteArray) (ha : a.size ≤ maxLen) (hb : b.size ≤ maxLen) (a1 : a.toList.isEmpty = false) (a2 : keyB a.data.toList = true) (b1 : b.toList.isEmpty = false) (b2 : keyB b.data.toList = true) (l1 : Op.bytesLess a.toList b.toList = true) (y : ¬ a.size = 64) (z : b.size = 64) (w : World) : Calls Try.prog 10 #[.string a, .string b] w fun e w' => e = .returned (.int .i64 133) ∧ Below w.heap.size w w' := by
  have t0 := Tr.nil w
  have HA := Lib.hid ha
  have HB := Lib.hid hb
  clear ha hb
  have an : ¬ a.toList = [] := by simpa using a1
  have am : (!a.toList.isEmpty) = true := by rw [a1]; rfl
  have bn : ¬ b.toList = [] := by simpa using b1
  have bm : (!b.toList.isEmpty) = true := by rw [b1]; rfl
  have s1 : ((a.size : Int) == 64) = false := by simp; omega
  have s2 : ((b.size : Int) == 64) = true := by simp; omega
  have Y := Lib.hid y
  have Z := Lib.hid z
  clear y z
  go_enter Try.func10, Try.ntmps10
  go_wp2_with (first | (go_at_call 8; with_reducible refine (key_any a HA.out _).mono ?_; rintro e w1 ⟨rfl, hb⟩; have t1 := Tr.later (W0 := w) (by repeat (first | with_reducible assumption | with_reducible apply Tr.alloc | with_reducible apply Tr.drew | with_reducible apply Tr.drewN | with_reducible apply Tr.ext | with_reducible apply Tr.other)) hb; have r1 := t1.rules; simp only [Rules, World.size_alloc, World.size_drew, World.size_setCell] at r1; clear hb) | (go_at_call 8; with_reducible refine (key_any b HB.out _).mono ?_; rintro e w1 ⟨rfl, hb⟩; have t1 := Tr.later (W0 := w) (by repeat (first | with_reducible assumption | with_reducible apply Tr.alloc | with_reducible apply Tr.drew | with_reducible apply Tr.drewN | with_reducible apply Tr.ext | with_reducible apply Tr.other)) hb; have r1 := t1.rules; simp only [Rules, World.size_alloc, World.size_drew, World.size_setCell] at r1; clear hb))
  go_ret
  exact ⟨rfl, Tr.below (W0 := w) (by repeat (first | with_reducible assumption | with_reducible apply Tr.alloc | with_reducible apply Tr.drew | with_reducible apply Tr.drewN | with_reducible apply Tr.ext | with_reducible apply Tr.other))⟩
set_option maxHeartbeats 1000000 in
theorem bet12 (a b : ByteArray) (ha : a.size ≤ maxLen) (hb : b.size ≤ maxLen) (a1 : a.toList.isEmpty = false) (a2 : keyB a.data.toList = true) (b1 : b.toList.isEmpty = false) (b2 : keyB b.data.toList = true) (l1 : Op.bytesLess a.toList b.toList = true) (y : ¬ a.size = 64) (z : b.size = 64) (w : World) : Calls Try.prog 9 #[.string a, .string b] w fun e w' => e = .returned (.tuple #[.string ⟨#[]⟩, .int .i64 133]) ∧ Below w.heap.size w w' := by
  have t0 := Tr.nil w
  have HA := Lib.hid ha
  have HB := Lib.hid hb
  clear ha hb
  have an : ¬ a.toList = [] := by simpa using a1
  have am : (!a.toList.isEmpty) = true := by rw [a1]; rfl
  have bn : ¬ b.toList = [] := by simpa using b1
  have bm : (!b.toList.isEmpty) = true := by rw [b1]; rfl
  have s1 : ((a.size : Int) == 64) = false := by simp; omega
  have s2 : ((b.size : Int) == 64) = true := by simp; omega
  have Y := Lib.hid y
  have Z := Lib.hid z
  clear y z
  go_enter Try.func9, Try.ntmps9
  go_wp2_with (first | (go_at_call 7; with_reducible refine (right_any a HA.out _).mono ?_; rintro e w1 ⟨rfl, hb⟩; have t1 := Tr.later (W0 := w) (by repeat (first | with_reducible assumption | with_reducible apply Tr.alloc | with_reducible apply Tr.drew | with_reducible apply Tr.drewN | with_reducible apply Tr.ext | with_reducible apply Tr.other)) hb; have r1 := t1.rules; simp only [Rules, World.size_alloc, World.size_drew, World.size_setCell] at r1; clear hb) | (go_at_call 7; with_reducible refine (right_any b HB.out _).mono ?_; rintro e w1 ⟨rfl, hb⟩; have t1 := Tr.later (W0 := w) (by repeat (first | with_reducible assumption | with_reducible apply Tr.alloc | with_reducible apply Tr.drew | with_reducible apply Tr.drewN | with_reducible apply Tr.ext | with_reducible apply Tr.other)) hb; have r1 := t1.rules; simp only [Rules, World.size_alloc, World.size_drew, World.size_setCell] at r1; clear hb))
  go_ret2
  exact ⟨rfl, Tr.below (W0 := w) (by repeat (first | with_reducible assumption | with_reducible apply Tr.alloc | with_reducible apply Tr.drew | with_reducible apply Tr.drewN | with_reducible apply Tr.ext | with_reducible apply Tr.other))⟩
set_option maxHeartbeats 1000000 in
theorem why13 (a b : ByteArray) (ha : a.size ≤ maxLen) (hb : b.size ≤ maxLen) (a1 : a.toList.isEmpty = false) (a2 : keyB a.data.toList = true) (b1 : b.toList.isEmpty = false) (b2 : keyB b.data.toList = true) (l1 : Op.bytesLess a.toList b.toList = true) (y : ¬ a.size = 64) (z : ¬ b.size = 64) (w : World) : Calls Try.prog 10 #[.string a, .string b] w fun e w' => e = .returned (.int .i64 0) ∧ Below w.heap.size w w' := by
  have t0 := Tr.nil w
  have HA := Lib.hid ha
  have HB := Lib.hid hb
  clear ha hb
  have an : ¬ a.toList = [] := by simpa using a1
  have am : (!a.toList.isEmpty) = true := by rw [a1]; rfl
  have bn : ¬ b.toList = [] := by simpa using b1
  have bm : (!b.toList.isEmpty) = true := by rw [b1]; rfl
  have s1 : ((a.size : Int) == 64) = false := by simp; omega
  have s2 : ((b.size : Int) == 64) = false := by simp; omega
  have Y := Lib.hid y
  have Z := Lib.hid z
  clear y z
  go_enter Try.func10, Try.ntmps10
  go_wp2_with (first | (go_at_call 8; with_reducible refine (key_any a HA.out _).mono ?_; rintro e w1 ⟨rfl, hb⟩; have t1 := Tr.later (W0 := w) (by repeat (first | with_reducible assumption | with_reducible apply Tr.alloc | with_reducible apply Tr.drew | with_reducible apply Tr.drewN | with_reducible apply Tr.ext | with_reducible apply Tr.other)) hb; have r1 := t1.rules; simp only [Rules, World.size_alloc, World.size_drew, World.size_setCell] at r1; clear hb) | (go_at_call 8; with_reducible refine (key_any b HB.out _).mono ?_; rintro e w1 ⟨rfl, hb⟩; have t1 := Tr.later (W0 := w) (by repeat (first | with_reducible assumption | with_reducible apply Tr.alloc | with_reducible apply Tr.drew | with_reducible apply Tr.drewN | with_reducible apply Tr.ext | with_reducible apply Tr.other)) hb; have r1 := t1.rules; simp only [Rules, World.size_alloc, World.size_drew, World.size_setCell] at r1; clear hb))
  go_ret
  exact ⟨rfl, Tr.below (W0 := w) (by repeat (first | with_reducible assumption | with_reducible apply Tr.alloc | with_reducible apply Tr.drew | with_reducible apply Tr.drewN | with_reducible apply Tr.ext | with_reducible apply Tr.other))⟩
set_option maxHeartbeats 1000000 in
theorem bet13 (a b : ByteArray) (ha : a.size ≤ maxLen) (hb : b.size ≤ maxLen) (r : ByteArray) (hm : ∀ w, Calls Try.prog 14 #[.string a, .string b] w fun e w' => e = .returned (.string r) ∧ Below w.heap.size w w') (a1 : a.toList.isEmpty = false) (a2 : keyB a.data.toList = true) (b1 : b.toList.isEmpty = false) (b2 : keyB b.data.toList = true) (l1 : Op.bytesLess a.toList b.toList = true) (y : ¬ a.size = 64) (z : ¬ b.size = 64) (w : World) : Calls Try.prog 9 #[.string a, .string b] w fun e w' => e = .returned (.tuple #[.string r, .int .i64 0]) ∧ Below w.heap.size w w' := by
  have t0 := Tr.nil w
  have HA := Lib.hid ha
  have HB := Lib.hid hb
  have HM := Lib.hid hm
  clear ha hb hm
  have an : ¬ a.toList = [] := by simpa using a1
  have am : (!a.toList.isEmpty) = true := by rw [a1]; rfl
  have bn : ¬ b.toList = [] := by simpa using b1
  have bm : (!b.toList.isEmpty) = true := by rw [b1]; rfl
  have s1 : ((a.size : Int) == 64) = false := by simp; omega
  have s2 : ((b.size : Int) == 64) = false := by simp; omega
  have Y := Lib.hid y
  have Z := Lib.hid z
  clear y z
  go_enter Try.func9, Try.ntmps9
  go_wp2_with (first | (go_at_call 7; with_reducible refine (right_any a HA.out _).mono ?_; rintro e w1 ⟨rfl, hb⟩; have t1 := Tr.later (W0 := w) (by repeat (first | with_reducible assumption | with_reducible apply Tr.alloc | with_reducible apply Tr.drew | with_reducible apply Tr.drewN | with_reducible apply Tr.ext | with_reducible apply Tr.other)) hb; have r1 := t1.rules; simp only [Rules, World.size_alloc, World.size_drew, World.size_setCell] at r1; clear hb) | (go_at_call 7; with_reducible refine (right_any b HB.out _).mono ?_; rintro e w1 ⟨rfl, hb⟩; have t1 := Tr.later (W0 := w) (by repeat (first | with_reducible assumption | with_reducible apply Tr.alloc | with_reducible apply Tr.drew | with_reducible apply Tr.drewN | with_reducible apply Tr.ext | with_reducible apply Tr.other)) hb; have r1 := t1.rules; simp only [Rules, World.size_alloc, World.size_drew, World.size_setCell] at r1; clear hb) | (go_at_call 14; with_reducible refine (HM.out _).mono ?_; rintro e w1 ⟨rfl, hb⟩; have t1 := Tr.later (W0 := w) (by repeat (first | with_reducible assumption | with_reducible apply Tr.alloc | with_reducible apply Tr.drew | with_reducible apply Tr.drewN | with_reducible apply Tr.ext | with_reducible apply Tr.other)) hb; have r1 := t1.rules; simp only [Rules, World.size_alloc, World.size_drew, World.size_setCell] at r1; clear hb))
  go_ret2
  exact ⟨rfl, Tr.below (W0 := w) (by repeat (first | with_reducible assumption | with_reducible apply Tr.alloc | with_reducible apply Tr.drew | with_reducible apply Tr.drewN | with_reducible apply Tr.ext | with_reducible apply Tr.other))⟩
set_option maxHeartbeats 1000000 in
theorem why14 (a b : ByteArray) (ha : a.size ≤ maxLen) (hb : b.size ≤ maxLen) (a1 : a.toList.isEmpty = false) (a2 : keyB a.data.toList = true) (b1 : b.toList.isEmpty = false) (b2 : keyB b.data.toList = false) (w : World) : Calls Try.prog 10 #[.string a, .string b] w fun e w' => e = .returned (.int .i64 131) ∧ Below w.heap.size w w' := by
  have t0 := Tr.nil w
  have HA := Lib.hid ha
  have HB := Lib.hid hb
  clear ha hb
  have an : ¬ a.toList = [] := by simpa using a1
  have am : (!a.toList.isEmpty) = true := by rw [a1]; rfl
  have bn : ¬ b.toList = [] := by simpa using b1
  have bm : (!b.toList.isEmpty) = true := by rw [b1]; rfl
  go_enter Try.func10, Try.ntmps10
  go_wp2_with (first | (go_at_call 8; with_reducible refine (key_any a HA.out _).mono ?_; rintro e w1 ⟨rfl, hb⟩; have t1 := Tr.later (W0 := w) (by repeat (first | with_reducible assumption | with_reducible apply Tr.alloc | with_reducible apply Tr.drew | with_reducible apply Tr.drewN | with_reducible apply Tr.ext | with_reducible apply Tr.other)) hb; have r1 := t1.rules; simp only [Rules, World.size_alloc, World.size_drew, World.size_setCell] at r1; clear hb) | (go_at_call 8; with_reducible refine (key_any b HB.out _).mono ?_; rintro e w1 ⟨rfl, hb⟩; have t1 := Tr.later (W0 := w) (by repeat (first | with_reducible assumption | with_reducible apply Tr.alloc | with_reducible apply Tr.drew | with_reducible apply Tr.drewN | with_reducible apply Tr.ext | with_reducible apply Tr.other)) hb; have r1 := t1.rules; simp only [Rules, World.size_alloc, World.size_drew, World.size_setCell] at r1; clear hb))
  go_ret
  exact ⟨rfl, Tr.below (W0 := w) (by repeat (first | with_reducible assumption | with_reducible apply Tr.alloc | with_reducible apply Tr.drew | with_reducible apply Tr.drewN | with_reducible apply Tr.ext | with_reducible apply Tr.other))⟩
set_option maxHeartbeats 1000000 in
theorem bet14 (a b : ByteArray) (ha : a.size ≤ maxLen) (hb : b.size ≤ maxLen) (a1 : a.toList.isEmpty = false) (a2 : keyB a.data.toList = true) (b1 : b.toList.isEmpty = false) (b2 : keyB b.data.toList = false) (w : World) : Calls Try.prog 9 #[.string a, .string b] w fun e w' => e = .returned (.tuple #[.string ⟨#[]⟩, .int .i64 131]) ∧ Below w.heap.size w w' := by
  have t0 := Tr.nil w
  have HA := Lib.hid ha
  have HB := Lib.hid hb
  clear ha hb
  have an : ¬ a.toList = [] := by simpa using a1
  have am : (!a.toList.isEmpty) = true := by rw [a1]; rfl
  have bn : ¬ b.toList = [] := by simpa using b1
  have bm : (!b.toList.isEmpty) = true := by rw [b1]; rfl
  go_enter Try.func9, Try.ntmps9
  go_wp2_with (first | (go_at_call 7; with_reducible refine (right_any a HA.out _).mono ?_; rintro e w1 ⟨rfl, hb⟩; have t1 := Tr.later (W0 := w) (by repeat (first | with_reducible assumption | with_reducible apply Tr.alloc | with_reducible apply Tr.drew | with_reducible apply Tr.drewN | with_reducible apply Tr.ext | with_reducible apply Tr.other)) hb; have r1 := t1.rules; simp only [Rules, World.size_alloc, World.size_drew, World.size_setCell] at r1; clear hb) | (go_at_call 7; with_reducible refine (right_any b HB.out _).mono ?_; rintro e w1 ⟨rfl, hb⟩; have t1 := Tr.later (W0 := w) (by repeat (first | with_reducible assumption | with_reducible apply Tr.alloc | with_reducible apply Tr.drew | with_reducible apply Tr.drewN | with_reducible apply Tr.ext | with_reducible apply Tr.other)) hb; have r1 := t1.rules; simp only [Rules, World.size_alloc, World.size_drew, World.size_setCell] at r1; clear hb))
  go_ret2
  exact ⟨rfl, Tr.below (W0 := w) (by repeat (first | with_reducible assumption | with_reducible apply Tr.alloc | with_reducible apply Tr.drew | with_reducible apply Tr.drewN | with_reducible apply Tr.ext | with_reducible apply Tr.other))⟩
set_option maxHeartbeats 1000000 in
theorem why15 (a b : ByteArray) (ha : a.size ≤ maxLen) (hb : b.size ≤ maxLen) (a1 : a.toList.isEmpty = false) (a2 : keyB a.data.toList = false) (b1 : b.toList.isEmpty = true) (b2 : keyB b.data.toList = false) (w : World) : Calls Try.prog 10 #[.string a, .string b] w fun e w' => e = .returned (.int .i64 131) ∧ Below w.heap.size w w' := by
  have t0 := Tr.nil w
  have HA := Lib.hid ha
  have HB := Lib.hid hb
  clear ha hb
  have an : ¬ a.toList = [] := by simpa using a1
  have am : (!a.toList.isEmpty) = true := by rw [a1]; rfl
  have bn : b.toList = [] := by simpa using b1
  go_enter Try.func10, Try.ntmps10
  go_wp2_with (first | (go_at_call 8; with_reducible refine (key_any a HA.out _).mono ?_; rintro e w1 ⟨rfl, hb⟩; have t1 := Tr.later (W0 := w) (by repeat (first | with_reducible assumption | with_reducible apply Tr.alloc | with_reducible apply Tr.drew | with_reducible apply Tr.drewN | with_reducible apply Tr.ext | with_reducible apply Tr.other)) hb; have r1 := t1.rules; simp only [Rules, World.size_alloc, World.size_drew, World.size_setCell] at r1; clear hb) | (go_at_call 8; with_reducible refine (key_any b HB.out _).mono ?_; rintro e w1 ⟨rfl, hb⟩; have t1 := Tr.later (W0 := w) (by repeat (first | with_reducible assumption | with_reducible apply Tr.alloc | with_reducible apply Tr.drew | with_reducible apply Tr.drewN | with_reducible apply Tr.ext | with_reducible apply Tr.other)) hb; have r1 := t1.rules; simp only [Rules, World.size_alloc, World.size_drew, World.size_setCell] at r1; clear hb))
  go_ret
  exact ⟨rfl, Tr.below (W0 := w) (by repeat (first | with_reducible assumption | with_reducible apply Tr.alloc | with_reducible apply Tr.drew | with_reducible apply Tr.drewN | with_reducible apply Tr.ext | with_reducible apply Tr.other))⟩
set_option maxHeartbeats 1000000 in
theorem bet15 (a b : ByteArray) (ha : a.size ≤ maxLen) (hb : b.size ≤ maxLen) (a1 : a.toList.isEmpty = false) (a2 : keyB a.data.toList = false) (b1 : b.toList.isEmpty = true) (b2 : keyB b.data.toList = false) (w : World) : Calls Try.prog 9 #[.string a, .string b] w fun e w' => e = .returned (.tuple #[.string ⟨#[]⟩, .int .i64 131]) ∧ Below w.heap.size w w' := by
  have t0 := Tr.nil w
  have HA := Lib.hid ha
  have HB := Lib.hid hb
  clear ha hb
  have an : ¬ a.toList = [] := by simpa using a1
  have am : (!a.toList.isEmpty) = true := by rw [a1]; rfl
  have bn : b.toList = [] := by simpa using b1
  go_enter Try.func9, Try.ntmps9
  go_wp2_with (first | (go_at_call 7; with_reducible refine (right_any a HA.out _).mono ?_; rintro e w1 ⟨rfl, hb⟩; have t1 := Tr.later (W0 := w) (by repeat (first | with_reducible assumption | with_reducible apply Tr.alloc | with_reducible apply Tr.drew | with_reducible apply Tr.drewN | with_reducible apply Tr.ext | with_reducible apply Tr.other)) hb; have r1 := t1.rules; simp only [Rules, World.size_alloc, World.size_drew, World.size_setCell] at r1; clear hb) | (go_at_call 7; with_reducible refine (right_any b HB.out _).mono ?_; rintro e w1 ⟨rfl, hb⟩; have t1 := Tr.later (W0 := w) (by repeat (first | with_reducible assumption | with_reducible apply Tr.alloc | with_reducible apply Tr.drew | with_reducible apply Tr.drewN | with_reducible apply Tr.ext | with_reducible apply Tr.other)) hb; have r1 := t1.rules; simp only [Rules, World.size_alloc, World.size_drew, World.size_setCell] at r1; clear hb))
  go_ret2
  exact ⟨rfl, Tr.below (W0 := w) (by repeat (first | with_reducible assumption | with_reducible apply Tr.alloc | with_reducible apply Tr.drew | with_reducible apply Tr.drewN | with_reducible apply Tr.ext | with_reducible apply Tr.other))⟩
set_option maxHeartbeats 1000000 in
theorem why16 (a b : ByteArray) (ha : a.size ≤ maxLen) (hb : b.size ≤ maxLen) (a1 : a.toList.isEmpty = false) (a2 : keyB a.data.toList = false) (b1 : b.toList.isEmpty = false) (b2 : keyB b.data.toList = true) (w : World) : Calls Try.prog 10 #[.string a, .string b] w fun e w' => e = .returned (.int .i64 131) ∧ Below w.heap.size w w' := by
  have t0 := Tr.nil w
  have HA := Lib.hid ha
  have HB := Lib.hid hb
  clear ha hb
  have an : ¬ a.toList = [] := by simpa using a1
  have am : (!a.toList.isEmpty) = true := by rw [a1]; rfl
  have bn : ¬ b.toList = [] := by simpa using b1
  have bm : (!b.toList.isEmpty) = true := by rw [b1]; rfl
  go_enter Try.func10, Try.ntmps10
  go_wp2_with (first | (go_at_call 8; with_reducible refine (key_any a HA.out _).mono ?_; rintro e w1 ⟨rfl, hb⟩; have t1 := Tr.later (W0 := w) (by repeat (first | with_reducible assumption | with_reducible apply Tr.alloc | with_reducible apply Tr.drew | with_reducible apply Tr.drewN | with_reducible apply Tr.ext | with_reducible apply Tr.other)) hb; have r1 := t1.rules; simp only [Rules, World.size_alloc, World.size_drew, World.size_setCell] at r1; clear hb) | (go_at_call 8; with_reducible refine (key_any b HB.out _).mono ?_; rintro e w1 ⟨rfl, hb⟩; have t1 := Tr.later (W0 := w) (by repeat (first | with_reducible assumption | with_reducible apply Tr.alloc | with_reducible apply Tr.drew | with_reducible apply Tr.drewN | with_reducible apply Tr.ext | with_reducible apply Tr.other)) hb; have r1 := t1.rules; simp only [Rules, World.size_alloc, World.size_drew, World.size_setCell] at r1; clear hb))
  go_ret
  exact ⟨rfl, Tr.below (W0 := w) (by repeat (first | with_reducible assumption | with_reducible apply Tr.alloc | with_reducible apply Tr.drew | with_reducible apply Tr.drewN | with_reducible apply Tr.ext | with_reducible apply Tr.other))⟩
set_option maxHeartbeats 1000000 in
theorem bet16 (a b : ByteArray) (ha : a.size ≤ maxLen) (hb : b.size ≤ maxLen) (a1 : a.toList.isEmpty = false) (a2 : keyB a.data.toList = false) (b1 : b.toList.isEmpty = false) (b2 : keyB b.data.toList = true) (w : World) : Calls Try.prog 9 #[.string a, .string b] w fun e w' => e = .returned (.tuple #[.string ⟨#[]⟩, .int .i64 131]) ∧ Below w.heap.size w w' := by
  have t0 := Tr.nil w
  have HA := Lib.hid ha
  have HB := Lib.hid hb
  clear ha hb
  have an : ¬ a.toList = [] := by simpa using a1
  have am : (!a.toList.isEmpty) = true := by rw [a1]; rfl
  have bn : ¬ b.toList = [] := by simpa using b1
  have bm : (!b.toList.isEmpty) = true := by rw [b1]; rfl
  go_enter Try.func9, Try.ntmps9
  go_wp2_with (first | (go_at_call 7; with_reducible refine (right_any a HA.out _).mono ?_; rintro e w1 ⟨rfl, hb⟩; have t1 := Tr.later (W0 := w) (by repeat (first | with_reducible assumption | with_reducible apply Tr.alloc | with_reducible apply Tr.drew | with_reducible apply Tr.drewN | with_reducible apply Tr.ext | with_reducible apply Tr.other)) hb; have r1 := t1.rules; simp only [Rules, World.size_alloc, World.size_drew, World.size_setCell] at r1; clear hb) | (go_at_call 7; with_reducible refine (right_any b HB.out _).mono ?_; rintro e w1 ⟨rfl, hb⟩; have t1 := Tr.later (W0 := w) (by repeat (first | with_reducible assumption | with_reducible apply Tr.alloc | with_reducible apply Tr.drew | with_reducible apply Tr.drewN | with_reducible apply Tr.ext | with_reducible apply Tr.other)) hb; have r1 := t1.rules; simp only [Rules, World.size_alloc, World.size_drew, World.size_setCell] at r1; clear hb))
  go_ret2
  exact ⟨rfl, Tr.below (W0 := w) (by repeat (first | with_reducible assumption | with_reducible apply Tr.alloc | with_reducible apply Tr.drew | with_reducible apply Tr.drewN | with_reducible apply Tr.ext | with_reducible apply Tr.other))⟩
set_option maxHeartbeats 1000000 in
theorem why17 (a b : ByteArray) (ha : a.size ≤ maxLen) (hb : b.size ≤ maxLen) (a1 : a.toList.isEmpty = false) (a2 : keyB a.data.toList = false) (b1 : b.toList.isEmpty = false) (b2 : keyB b.data.toList = false) (w : World) : Calls Try.prog 10 #[.string a, .string b] w fun e w' => e = .returned (.int .i64 131) ∧ Below w.heap.size w w' := by
  have t0 := Tr.nil w
  have HA := Lib.hid ha
  have HB := Lib.hid hb
  clear ha hb
  have an : ¬ a.toList = [] := by simpa using a1
  have am : (!a.toList.isEmpty) = true := by rw [a1]; rfl
  have bn : ¬ b.toList = [] := by simpa using b1
  have bm : (!b.toList.isEmpty) = true := by rw [b1]; rfl
  go_enter Try.func10, Try.ntmps10
  go_wp2_with (first | (go_at_call 8; with_reducible refine (key_any a HA.out _).mono ?_; rintro e w1 ⟨rfl, hb⟩; have t1 := Tr.later (W0 := w) (by repeat (first | with_reducible assumption | with_reducible apply Tr.alloc | with_reducible apply Tr.drew | with_reducible apply Tr.drewN | with_reducible apply Tr.ext | with_reducible apply Tr.other)) hb; have r1 := t1.rules; simp only [Rules, World.size_alloc, World.size_drew, World.size_setCell] at r1; clear hb) | (go_at_call 8; with_reducible refine (key_any b HB.out _).mono ?_; rintro e w1 ⟨rfl, hb⟩; have t1 := Tr.later (W0 := w) (by repeat (first | with_reducible assumption | with_reducible apply Tr.alloc | with_reducible apply Tr.drew | with_reducible apply Tr.drewN | with_reducible apply Tr.ext | with_reducible apply Tr.other)) hb; have r1 := t1.rules; simp only [Rules, World.size_alloc, World.size_drew, World.size_setCell] at r1; clear hb))
  go_ret
  exact ⟨rfl, Tr.below (W0 := w) (by repeat (first | with_reducible assumption | with_reducible apply Tr.alloc | with_reducible apply Tr.drew | with_reducible apply Tr.drewN | with_reducible apply Tr.ext | with_reducible apply Tr.other))⟩
set_option maxHeartbeats 1000000 in
theorem bet17 (a b : ByteArray) (ha : a.size ≤ maxLen) (hb : b.size ≤ maxLen) (a1 : a.toList.isEmpty = false) (a2 : keyB a.data.toList = false) (b1 : b.toList.isEmpty = false) (b2 : keyB b.data.toList = false) (w : World) : Calls Try.prog 9 #[.string a, .string b] w fun e w' => e = .returned (.tuple #[.string ⟨#[]⟩, .int .i64 131]) ∧ Below w.heap.size w w' := by
  have t0 := Tr.nil w
  have HA := Lib.hid ha
  have HB := Lib.hid hb
  clear ha hb
  have an : ¬ a.toList = [] := by simpa using a1
  have am : (!a.toList.isEmpty) = true := by rw [a1]; rfl
  have bn : ¬ b.toList = [] := by simpa using b1
  have bm : (!b.toList.isEmpty) = true := by rw [b1]; rfl
  go_enter Try.func9, Try.ntmps9
  go_wp2_with (first | (go_at_call 7; with_reducible refine (right_any a HA.out _).mono ?_; rintro e w1 ⟨rfl, hb⟩; have t1 := Tr.later (W0 := w) (by repeat (first | with_reducible assumption | with_reducible apply Tr.alloc | with_reducible apply Tr.drew | with_reducible apply Tr.drewN | with_reducible apply Tr.ext | with_reducible apply Tr.other)) hb; have r1 := t1.rules; simp only [Rules, World.size_alloc, World.size_drew, World.size_setCell] at r1; clear hb) | (go_at_call 7; with_reducible refine (right_any b HB.out _).mono ?_; rintro e w1 ⟨rfl, hb⟩; have t1 := Tr.later (W0 := w) (by repeat (first | with_reducible assumption | with_reducible apply Tr.alloc | with_reducible apply Tr.drew | with_reducible apply Tr.drewN | with_reducible apply Tr.ext | with_reducible apply Tr.other)) hb; have r1 := t1.rules; simp only [Rules, World.size_alloc, World.size_drew, World.size_setCell] at r1; clear hb))
  go_ret2
  exact ⟨rfl, Tr.below (W0 := w) (by repeat (first | with_reducible assumption | with_reducible apply Tr.alloc | with_reducible apply Tr.drew | with_reducible apply Tr.drewN | with_reducible apply Tr.ext | with_reducible apply Tr.other))⟩
end Go.Proofs.Ytdhhjojfakkjoaa
