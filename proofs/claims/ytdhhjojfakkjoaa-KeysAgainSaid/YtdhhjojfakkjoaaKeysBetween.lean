/- THERE IS ALWAYS ROOM: between any two keys, ahead of one, behind one, there is a key: proved for every two texts; no condition. -/
import Derived.Test.YtdhhjojfakkjoaaKBetween
import Derived.Test.YtdhhjojfakkjoaaKGood
import Derived.Test.YtdhhjojfakkjoaaKeysRight
import Derived.ProofKit
import Derived.OpenShut
import Derived.ShutString
import Derived.ChangeOld
import Derived.Below
namespace Go.Proofs.Ytdhhjojfakkjoaa
open Go.ChangeShapes Go.WideShapes Go.ChangeAt Go.RowKit
open Go.ChangeMaps (open_string shut_string)
set_option linter.unusedVariables false
set_option linter.unusedSimpArgs false

open Go.Joins
theorem str_eta (l : List UInt8) : (⟨l.toArray⟩ : ByteArray).data.toList = l := rfl
theorem str_toList (l : List UInt8) : (⟨l.toArray⟩ : ByteArray).toList = l := by rw [ByteArray.toList_eq]
theorem str_size (l : List UInt8) : (⟨l.toArray⟩ : ByteArray).size = l.length := by simp [ByteArray.size]
set_option maxHeartbeats 1000000 in
theorem stands_yes (a k b : ByteArray) (ha : a.size ≤ 63) (hk : k.size ≤ 64) (hb : b.size ≤ 63) (k1 : keyB k.data.toList = true) (k2 : Op.bytesLess a.toList k.toList = true) (k3 : b.size = 0 ∨ Op.bytesLess k.toList b.toList = true) (k4 : k.size ≤ max a.size b.size + 1) (w : World) :
    Calls Try.prog 11 #[.string a, .string k, .string b] w fun e w' => e = .returned (.bool true) ∧ Below w.heap.size w w' := by
  have t0 := Tr.nil w
  have hk' : k.size ≤ maxLen := by unfold maxLen; omega
  have HK := Lib.hid hk'
  clear hk'
  by_cases hb0 : b.size = 0
  · have bn : b.toList = [] := (toList_nil b).2 hb0
    have b1 : b.toList.isEmpty = true := by rw [bn]; rfl
    have n4 : k.size ≤ a.size + 1 := by rw [hb0] at k4; simpa using k4
    have n5 : b.size ≤ a.size := by omega
    clear hb0 k3 k4
    go_enter Try.func11, Try.ntmps11
    go_wp2_with (go_at_call 8; with_reducible refine (key_any k HK.out _).mono ?_; rintro e w1 ⟨rfl, hb⟩; have t1 := Tr.later (W0 := w) (by repeat (first | with_reducible assumption | with_reducible apply Tr.alloc | with_reducible apply Tr.drew | with_reducible apply Tr.drewN | with_reducible apply Tr.ext | with_reducible apply Tr.other)) hb; have r1 := t1.rules; simp only [Rules, World.size_alloc, World.size_drew, World.size_setCell] at r1; clear hb)
    go_ret
    exact ⟨by first | rfl | (simp; done) | (simp; omega), Tr.below (W0 := w) (by repeat (first | with_reducible assumption | with_reducible apply Tr.alloc | with_reducible apply Tr.drew | with_reducible apply Tr.drewN | with_reducible apply Tr.ext | with_reducible apply Tr.other))⟩
  · have k3' := k3.resolve_left hb0
    have bn : ¬ b.toList = [] := fun h => hb0 ((toList_nil b).1 h)
    have b1 : b.toList.isEmpty = false := by simpa using bn
    clear k3 hb0
    by_cases hc : a.size < b.size
    · have n4 : k.size ≤ b.size + 1 := by rw [Nat.max_eq_right (by omega)] at k4; exact k4
      clear k4
      go_enter Try.func11, Try.ntmps11
      go_wp2_with (go_at_call 8; with_reducible refine (key_any k HK.out _).mono ?_; rintro e w1 ⟨rfl, hb⟩; have t1 := Tr.later (W0 := w) (by repeat (first | with_reducible assumption | with_reducible apply Tr.alloc | with_reducible apply Tr.drew | with_reducible apply Tr.drewN | with_reducible apply Tr.ext | with_reducible apply Tr.other)) hb; have r1 := t1.rules; simp only [Rules, World.size_alloc, World.size_drew, World.size_setCell] at r1; clear hb)
      go_ret
      exact ⟨by first | rfl | (simp; done) | (simp; omega), Tr.below (W0 := w) (by repeat (first | with_reducible assumption | with_reducible apply Tr.alloc | with_reducible apply Tr.drew | with_reducible apply Tr.drewN | with_reducible apply Tr.ext | with_reducible apply Tr.other))⟩
    · have n4 : k.size ≤ a.size + 1 := by rw [Nat.max_eq_left (by omega)] at k4; exact k4
      clear k4
      go_enter Try.func11, Try.ntmps11
      go_wp2_with (go_at_call 8; with_reducible refine (key_any k HK.out _).mono ?_; rintro e w1 ⟨rfl, hb⟩; have t1 := Tr.later (W0 := w) (by repeat (first | with_reducible assumption | with_reducible apply Tr.alloc | with_reducible apply Tr.drew | with_reducible apply Tr.drewN | with_reducible apply Tr.ext | with_reducible apply Tr.other)) hb; have r1 := t1.rules; simp only [Rules, World.size_alloc, World.size_drew, World.size_setCell] at r1; clear hb)
      go_ret
      exact ⟨by first | rfl | (simp; done) | (simp; omega), Tr.below (W0 := w) (by repeat (first | with_reducible assumption | with_reducible apply Tr.alloc | with_reducible apply Tr.drew | with_reducible apply Tr.drewN | with_reducible apply Tr.ext | with_reducible apply Tr.other))⟩
def Law (a b : ByteArray) (w : World) : Prop := Calls Try.prog 4 #[.string a, .string b] w fun e w' => e = .returned (.bool true) ∧ Below w.heap.size w w'
theorem err131 (a b : ByteArray) (hB : ∀ w, Calls Try.prog 9 #[.string a, .string b] w fun e w' => e = .returned (.tuple #[.string ⟨#[]⟩, .int .i64 131]) ∧ Below w.heap.size w w')
    (hW : ∀ w, Calls Try.prog 10 #[.string a, .string b] w fun e w' => e = .returned (.int .i64 131) ∧ Below w.heap.size w w') (w : World) : Law a b w := by
  have t0 := Tr.nil w
  have HB := Lib.hid hB
  have HW := Lib.hid hW
  clear hB hW
  unfold Law
  go_enter Try.func4, Try.ntmps4
  go_wp2_with (first | (go_at_call 9; with_reducible refine (HB.out _).mono ?_; rintro e w1 ⟨rfl, hb⟩; have t1 := Tr.later (W0 := w) (by repeat (first | with_reducible assumption | with_reducible apply Tr.alloc | with_reducible apply Tr.drew | with_reducible apply Tr.drewN | with_reducible apply Tr.ext | with_reducible apply Tr.other)) hb; have r1 := t1.rules; simp only [Rules, World.size_alloc, World.size_drew, World.size_setCell] at r1; clear hb) | (go_at_call 10; with_reducible refine (HW.out _).mono ?_; rintro e w1 ⟨rfl, hb⟩; have t1 := Tr.later (W0 := w) (by repeat (first | with_reducible assumption | with_reducible apply Tr.alloc | with_reducible apply Tr.drew | with_reducible apply Tr.drewN | with_reducible apply Tr.ext | with_reducible apply Tr.other)) hb; have r1 := t1.rules; simp only [Rules, World.size_alloc, World.size_drew, World.size_setCell] at r1; clear hb) | (go_at_call 6; with_reducible refine (alive_any _).mono ?_; rintro e w1 ⟨rfl, hb⟩; have t1 := Tr.later (W0 := w) (by repeat (first | with_reducible assumption | with_reducible apply Tr.alloc | with_reducible apply Tr.drew | with_reducible apply Tr.drewN | with_reducible apply Tr.ext | with_reducible apply Tr.other)) hb; have r1 := t1.rules; simp only [Rules, World.size_alloc, World.size_drew, World.size_setCell] at r1; clear hb))
  go_ret
  exact ⟨rfl, Tr.below (W0 := w) (by repeat (first | with_reducible assumption | with_reducible apply Tr.alloc | with_reducible apply Tr.drew | with_reducible apply Tr.drewN | with_reducible apply Tr.ext | with_reducible apply Tr.other))⟩
theorem err132 (a b : ByteArray) (hB : ∀ w, Calls Try.prog 9 #[.string a, .string b] w fun e w' => e = .returned (.tuple #[.string ⟨#[]⟩, .int .i64 132]) ∧ Below w.heap.size w w')
    (hW : ∀ w, Calls Try.prog 10 #[.string a, .string b] w fun e w' => e = .returned (.int .i64 132) ∧ Below w.heap.size w w') (w : World) : Law a b w := by
  have t0 := Tr.nil w
  have HB := Lib.hid hB
  have HW := Lib.hid hW
  clear hB hW
  unfold Law
  go_enter Try.func4, Try.ntmps4
  go_wp2_with (first | (go_at_call 9; with_reducible refine (HB.out _).mono ?_; rintro e w1 ⟨rfl, hb⟩; have t1 := Tr.later (W0 := w) (by repeat (first | with_reducible assumption | with_reducible apply Tr.alloc | with_reducible apply Tr.drew | with_reducible apply Tr.drewN | with_reducible apply Tr.ext | with_reducible apply Tr.other)) hb; have r1 := t1.rules; simp only [Rules, World.size_alloc, World.size_drew, World.size_setCell] at r1; clear hb) | (go_at_call 10; with_reducible refine (HW.out _).mono ?_; rintro e w1 ⟨rfl, hb⟩; have t1 := Tr.later (W0 := w) (by repeat (first | with_reducible assumption | with_reducible apply Tr.alloc | with_reducible apply Tr.drew | with_reducible apply Tr.drewN | with_reducible apply Tr.ext | with_reducible apply Tr.other)) hb; have r1 := t1.rules; simp only [Rules, World.size_alloc, World.size_drew, World.size_setCell] at r1; clear hb) | (go_at_call 6; with_reducible refine (alive_any _).mono ?_; rintro e w1 ⟨rfl, hb⟩; have t1 := Tr.later (W0 := w) (by repeat (first | with_reducible assumption | with_reducible apply Tr.alloc | with_reducible apply Tr.drew | with_reducible apply Tr.drewN | with_reducible apply Tr.ext | with_reducible apply Tr.other)) hb; have r1 := t1.rules; simp only [Rules, World.size_alloc, World.size_drew, World.size_setCell] at r1; clear hb))
  go_ret
  exact ⟨rfl, Tr.below (W0 := w) (by repeat (first | with_reducible assumption | with_reducible apply Tr.alloc | with_reducible apply Tr.drew | with_reducible apply Tr.drewN | with_reducible apply Tr.ext | with_reducible apply Tr.other))⟩
theorem err133 (a b : ByteArray) (hB : ∀ w, Calls Try.prog 9 #[.string a, .string b] w fun e w' => e = .returned (.tuple #[.string ⟨#[]⟩, .int .i64 133]) ∧ Below w.heap.size w w')
    (hW : ∀ w, Calls Try.prog 10 #[.string a, .string b] w fun e w' => e = .returned (.int .i64 133) ∧ Below w.heap.size w w') (w : World) : Law a b w := by
  have t0 := Tr.nil w
  have HB := Lib.hid hB
  have HW := Lib.hid hW
  clear hB hW
  unfold Law
  go_enter Try.func4, Try.ntmps4
  go_wp2_with (first | (go_at_call 9; with_reducible refine (HB.out _).mono ?_; rintro e w1 ⟨rfl, hb⟩; have t1 := Tr.later (W0 := w) (by repeat (first | with_reducible assumption | with_reducible apply Tr.alloc | with_reducible apply Tr.drew | with_reducible apply Tr.drewN | with_reducible apply Tr.ext | with_reducible apply Tr.other)) hb; have r1 := t1.rules; simp only [Rules, World.size_alloc, World.size_drew, World.size_setCell] at r1; clear hb) | (go_at_call 10; with_reducible refine (HW.out _).mono ?_; rintro e w1 ⟨rfl, hb⟩; have t1 := Tr.later (W0 := w) (by repeat (first | with_reducible assumption | with_reducible apply Tr.alloc | with_reducible apply Tr.drew | with_reducible apply Tr.drewN | with_reducible apply Tr.ext | with_reducible apply Tr.other)) hb; have r1 := t1.rules; simp only [Rules, World.size_alloc, World.size_drew, World.size_setCell] at r1; clear hb) | (go_at_call 6; with_reducible refine (alive_any _).mono ?_; rintro e w1 ⟨rfl, hb⟩; have t1 := Tr.later (W0 := w) (by repeat (first | with_reducible assumption | with_reducible apply Tr.alloc | with_reducible apply Tr.drew | with_reducible apply Tr.drewN | with_reducible apply Tr.ext | with_reducible apply Tr.other)) hb; have r1 := t1.rules; simp only [Rules, World.size_alloc, World.size_drew, World.size_setCell] at r1; clear hb))
  go_ret
  exact ⟨rfl, Tr.below (W0 := w) (by repeat (first | with_reducible assumption | with_reducible apply Tr.alloc | with_reducible apply Tr.drew | with_reducible apply Tr.drewN | with_reducible apply Tr.ext | with_reducible apply Tr.other))⟩
theorem okay (a b r : ByteArray) (hB : ∀ w, Calls Try.prog 9 #[.string a, .string b] w fun e w' => e = .returned (.tuple #[.string r, .int .i64 0]) ∧ Below w.heap.size w w')
    (hW : ∀ w, Calls Try.prog 10 #[.string a, .string b] w fun e w' => e = .returned (.int .i64 0) ∧ Below w.heap.size w w')
    (hS : ∀ w, Calls Try.prog 11 #[.string a, .string r, .string b] w fun e w' => e = .returned (.bool true) ∧ Below w.heap.size w w') (w : World) : Law a b w := by
  have t0 := Tr.nil w
  have HB := Lib.hid hB
  have HW := Lib.hid hW
  have HS := Lib.hid hS
  clear hB hW hS
  unfold Law
  go_enter Try.func4, Try.ntmps4
  go_wp2_with (first | (go_at_call 9; with_reducible refine (HB.out _).mono ?_; rintro e w1 ⟨rfl, hb⟩; have t1 := Tr.later (W0 := w) (by repeat (first | with_reducible assumption | with_reducible apply Tr.alloc | with_reducible apply Tr.drew | with_reducible apply Tr.drewN | with_reducible apply Tr.ext | with_reducible apply Tr.other)) hb; have r1 := t1.rules; simp only [Rules, World.size_alloc, World.size_drew, World.size_setCell] at r1; clear hb) | (go_at_call 10; with_reducible refine (HW.out _).mono ?_; rintro e w1 ⟨rfl, hb⟩; have t1 := Tr.later (W0 := w) (by repeat (first | with_reducible assumption | with_reducible apply Tr.alloc | with_reducible apply Tr.drew | with_reducible apply Tr.drewN | with_reducible apply Tr.ext | with_reducible apply Tr.other)) hb; have r1 := t1.rules; simp only [Rules, World.size_alloc, World.size_drew, World.size_setCell] at r1; clear hb) | (go_at_call 6; with_reducible refine (alive_any _).mono ?_; rintro e w1 ⟨rfl, hb⟩; have t1 := Tr.later (W0 := w) (by repeat (first | with_reducible assumption | with_reducible apply Tr.alloc | with_reducible apply Tr.drew | with_reducible apply Tr.drewN | with_reducible apply Tr.ext | with_reducible apply Tr.other)) hb; have r1 := t1.rules; simp only [Rules, World.size_alloc, World.size_drew, World.size_setCell] at r1; clear hb) | (go_at_call 11; with_reducible refine (HS.out _).mono ?_; rintro e w1 ⟨rfl, hb⟩; have t1 := Tr.later (W0 := w) (by repeat (first | with_reducible assumption | with_reducible apply Tr.alloc | with_reducible apply Tr.drew | with_reducible apply Tr.drewN | with_reducible apply Tr.ext | with_reducible apply Tr.other)) hb; have r1 := t1.rules; simp only [Rules, World.size_alloc, World.size_drew, World.size_setCell] at r1; clear hb))
  go_ret
  exact ⟨rfl, Tr.below (W0 := w) (by repeat (first | with_reducible assumption | with_reducible apply Tr.alloc | with_reducible apply Tr.drew | with_reducible apply Tr.drewN | with_reducible apply Tr.ext | with_reducible apply Tr.other))⟩
/-- the middle of two that may be, as contracts want it -/
theorem mid_of (a b : ByteArray) (ga : a.size = 0 ∨ keyB a.data.toList = true) (gb : b.size = 0 ∨ keyB b.data.toList = true)
    (hl : a.size ≠ 0 → b.size ≠ 0 → Op.bytesLess a.toList b.toList = true) (ya : ¬ a.size = 64) (yb : ¬ b.size = 64) :
    (∀ w, Calls Try.prog 14 #[.string a, .string b] w fun e w' => e = .returned (.string ⟨((total a b).map chr).toArray⟩) ∧ Below w.heap.size w w') ∧
    (∀ w, Calls Try.prog 11 #[.string a, .string ⟨((total a b).map chr).toArray⟩, .string b] w fun e w' => e = .returned (.bool true) ∧ Below w.heap.size w w') := by
  obtain ⟨s1, s2, f1, f2, hk, hl, hg⟩ := good_of a b ga gb hl ya yb
  refine ⟨fun w => middle_any a b (by omega) (by omega) f1 f2 hk (by omega) w, fun w => stands_yes _ _ _ s1 (by rw [str_size]; simpa using hl) s2 (by rw [str_eta]; exact hg.key) (by rw [str_toList ((total a b).map chr)]; exact hg.above) (by rw [str_toList ((total a b).map chr)]; exact hg.under) (by rw [str_size]; exact hg.short) w⟩
theorem size_of_isEmpty {a : ByteArray} (h : a.toList.isEmpty = true) : a.size = 0 := (toList_nil a).1 (by simpa using h)
theorem keysBetween_walk (a b : ByteArray) (ha : a.size ≤ maxLen) (hb : b.size ≤ maxLen) (w : World) : Law a b w := by
  by_cases y : a.size = 64
  all_goals by_cases z : b.size = 64
  all_goals cases a1 : a.toList.isEmpty <;> cases a2 : keyB a.data.toList <;> cases b1 : b.toList.isEmpty <;> cases b2 : keyB b.data.toList <;> cases l1 : Op.bytesLess a.toList b.toList
  all_goals first
    | (exfalso; have := empty_no a a1; rw [a2] at this; cases this; done)
    | (exfalso; have := empty_no b b1; rw [b2] at this; cases this; done)
    | exact err131 a b (fun w => bet6 a b ha hb a1 a2 b1 b2 w) (fun w => why6 a b ha hb a1 a2 b1 b2 w) w
    | exact err131 a b (fun w => bet14 a b ha hb a1 a2 b1 b2 w) (fun w => why14 a b ha hb a1 a2 b1 b2 w) w
    | exact err131 a b (fun w => bet15 a b ha hb a1 a2 b1 b2 w) (fun w => why15 a b ha hb a1 a2 b1 b2 w) w
    | exact err131 a b (fun w => bet16 a b ha hb a1 a2 b1 b2 w) (fun w => why16 a b ha hb a1 a2 b1 b2 w) w
    | exact err131 a b (fun w => bet17 a b ha hb a1 a2 b1 b2 w) (fun w => why17 a b ha hb a1 a2 b1 b2 w) w
    | exact err132 a b (fun w => bet10 a b ha hb a1 a2 b1 b2 l1 w) (fun w => why10 a b ha hb a1 a2 b1 b2 l1 w) w
    | exact err133 a b (fun w => bet0 a b ha hb a1 a2 b1 b2 y w) (fun w => why0 a b ha hb a1 a2 b1 b2 y w) w
    | exact err133 a b (fun w => bet1 a b ha hb a1 a2 b1 b2 y z w) (fun w => why1 a b ha hb a1 a2 b1 b2 y z w) w
    | exact err133 a b (fun w => bet3 a b ha hb a1 a2 b1 b2 y w) (fun w => why3 a b ha hb a1 a2 b1 b2 y w) w
    | exact err133 a b (fun w => bet4 a b ha hb a1 a2 b1 b2 y z w) (fun w => why4 a b ha hb a1 a2 b1 b2 y z w) w
    | exact err133 a b (fun w => bet7 a b ha hb a1 a2 b1 b2 y w) (fun w => why7 a b ha hb a1 a2 b1 b2 y w) w
    | exact err133 a b (fun w => bet8 a b ha hb a1 a2 b1 b2 y z w) (fun w => why8 a b ha hb a1 a2 b1 b2 y z w) w
    | exact err133 a b (fun w => bet11 a b ha hb a1 a2 b1 b2 l1 y w) (fun w => why11 a b ha hb a1 a2 b1 b2 l1 y w) w
    | exact err133 a b (fun w => bet12 a b ha hb a1 a2 b1 b2 l1 y z w) (fun w => why12 a b ha hb a1 a2 b1 b2 l1 y z w) w
    | (obtain ⟨m1, m2⟩ := mid_of a b (Or.inl (size_of_isEmpty a1)) (Or.inl (size_of_isEmpty b1)) (fun h => absurd (size_of_isEmpty a1) h) y z; exact okay a b _ (fun w => bet2 a b ha hb _ m1 a1 a2 b1 b2 y z w) (fun w => why2 a b ha hb a1 a2 b1 b2 y z w) m2 w)
    | (obtain ⟨m1, m2⟩ := mid_of a b (Or.inl (size_of_isEmpty a1)) (Or.inr b2) (fun h => absurd (size_of_isEmpty a1) h) y z; exact okay a b _ (fun w => bet5 a b ha hb _ m1 a1 a2 b1 b2 y z w) (fun w => why5 a b ha hb a1 a2 b1 b2 y z w) m2 w)
    | (obtain ⟨m1, m2⟩ := mid_of a b (Or.inr a2) (Or.inl (size_of_isEmpty b1)) (fun _ h => absurd (size_of_isEmpty b1) h) y z; exact okay a b _ (fun w => bet9 a b ha hb _ m1 a1 a2 b1 b2 y z w) (fun w => why9 a b ha hb a1 a2 b1 b2 y z w) m2 w)
    | (obtain ⟨m1, m2⟩ := mid_of a b (Or.inr a2) (Or.inr b2) (fun _ _ => l1) y z; exact okay a b _ (fun w => bet13 a b ha hb _ m1 a1 a2 b1 b2 l1 y z w) (fun w => why13 a b ha hb a1 a2 b1 b2 l1 y z w) m2 w)

set_option maxRecDepth 100000 in
theorem keysBetween_lifted (os : Os) (started : os.Started) (H : Type) (enc : TypeId × Value → H) :
    ReturnsInHanded {} Try.checked os 4 .any (Rows.keysBetweenSpec.pre6 enc Try.prog Try.f4 Rows.keysBetweenRow.domain false) (Rows.keysBetweenSpec.post enc Try.prog Try.f4 false true false false) := by
  refine returnsInHanded_of_change (C := Try.checked) own started (by kernel_rfl) Try.func4
    (ChangeSpec.witness6 (enc := enc) (C := Try.checked) false ⟨#[], #[.string ⟨#[]⟩, .string ⟨#[]⟩], []⟩ 8 (by kernel_rfl) (by kernel_rfl) (by kernel_rfl) (by kernel_rfl)) ?_
  intro W base args ds gs before hval0 hW hcnd _
  have hval : ∀ (j : Nat) t v, Try.f4.params[j]? = some t → args[j]? = some v → Value.okWide Try.prog W .any base t v := hval0
  have hW' := hW
  obtain ⟨p, q, hA0, hV, rfl, hfz, hnd⟩ := hW
  have hA : DataW.TrodAll enc Try.prog W 0 (fun _ => true) true Try.f4.params.toList args.toList ds p := hA0
  rw [Try.params4] at hA hval
  obtain ⟨v0, vs0, d0, ds0, p0, q0, hargs, rfl, rfl, h0, r0⟩ := trodAll_cons hA
  obtain ⟨v1, vs1, d1, ds1, p1, q1, rfl, rfl, rfl, h1, r1⟩ := trodAll_cons r0
  obtain ⟨rfl, rfl, rfl⟩ := trodAll_nil r1
  obtain rfl : args = #[v0, v1] := by cases args; simp_all
  obtain ⟨rfl, rfl⟩ := trodVars_none hV
  have lt0 : ∀ x ∈ p0, x.block < W.heap.size := by obtain ⟨m, hm⟩ := h0; exact DataW.trod_lt m _ _ _ hm
  have lt1 : ∀ x ∈ p1, x.block < W.heap.size := by obtain ⟨m, hm⟩ := h1; exact DataW.trod_lt m _ _ _ hm
  obtain ⟨s0, rfl, rfl, rfl, hs0⟩ := open_string Try.underlying9 (hval 0 9 v0 rfl rfl) h0
  obtain ⟨s1, rfl, rfl, rfl, hs1⟩ := open_string Try.underlying9 (hval 1 9 v1 rfl rfl) h1
  clear hA0 hval0
  refine (keysBetween_walk s0 s1 hs0 hs1 W).mono fun e W' ⟨he, bel⟩ => ?_
  subst he
  exact ⟨_, rfl, _, _, _, [], _, [], hW', trodAll_mk1 (shut_bool Try.underlying4 _), (trodAll_cons_mk (Below.trod laidOut (by kernel_rfl) (of_decide_eq_true (by kernel_rfl)) h0 bel lt0) (trodAll_cons_mk (Below.trod laidOut (by kernel_rfl) (of_decide_eq_true (by kernel_rfl)) h1 bel lt1) trodAll_mk0)), rfl, bel.frame _, fun h => by cases h⟩

theorem keysBetween_holds : Rows.KeysBetweenSaid :=
  OpenClaim.holds_of_wide 4 Try.f4 rfl rfl rfl rfl rfl rfl rfl ⟨rfl, rfl, rfl, rfl, rfl⟩ rfl rfl rfl rfl rfl (by kernel_rfl) Try.func4 (by kernel_rfl)
    (of_decide_eq_true (by kernel_rfl)) (by unfold Func.isWrapper; first | (rw [if_pos (by decide +kernel)]; kernel_rfl) | (rw [if_neg (by decide +kernel)]; exact ⟨rfl, rfl⟩))
    (fun os started H enc _ => keysBetween_lifted os started H enc)

end Go.Proofs.Ytdhhjojfakkjoaa
