/- VECTORS: plain laws. -/
import Derived.Test.YtplnpgmchibnlaaVec
namespace Go.Proofs.Ytplnpgmchibnlaa
theorem mx_eq (x y : Int) : mx x y = x ↔ y ≤ x := by unfold mx; split <;> omega
theorem beq_iff (a b : V8) : a.beq b = true ↔ a = b := by
  obtain ⟨a0, a1, a2, a3, a4, a5, a6, a7⟩ := a
  obtain ⟨b0, b1, b2, b3, b4, b5, b6, b7⟩ := b
  simp [V8.beq, V8.list]
theorem cov_iff (a b : V8) : a.cov b = true ↔ b.x0 ≤ a.x0 ∧ b.x1 ≤ a.x1 ∧ b.x2 ≤ a.x2 ∧ b.x3 ≤ a.x3 ∧ b.x4 ≤ a.x4 ∧ b.x5 ≤ a.x5 ∧ b.x6 ≤ a.x6 ∧ b.x7 ≤ a.x7 := by
  simp [V8.cov, V8.beq, V8.list, V8.join, mx_eq]
theorem cov_refl (a : V8) : a.cov a = true := by rw [cov_iff]; omega
theorem cov_anti (a b : V8) : (a.cov b && b.cov a) = a.beq b := by
  rw [Bool.eq_iff_iff, Bool.and_eq_true, cov_iff, cov_iff, beq_iff]
  constructor
  · intro h
    obtain ⟨a0, a1, a2, a3, a4, a5, a6, a7⟩ := a
    obtain ⟨b0, b1, b2, b3, b4, b5, b6, b7⟩ := b
    simp only [V8.mk.injEq]
    simp only at h
    omega
  · rintro rfl; omega
theorem anti_of {a b : V8} {x y : Bool} (h : a.cov b = x) (k : b.cov a = y) : a.beq b = (x && y) := by rw [← cov_anti, h, k]
theorem cov_trans (a b c : V8) (h : a.cov b = true) (k : b.cov c = true) : a.cov c = true := by
  rw [cov_iff] at *; omega
theorem cov_one : V8.cov ⟨0, 0, 0, 0, 0, 0, 0, 0⟩ ⟨1, 0, 0, 0, 0, 0, 0, 0⟩ = false := by decide
theorem mx_comm (x y : Int) : mx x y = mx y x := by unfold mx; split <;> split <;> omega
theorem mx_assoc (x y z : Int) : mx (mx x y) z = mx x (mx y z) := by unfold mx; repeat (first | split | omega)
theorem mx_self (x : Int) : mx x x = x := by unfold mx; simp
theorem mx_left (x y : Int) : x ≤ mx x y := by unfold mx; split <;> omega
theorem mx_right (x y : Int) : y ≤ mx x y := by unfold mx; split <;> omega
theorem mx_least (x y z : Int) (h : x ≤ z) (k : y ≤ z) : mx x y ≤ z := by unfold mx; split <;> omega
theorem mx_either (x y n : Int) : n ≤ mx x y ↔ n ≤ x ∨ n ≤ y := by unfold mx; split <;> omega
theorem join_comm (a b : V8) : a.join b = b.join a := by simp only [V8.join, V8.mk.injEq]; exact ⟨mx_comm _ _, mx_comm _ _, mx_comm _ _, mx_comm _ _, mx_comm _ _, mx_comm _ _, mx_comm _ _, mx_comm _ _⟩
theorem join_assoc (a b c : V8) : (a.join b).join c = a.join (b.join c) := by simp only [V8.join, V8.mk.injEq]; exact ⟨mx_assoc _ _ _, mx_assoc _ _ _, mx_assoc _ _ _, mx_assoc _ _ _, mx_assoc _ _ _, mx_assoc _ _ _, mx_assoc _ _ _, mx_assoc _ _ _⟩
theorem join_self (a : V8) : a.join a = a := by obtain ⟨a0, a1, a2, a3, a4, a5, a6, a7⟩ := a; simp [V8.join, mx_self]
theorem cov_join_left (a b : V8) : (a.join b).cov a = true := by
  rw [cov_iff]; exact ⟨mx_left _ _, mx_left _ _, mx_left _ _, mx_left _ _, mx_left _ _, mx_left _ _, mx_left _ _, mx_left _ _⟩
theorem cov_join_right (a b : V8) : (a.join b).cov b = true := by
  rw [cov_iff]; exact ⟨mx_right _ _, mx_right _ _, mx_right _ _, mx_right _ _, mx_right _ _, mx_right _ _, mx_right _ _, mx_right _ _⟩
theorem cov_join_least (a b c : V8) (h : c.cov a = true) (k : c.cov b = true) : c.cov (a.join b) = true := by
  rw [cov_iff] at *
  obtain ⟨h0, h1, h2, h3, h4, h5, h6, h7⟩ := h
  obtain ⟨k0, k1, k2, k3, k4, k5, k6, k7⟩ := k
  exact ⟨mx_least _ _ _ h0 k0, mx_least _ _ _ h1 k1, mx_least _ _ _ h2 k2, mx_least _ _ _ h3 k3, mx_least _ _ _ h4 k4, mx_least _ _ _ h5 k5, mx_least _ _ _ h6 k6, mx_least _ _ _ h7 k7⟩
theorem beq_eta (p q : V8) (h : p = q) : V8.beq ⟨p.x0, p.x1, p.x2, p.x3, p.x4, p.x5, p.x6, p.x7⟩ ⟨q.x0, q.x1, q.x2, q.x3, q.x4, q.x5, q.x6, q.x7⟩ = true := by
  subst h; exact (beq_iff _ _).2 rfl
theorem most_ge (a : V8) : a.x0 ≤ a.most ∧ a.x1 ≤ a.most ∧ a.x2 ≤ a.most ∧ a.x3 ≤ a.most ∧ a.x4 ≤ a.most ∧ a.x5 ≤ a.most ∧ a.x6 ≤ a.most ∧ a.x7 ≤ a.most := by
  simp only [V8.most]
  have h := fun x y => mx_left x y
  have k := fun x y => mx_right x y
  refine ⟨?_, ?_, ?_, ?_, ?_, ?_, ?_, ?_⟩ <;> (unfold mx; repeat (first | omega | split))
theorem most_least (a : V8) (n : Int) (h : a.x0 ≤ n ∧ a.x1 ≤ n ∧ a.x2 ≤ n ∧ a.x3 ≤ n ∧ a.x4 ≤ n ∧ a.x5 ≤ n ∧ a.x6 ≤ n ∧ a.x7 ≤ n) : a.most ≤ n := by
  simp only [V8.most]
  obtain ⟨h0, h1, h2, h3, h4, h5, h6, h7⟩ := h
  exact mx_least _ _ _ (mx_least _ _ _ (mx_least _ _ _ (mx_least _ _ _ (mx_least _ _ _ (mx_least _ _ _ (mx_least _ _ _ h0 h1) h2) h3) h4) h5) h6) h7
theorem most_join (a b : V8) : (a.join b).most = mx a.most b.most := by
  apply Int.le_antisymm
  · refine most_least _ _ ?_
    have ha := most_ge a
    have hb := most_ge b
    have m1 := mx_left a.most b.most
    have m2 := mx_right a.most b.most
    exact ⟨mx_least _ _ _ (by omega) (by omega), mx_least _ _ _ (by omega) (by omega), mx_least _ _ _ (by omega) (by omega), mx_least _ _ _ (by omega) (by omega), mx_least _ _ _ (by omega) (by omega), mx_least _ _ _ (by omega) (by omega), mx_least _ _ _ (by omega) (by omega), mx_least _ _ _ (by omega) (by omega)⟩
  · have hj := most_ge (a.join b)
    simp only [V8.join] at hj
    refine mx_least _ _ _ (most_least _ _ ?_) (most_least _ _ ?_)
    · have := mx_left
      refine ⟨Int.le_trans (mx_left _ b.x0) (by simpa only [V8.join] using hj.1), Int.le_trans (mx_left _ b.x1) (by simpa only [V8.join] using hj.2.1), Int.le_trans (mx_left _ b.x2) (by simpa only [V8.join] using hj.2.2.1), Int.le_trans (mx_left _ b.x3) (by simpa only [V8.join] using hj.2.2.2.1), Int.le_trans (mx_left _ b.x4) (by simpa only [V8.join] using hj.2.2.2.2.1), Int.le_trans (mx_left _ b.x5) (by simpa only [V8.join] using hj.2.2.2.2.2.1), Int.le_trans (mx_left _ b.x6) (by simpa only [V8.join] using hj.2.2.2.2.2.2.1), Int.le_trans (mx_left _ b.x7) (by simpa only [V8.join] using hj.2.2.2.2.2.2.2)⟩
    · refine ⟨Int.le_trans (mx_right a.x0 _) (by simpa only [V8.join] using hj.1), Int.le_trans (mx_right a.x1 _) (by simpa only [V8.join] using hj.2.1), Int.le_trans (mx_right a.x2 _) (by simpa only [V8.join] using hj.2.2.1), Int.le_trans (mx_right a.x3 _) (by simpa only [V8.join] using hj.2.2.2.1), Int.le_trans (mx_right a.x4 _) (by simpa only [V8.join] using hj.2.2.2.2.1), Int.le_trans (mx_right a.x5 _) (by simpa only [V8.join] using hj.2.2.2.2.2.1), Int.le_trans (mx_right a.x6 _) (by simpa only [V8.join] using hj.2.2.2.2.2.2.1), Int.le_trans (mx_right a.x7 _) (by simpa only [V8.join] using hj.2.2.2.2.2.2.2)⟩
theorem at_join (a b : V8) (r : Int) : (a.join b).at r = mx (a.at r) (b.at r) := by
  simp only [V8.at, V8.join]
  repeat (first | rfl | split)
theorem has_join (a b : V8) (n r : Int) : (a.join b).has n r = (a.has n r || b.has n r) := by
  simp only [V8.has, at_join, mx_either]
  cases knownB r <;> simp
theorem known_iff (r : Int) : knownB r = true ↔ 0 ≤ r ∧ r < 8 := by simp [knownB]
theorem known8 {r : Int} (h0 : 0 ≤ r) (h8 : r < 8) : r = 0 ∨ r = 1 ∨ r = 2 ∨ r = 3 ∨ r = 4 ∨ r = 5 ∨ r = 6 ∨ r = 7 := by omega
theorem at_with (a : V8) (n s r : Int) (h0 : 0 ≤ r) (h8 : r < 8) : (a.with n s).at r = if s = r then mx (a.at r) n else a.at r := by
  rcases known8 h0 h8 with rfl | rfl | rfl | rfl | rfl | rfl | rfl | rfl <;> simp [V8.at, V8.with]
theorem has_with (a : V8) (n s r : Int) (h0 : 0 ≤ r) (h8 : r < 8) : (a.with n s).has n r = (a.has n r || r == s) := by
  have hk : knownB r = true := (known_iff r).2 ⟨h0, h8⟩
  simp only [V8.has, at_with a n s r h0 h8, hk, Bool.true_and]
  by_cases h : s = r
  · subst h
    have := mx_right (a.at s) n
    simp [this]
  · have h' : (r == s) = false := by simp; omega
    simp [h, h']
theorem with_no (a : V8) (n r : Int) (h : ¬ (0 ≤ r ∧ r < 8)) : a.with n r = a := by
  obtain ⟨a0, a1, a2, a3, a4, a5, a6, a7⟩ := a
  simp only [V8.with, V8.mk.injEq]
  refine ⟨?_, ?_, ?_, ?_, ?_, ?_, ?_, ?_⟩ <;> (rw [if_neg]; omega)
theorem has_no (a : V8) (n r : Int) (h : ¬ (0 ≤ r ∧ r < 8)) : a.has n r = false := by
  have : knownB r = false := by rw [Bool.eq_false_iff]; exact fun k => h ((known_iff r).1 k)
  simp [V8.has, this]
theorem cov_with (a : V8) (n r : Int) : (a.with n r).cov a = true := by
  rw [cov_iff]
  refine ⟨?_, ?_, ?_, ?_, ?_, ?_, ?_, ?_⟩ <;> (simp only [V8.with]; split <;> first | exact mx_left _ _ | exact Int.le_refl _)
theorem has_with_self (a : V8) (n r : Int) : (a.with n r).has n r = knownB r := by
  by_cases h : 0 ≤ r ∧ r < 8
  · rw [has_with a n r r h.1 h.2, (known_iff r).2 h]; simp
  · rw [has_no _ _ _ h]
    exact ((Bool.eq_false_iff).2 (fun k => h ((known_iff r).1 k))).symm
theorem cov_with_least (a c : V8) (n r : Int) (h : c.cov a = true) (k : c.has n r = true) : c.cov (a.with n r) = true := by
  simp only [V8.has, Bool.and_eq_true, decide_eq_true_eq] at k
  obtain ⟨k1, k2⟩ := k
  obtain ⟨h0, h8⟩ := (known_iff r).1 k1
  rw [cov_iff] at *
  rcases known8 h0 h8 with rfl | rfl | rfl | rfl | rfl | rfl | rfl | rfl <;> (simp [V8.at] at k2; simp [V8.with]; simp only [h, and_true, true_and]; exact mx_least _ _ _ (by omega) k2)
theorem with_has (a : V8) (n r : Int) (k : a.has n r = true) : a.with n r = a := by
  obtain ⟨a0, a1, a2, a3, a4, a5, a6, a7⟩ := a
  simp only [V8.has, Bool.and_eq_true, decide_eq_true_eq] at k
  obtain ⟨k1, k2⟩ := k
  obtain ⟨h0, h8⟩ := (known_iff r).1 k1
  rcases known8 h0 h8 with rfl | rfl | rfl | rfl | rfl | rfl | rfl | rfl <;> (simp [V8.at] at k2; simp [V8.with, mx_eq, k2])
end Go.Proofs.Ytplnpgmchibnlaa
