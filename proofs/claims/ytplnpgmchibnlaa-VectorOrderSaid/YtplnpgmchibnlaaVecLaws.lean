/- VECTORS: plain laws. -/
import Derived.Test.YtplnpgmchibnlaaVec
namespace Go.Proofs.Ytplnpgmchibnlaa
theorem mx_eq (x y : Int) : mx x y = x ↔ y ≤ x := by unfold mx; split <;> omega
theorem beq_iff (a b : V8) : a.beq b = true ↔ a = b := by
  obtain ⟨a0, a1, a2, a3, a4, a5, a6, a7⟩ := a
  obtain ⟨b0, b1, b2, b3, b4, b5, b6, b7⟩ := b
  simp [V8.beq, V8.list]
theorem cov_iff (a b : V8) : a.cov b = true ↔ b.x0 ≤ a.x0 ∧ b.x1 ≤ a.x1 ∧ b.x2 ≤ a.x2 ∧ b.x3 ≤ a.x3 ∧ b.x4 ≤ a.x4 ∧ b.x5 ≤ a.x5 ∧ b.x6 ≤ a.x6 ∧ b.x7 ≤ a.x7 := by
  simp [V8.cov, V8.beq, V8.list, V8.join, mx_eq]
theorem cov_refl (a : V8) : a.cov a = true := by rw [cov_iff]; omega
theorem cov_anti (a b : V8) : (a.cov b && b.cov a) = a.beq b := by
  rw [Bool.eq_iff_iff, Bool.and_eq_true, cov_iff, cov_iff, beq_iff]
  constructor
  · intro h
    obtain ⟨a0, a1, a2, a3, a4, a5, a6, a7⟩ := a
    obtain ⟨b0, b1, b2, b3, b4, b5, b6, b7⟩ := b
    simp only [V8.mk.injEq]
    simp only at h
    omega
  · rintro rfl; omega
theorem anti_of {a b : V8} {x y : Bool} (h : a.cov b = x) (k : b.cov a = y) : a.beq b = (x && y) := by rw [← cov_anti, h, k]
theorem cov_trans (a b c : V8) (h : a.cov b = true) (k : b.cov c = true) : a.cov c = true := by
  rw [cov_iff] at *; omega
theorem cov_one : V8.cov ⟨0, 0, 0, 0, 0, 0, 0, 0⟩ ⟨1, 0, 0, 0, 0, 0, 0, 0⟩ = false := by decide
end Go.Proofs.Ytplnpgmchibnlaa
