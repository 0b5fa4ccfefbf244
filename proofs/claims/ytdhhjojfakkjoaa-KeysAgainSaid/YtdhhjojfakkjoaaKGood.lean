/- A KEY BETWEEN TWO KEYS: what middle answers is a key, stands where it should, and is not too long. -/
import Derived.Test.YtdhhjojfakkjoaaKMiddle
namespace Go.Proofs.Ytdhhjojfakkjoaa
open Go.RowKit Go.Joins
set_option linter.unusedSimpArgs false
set_option linter.unusedVariables false

theorem keyB_parts {l : List UInt8} (h : keyB l = true) : l.all fig = true ∧ 1 ≤ l.length ∧ l.length ≤ 64 ∧ l.getLast? ≠ some 48 := by
  simp only [keyB, Bool.and_eq_true, decide_eq_true_eq, Bool.not_eq_true', beq_eq_false_iff_ne] at h
  exact ⟨h.1.1.1, h.1.1.2, h.1.2, h.2⟩
theorem keyB_mk {l : List UInt8} (h1 : l.all fig = true) (h2 : 1 ≤ l.length) (h3 : l.length ≤ 64) (h4 : l.getLast? ≠ some 48) : keyB l = true := by
  simp only [keyB, Bool.and_eq_true, decide_eq_true_eq, Bool.not_eq_true', beq_eq_false_iff_ne]
  exact ⟨⟨⟨h1, h2⟩, h3⟩, h4⟩
theorem chr48 {v : Nat} (h : v < 36) : chr v = 48 ↔ v = 0 := ⟨chr_zero h, by rintro rfl; decide⟩
theorem ends_vals {s : ByteArray} (h : keyB s.data.toList = true) : Ends (vals s) := by
  obtain ⟨h1, h2, h3, h4⟩ := keyB_parts h
  refine ⟨fun e => ?_, fun e => ?_⟩
  · have : (vals s).length = 0 := by rw [e]; rfl
    rw [vals_length, Lib.size_eq] at this; omega
  · have : ((vals s).map chr).getLast? = some (chr 0) := by rw [List.getLast?_map, e]; rfl
    rw [vals_back h1] at this
    exact h4 this
theorem map_key {r : List Nat} (h : Ends r) (f : Figs r) (hl : r.length ≤ 64) : keyB (r.map chr) = true := by
  refine keyB_mk ?_ ?_ (by simpa using hl) ?_
  · rw [List.all_eq_true]
    intro b hb
    obtain ⟨v, hv, rfl⟩ := List.mem_map.1 hb
    exact chr_fig (f v hv)
  · have := List.length_pos_iff.2 h.1
    simp; omega
  · rw [List.getLast?_map]
    intro e
    obtain ⟨v, hv, hc⟩ := Option.map_eq_some_iff.1 e
    have hm := f v (List.mem_of_getLast? hv)
    rw [chr_zero hm hc] at hv
    exact h.2 hv
/-- all that is needed of what middle answers -/
structure Good (a b : ByteArray) (r : List UInt8) : Prop where
  key : keyB r = true
  above : Op.bytesLess a.toList r = true
  under : b.size = 0 ∨ Op.bytesLess r b.toList = true
  short : r.length ≤ max a.size b.size + 1
theorem good_of (a b : ByteArray) (ga : a.size = 0 ∨ keyB a.data.toList = true) (gb : b.size = 0 ∨ keyB b.data.toList = true)
    (hl : a.size ≠ 0 → b.size ≠ 0 → Op.bytesLess a.toList b.toList = true) (ya : ¬ a.size = 64) (yb : ¬ b.size = 64) :
    a.size ≤ 63 ∧ b.size ≤ 63 ∧ a.data.toList.all fig = true ∧ b.data.toList.all fig = true ∧ Okay (decide (b.size = 0)) (vals a) (vals b) ∧ (total a b).length ≤ 64 ∧ Good a b ((total a b).map chr) := by
  have small : ∀ s : ByteArray, (s.size = 0 ∨ keyB s.data.toList = true) → ¬ s.size = 64 → s.size ≤ 63 ∧ s.data.toList.all fig = true := by
    intro s hs hy
    rcases hs with h | h
    · refine ⟨by omega, ?_⟩
      have : s.data.toList = [] := by rw [← List.length_eq_zero_iff, ← Lib.size_eq]; exact h
      rw [this]; rfl
    · obtain ⟨h1, h2, h3, h4⟩ := keyB_parts h
      rw [← Lib.size_eq] at h3
      exact ⟨by omega, h1⟩
  obtain ⟨sa, fa⟩ := small a ga ya
  obtain ⟨sb, fb⟩ := small b gb yb
  have Fa := vals_figs fa
  have Fb := vals_figs fb
  have hal : a.toList = (vals a).map chr := by rw [vals_back fa, ByteArray.toList_eq]
  have hbl : b.toList = (vals b).map chr := by rw [vals_back fb, ByteArray.toList_eq]
  have va := vals_length a
  have vb := vals_length b
  by_cases hb0 : b.size = 0
  · obtain ⟨m1, m2, m3, m4⟩ := midO_spec (vals a) Fa
    have et : total a b = midO (vals a) := by unfold total; rw [decide_eq_true hb0]; rfl
    rw [et]
    refine ⟨sa, sb, fa, fb, fun h => by simp [hb0] at h, by omega, ⟨map_key m1 m2 (by omega), by rw [hal, less_map _ _ Fa m2]; exact m3, Or.inl hb0, ?_⟩⟩
    rw [List.length_map]
    have := Nat.le_max_left a.size b.size
    omega
  · have kb := gb.resolve_left hb0
    have eb := ends_vals kb
    have hlt : ltN (vals a) (vals b) = true := by
      by_cases ha0 : a.size = 0
      · have : vals a = [] := by rw [← List.length_eq_zero_iff, va]; exact ha0
        rw [this]
        cases hv : vals b with
        | nil => exact absurd hv eb.1
        | cons y l => rfl
      · have := hl ha0 hb0
        rwa [hal, hbl, less_map _ _ Fa Fb] at this
    obtain ⟨m1, m2, m3, m4, m5⟩ := midC_spec (vals b) (vals a) Fa Fb hlt eb
    have et : total a b = midC (vals a) (vals b) := by unfold total; rw [decide_eq_false hb0]; rfl
    rw [et]
    rw [va, vb] at m5
    have hmx : max a.size b.size ≤ 63 := by omega
    refine ⟨sa, sb, fa, fb, fun _ => ⟨hlt, eb⟩, by omega, ⟨map_key m1 m2 (by omega), by rw [hal, less_map _ _ Fa m2]; exact m3, Or.inr (by rw [hbl, less_map _ _ m2 Fb]; exact m4), ?_⟩⟩
    rw [List.length_map]; exact m5
end Go.Proofs.Ytdhhjojfakkjoaa
