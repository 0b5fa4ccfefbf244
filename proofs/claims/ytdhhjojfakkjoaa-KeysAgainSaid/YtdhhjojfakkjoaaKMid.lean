/- A KEY BETWEEN TWO KEYS: plain laws on lists of figures. -/
import Derived.Test.YtdhhjojfakkjoaaKeys
namespace Go.Proofs.Ytdhhjojfakkjoaa
set_option linter.unusedSimpArgs false
set_option linter.unusedVariables false

def ltN : List Nat → List Nat → Bool
  | _, [] => false
  | [], _ :: _ => true
  | x :: a, y :: b => decide (x < y) || (x == y && ltN a b)
def midO : List Nat → List Nat
  | [] => [18]
  | x :: a => if 1 < 36 - x then [(x + 36) / 2] else x :: midO a
def midC : List Nat → List Nat → List Nat
  | _, [] => []
  | a, y :: b => if 1 < y - a.headD 0 then [(a.headD 0 + y) / 2] else a.headD 0 :: (if a.headD 0 < y then midO a.tail else midC a.tail b)
/-- a list of figures that ends, and not in a nought -/
def Ends (r : List Nat) : Prop := r ≠ [] ∧ r.getLast? ≠ some 0
def Figs (r : List Nat) : Prop := ∀ x ∈ r, x < 36
theorem Figs.tail {r : List Nat} (h : Figs r) : Figs r.tail := fun x hx => h x (List.mem_of_mem_tail hx)
theorem Figs.head {r : List Nat} (h : Figs r) : r.headD 0 < 36 := by
  cases r with
  | nil => simp
  | cons x r => exact h x (by simp)
theorem Ends.cons {x : Nat} {r : List Nat} (h : Ends r) : Ends (x :: r) := by
  refine ⟨by simp, ?_⟩
  obtain ⟨h1, h2⟩ := h
  cases r with
  | nil => exact absurd rfl h1
  | cons y r => rw [List.getLast?_cons_cons]; exact h2
theorem midO_spec (a : List Nat) (ha : Figs a) : Ends (midO a) ∧ Figs (midO a) ∧ ltN a (midO a) = true ∧ (midO a).length ≤ a.length + 1 := by
  induction a with
  | nil => exact ⟨⟨by simp [midO], by simp [midO]⟩, by simp [midO, Figs], rfl, by simp [midO]⟩
  | cons x a ih =>
    have hx : x < 36 := ha x (by simp)
    obtain ⟨i1, i2, i3, i4⟩ := ih (fun z hz => ha z (by simp [hz]))
    unfold midO
    by_cases h : 1 < 36 - x
    · rw [if_pos h]
      refine ⟨⟨by simp, by first | (simp; done) | (simp; omega)⟩, fun z hz => ?_, ?_, by simp⟩
      · simp at hz; omega
      · simp [ltN]; omega
    · rw [if_neg h]
      refine ⟨i1.cons, fun z hz => ?_, ?_, by simp; omega⟩
      · rcases List.mem_cons.1 hz with rfl | hz
        · exact hx
        · exact i2 z hz
      · simp [ltN, i3]
theorem ends_tail {y : Nat} {b : List Nat} (h : Ends (y :: b)) (hb : b ≠ []) : Ends b := by
  refine ⟨hb, ?_⟩
  cases b with
  | nil => exact absurd rfl hb
  | cons z b => have := h.2; rwa [List.getLast?_cons_cons] at this
theorem ltN_ne {a b : List Nat} (h : ltN a b = true) : b ≠ [] := by
  rintro rfl; cases a <;> simp [ltN] at h
theorem midC_nil (y : Nat) (b : List Nat) : midC [] (y :: b) = if 1 < y then [y / 2] else 0 :: (if 0 < y then midO [] else midC [] b) := by simp [midC]
theorem midC_cons (x : Nat) (a : List Nat) (y : Nat) (b : List Nat) : midC (x :: a) (y :: b) = if 1 < y - x then [(x + y) / 2] else x :: (if x < y then midO a else midC a b) := by simp [midC]
theorem midC_spec (b : List Nat) : ∀ (a : List Nat), Figs a → Figs b → ltN a b = true → Ends b →
    Ends (midC a b) ∧ Figs (midC a b) ∧ ltN a (midC a b) = true ∧ ltN (midC a b) b = true ∧ (midC a b).length ≤ max a.length b.length + 1 := by
  induction b with
  | nil => intro a _ _ h; exact absurd rfl (ltN_ne h)
  | cons y b ih =>
    intro a ha hb hlt he
    have hy : y < 36 := hb y (by simp)
    have hb' : Figs b := fun z hz => hb z (by simp [hz])
    have hmx : ∀ (p q : Nat), p ≤ max p q ∧ q ≤ max p q := fun p q => ⟨Nat.le_max_left _ _, Nat.le_max_right _ _⟩
    cases a with
    | nil =>
      rw [midC_nil]
      by_cases h1 : 1 < y
      · rw [if_pos h1]
        refine ⟨⟨by simp, by first | (simp; done) | (simp; omega)⟩, fun z hz => ?_, rfl, ?_, by simp⟩
        · simp at hz; omega
        · simp [ltN]; omega
      · rw [if_neg h1]
        by_cases h0 : 0 < y
        · rw [if_pos h0]
          obtain ⟨i1, i2, i3, i4⟩ := midO_spec [] (by intro z hz; simp at hz)
          refine ⟨i1.cons, fun z hz => ?_, rfl, by simp [ltN, h0], by first | (simp [midO]; done) | (simp [midO]; omega)⟩
          rcases List.mem_cons.1 hz with rfl | hz
          · omega
          · exact i2 z hz
        · rw [if_neg h0]
          have hbn : b ≠ [] := by
            rintro rfl
            exact he.2 (by simp; omega)
          have hl : ltN [] b = true := by cases b with
            | nil => exact absurd rfl hbn
            | cons z b => rfl
          obtain ⟨i1, i2, i3, i4, i5⟩ := ih [] ha hb' hl (ends_tail he hbn)
          refine ⟨i1.cons, fun z hz => ?_, rfl, ?_, ?_⟩
          · rcases List.mem_cons.1 hz with rfl | hz
            · omega
            · exact i2 z hz
          · have : y = 0 := by omega
            simp [ltN, this, i4]
          · simp at i5 ⊢; omega
    | cons x a =>
      have hx : x < 36 := ha x (by simp)
      have ha' : Figs a := fun z hz => ha z (by simp [hz])
      rw [midC_cons]
      have hlt' : x < y ∨ (x = y ∧ ltN a b = true) := by simpa [ltN] using hlt
      by_cases h1 : 1 < y - x
      · rw [if_pos h1]
        refine ⟨⟨by simp, by first | (simp; done) | (simp; omega)⟩, fun z hz => ?_, ?_, ?_, by simp⟩
        · simp at hz; omega
        · simp [ltN]; omega
        · simp [ltN]; omega
      · rw [if_neg h1]
        by_cases h0 : x < y
        · rw [if_pos h0]
          obtain ⟨i1, i2, i3, i4⟩ := midO_spec a ha'
          refine ⟨i1.cons, fun z hz => ?_, by simp [ltN, i3], by simp [ltN, h0], ?_⟩
          · rcases List.mem_cons.1 hz with rfl | hz
            · exact hx
            · exact i2 z hz
          · have := hmx (a.length + 1) (b.length + 1)
            simp only [List.length_cons]; omega
        · rw [if_neg h0]
          have hl : x = y ∧ ltN a b = true := hlt'.resolve_left h0
          obtain ⟨i1, i2, i3, i4, i5⟩ := ih a ha' hb' hl.2 (ends_tail he (ltN_ne hl.2))
          refine ⟨i1.cons, fun z hz => ?_, by simp [ltN, i3], by simp [ltN, hl.1, i4], ?_⟩
          · rcases List.mem_cons.1 hz with rfl | hz
            · exact hx
            · exact i2 z hz
          · have e : max (a.length + 1) (b.length + 1) = max a.length b.length + 1 := by omega
            simp only [List.length_cons, e]; omega

/-! ### the loop's state -/
def rem (o : Bool) (a b : List Nat) : List Nat := if o then midO a else midC a b
def Okay (o : Bool) (a b : List Nat) : Prop := o = false → ltN a b = true ∧ Ends b
def high (o : Bool) (b : List Nat) : Nat := if o then 36 else b.headD 0
theorem high_le {o : Bool} {b : List Nat} (hb : Figs b) : high o b ≤ 36 := by
  unfold high; split
  · exact Nat.le_refl _
  · exact Nat.le_of_lt hb.head
theorem low_le_high {o : Bool} {a b : List Nat} (ha : Figs a) (hb : Figs b) (hk : Okay o a b) : a.headD 0 ≤ high o b := by
  cases o with
  | true => exact Nat.le_of_lt ha.head
  | false =>
    obtain ⟨h1, h2⟩ := hk rfl
    cases b with
    | nil => exact absurd rfl h2.1
    | cons y b => cases a with
      | nil => simp [high]
      | cons x a => simp [ltN] at h1; simp [high]; omega
theorem rem_stop {o : Bool} {a b : List Nat} (hk : Okay o a b) (h : 1 < high o b - a.headD 0) : rem o a b = [(a.headD 0 + high o b) / 2] := by
  cases o with
  | true => cases a with
    | nil => simp [rem, midO, high]
    | cons x a => simp [high] at h; simp [rem, midO, high, h]
  | false =>
    obtain ⟨h1, h2⟩ := hk rfl
    cases b with
    | nil => exact absurd rfl h2.1
    | cons y b => simp [high] at h; simp [rem, midC, high, h]
theorem rem_go {o : Bool} {a b : List Nat} (ha : Figs a) (hb : Figs b) (hk : Okay o a b) (h : ¬ 1 < high o b - a.headD 0) :
    rem o a b = a.headD 0 :: rem (o || decide (a.headD 0 < high o b)) a.tail b.tail ∧ Okay (o || decide (a.headD 0 < high o b)) a.tail b.tail := by
  cases o with
  | true => cases a with
    | nil => simp [high] at h
    | cons x a =>
      simp [high] at h
      have : ¬ 1 < 36 - x := by omega
      exact ⟨by simp [rem, midO, this], fun h => by simp at h⟩
  | false =>
    obtain ⟨h1, h2⟩ := hk rfl
    cases b with
    | nil => exact absurd rfl h2.1
    | cons y b =>
      simp only [high, List.headD_cons, Bool.false_eq_true, if_false] at h
      have e : rem false a (y :: b) = if 1 < y - a.headD 0 then [(a.headD 0 + y) / 2] else a.headD 0 :: (if a.headD 0 < y then midO a.tail else midC a.tail b) := rfl
      have eh : high false (y :: b) = y := rfl
      rw [e, eh, if_neg h, List.tail_cons]
      by_cases hlt : a.headD 0 < y
      · have ed : (false || decide (a.headD 0 < y)) = true := by rw [decide_eq_true hlt]; rfl
        rw [if_pos hlt, ed]
        exact ⟨rfl, fun h => by cases h⟩
      · have ed : (false || decide (a.headD 0 < y)) = false := by rw [decide_eq_false hlt]; rfl
        rw [if_neg hlt, ed]
        refine ⟨rfl, fun _ => ?_⟩
        cases a with
        | nil =>
          simp at hlt
          have hbn : b ≠ [] := by
            rintro rfl
            exact h2.2 (by simp [hlt])
          refine ⟨?_, ends_tail h2 hbn⟩
          cases b with
          | nil => exact absurd rfl hbn
          | cons z b => rfl
        | cons x a =>
          simp [ltN] at h1
          simp at hlt
          have hl : ltN a b = true := by
            rcases h1 with h1 | h1
            · omega
            · exact h1.2
          exact ⟨hl, ends_tail h2 (ltN_ne hl)⟩
theorem rem_ne {o : Bool} {a b : List Nat} (hk : Okay o a b) : rem o a b ≠ [] := by
  cases o with
  | true => cases a <;> simp [rem, midO] <;> split <;> simp
  | false =>
    obtain ⟨h1, h2⟩ := hk rfl
    cases b with
    | nil => exact absurd rfl h2.1
    | cons y b => simp [rem, midC]; split <;> simp
end Go.Proofs.Ytdhhjojfakkjoaa
