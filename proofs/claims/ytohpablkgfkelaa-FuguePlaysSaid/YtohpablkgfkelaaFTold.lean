/- A TEXT IS TOLD BY ITS ACTS: plain. -/
import Derived.Test.YtohpablkgfkelaaFEls
namespace Go.Proofs.Ytohpablkgfkelaa
open Go.RowKit Go.Joins
set_option linter.unusedSimpArgs false
set_option linter.unusedVariables false

structure Told (l : List ActG) (S : Tx) : Prop where
  ok : S.Ok
  kid : ∀ p s y, y ∈ S.K p s ↔ ∃ a ∈ l, a.kd = 1 ∧ a.id = y ∧ a.par = p ∧ a.side = s
  mem : ∀ y, y ∈ S.L ↔ ∃ a ∈ l, a.kd = 1 ∧ a.id = y
  ch : ∀ a ∈ l, a.kd = 1 → S.ch a.id = a.ch
  gone : ∀ y, S.gone y = true ↔ ∃ a ∈ l, a.kd = 2 ∧ a.id = y
  uniq : ∀ (i j : Nat) (a b : ActG), l[i]? = some a → l[j]? = some b → a.kd = 1 → b.kd = 1 → a.id = b.id → i = j
  early : ∀ (i : Nat) (a : ActG), l[i]? = some a → a.kd = 1 → a.par = (0, 0) ∨ ∃ (j : Nat) (b : ActG), j < i ∧ l[j]? = some b ∧ b.kd = 1 ∧ b.id = a.par
  arg : ∀ a ∈ l, a.kd = 1 → ArgOk a.id a.par a.side
  kd : ∀ a ∈ l, a.kd = 1 ∨ a.kd = 2
theorem get_snoc {α : Type} {l : List α} {a b : α} {i : Nat} (h : (l ++ [a])[i]? = some b) : l[i]? = some b ∨ i = l.length ∧ b = a := by
  by_cases hi : i < l.length
  · rw [List.getElem?_append_left hi] at h; exact .inl h
  · have h2 := (List.getElem?_eq_some_iff.1 h).1
    have : i = l.length := by simp at h2; omega
    subst this
    rw [List.getElem?_append_right (Nat.le_refl _)] at h
    simp at h
    exact .inr ⟨rfl, h.symm⟩
theorem Told.step {l : List ActG} {S S' : Tx} {a : ActG} (h : Told l S) (hs : StepA S a S') : Told (l ++ [a]) S' := by
  have hl : ∀ {i : Nat} {b : ActG}, l[i]? = some b → (l ++ [a])[i]? = some b := fun {i b} hb => by
    rw [List.getElem?_append_left (List.getElem?_eq_some_iff.1 hb).1]; exact hb
  rcases hs with ⟨hkd, hok, hst⟩ | ⟨hkd, hm, rfl⟩
  · rcases hst with ⟨hno, _⟩ | ⟨_, A, B, hP, rfl⟩
    · exact absurd hok hno
    have hst : Stp S a.id a.par a.side a.ch (S.ins a.id a.par a.side a.ch (posS (S.K a.par a.side) a.id) A B) := .inr ⟨hok, A, B, hP, rfl⟩
    have hmm : ∀ y, y ∈ A ++ a.id :: B ↔ y = a.id ∨ y ∈ S.L := fun y => by
      rw [hP.eq, List.mem_append, List.mem_append, List.mem_cons]; constructor <;> (rintro (h | h | h) <;> simp [h])
    refine ⟨hst.ok h.ok, fun p s y => ?_, fun y => ?_, fun b hb hb1 => ?_, fun y => ?_, fun i j b c hi hj hb hc e => ?_, fun i b hi hb => ?_, fun b hb hb1 => ?_, fun b hb => ?_⟩
    · show y ∈ setK S.K a.par a.side (insAt (S.K a.par a.side) _ a.id) p s ↔ _
      unfold setK
      by_cases e : p = a.par ∧ s = a.side
      · rw [if_pos e, mem_insAt]
        obtain ⟨rfl, rfl⟩ := e
        rw [h.kid]
        constructor
        · rintro (rfl | ⟨b, hb, h1, h2, h3, h4⟩)
          · exact ⟨a, by simp, hkd, rfl, rfl, rfl⟩
          · exact ⟨b, by simp [hb], h1, h2, h3, h4⟩
        · rintro ⟨b, hb, h1, h2, h3, h4⟩
          rcases List.mem_append.1 hb with hb | hb
          · exact .inr ⟨b, hb, h1, h2, h3, h4⟩
          · simp at hb; subst hb; exact .inl h2.symm
      · rw [if_neg e, h.kid]
        constructor
        · rintro ⟨b, hb, h1, h2, h3, h4⟩
          exact ⟨b, by simp [hb], h1, h2, h3, h4⟩
        · rintro ⟨b, hb, h1, h2, h3, h4⟩
          rcases List.mem_append.1 hb with hb | hb
          · exact ⟨b, hb, h1, h2, h3, h4⟩
          · simp at hb; subst hb; exact absurd ⟨h3.symm, h4.symm⟩ e
    · show y ∈ A ++ a.id :: B ↔ _
      rw [hmm, h.mem]
      constructor
      · rintro (rfl | ⟨b, hb, h1, h2⟩)
        · exact ⟨a, by simp, hkd, rfl⟩
        · exact ⟨b, by simp [hb], h1, h2⟩
      · rintro ⟨b, hb, h1, h2⟩
        rcases List.mem_append.1 hb with hb | hb
        · exact .inr ⟨b, hb, h1, h2⟩
        · simp at hb; subst hb; exact .inl h2.symm
    · show setC S.ch a.id a.ch b.id = b.ch
      unfold setC
      rcases List.mem_append.1 hb with hb | hb
      · rw [if_neg (fun e => hok.2.1 (by rw [← e]; exact (h.mem b.id).2 ⟨b, hb, hb1, rfl⟩))]
        exact h.ch b hb hb1
      · simp at hb; subst hb; rw [if_pos rfl]
    · show S.gone y = true ↔ _
      rw [h.gone]
      constructor
      · rintro ⟨b, hb, h1, h2⟩
        exact ⟨b, by simp [hb], h1, h2⟩
      · rintro ⟨b, hb, h1, h2⟩
        rcases List.mem_append.1 hb with hb | hb
        · exact ⟨b, hb, h1, h2⟩
        · simp at hb; subst hb; omega
    · rcases get_snoc hi with hi2 | ⟨hi2, hi3⟩ <;> rcases get_snoc hj with hj2 | ⟨hj2, hj3⟩
      · exact h.uniq i j b c hi2 hj2 hb hc e
      · subst hj3
        exact absurd (by rw [← e]; exact (h.mem b.id).2 ⟨b, List.mem_of_getElem? hi2, hb, rfl⟩) hok.2.1
      · subst hi3
        exact absurd (by rw [e]; exact (h.mem c.id).2 ⟨c, List.mem_of_getElem? hj2, hc, rfl⟩) hok.2.1
      · omega
    · rcases get_snoc hi with hi2 | ⟨hi2, hi3⟩
      · rcases h.early i b hi2 hb with e | ⟨j, c, hj, hc, h1, h2⟩
        · exact .inl e
        · exact .inr ⟨j, c, hj, hl hc, h1, h2⟩
      · subst hi3
        rcases hok.2.2 with e | e
        · exact .inl e
        · obtain ⟨c, hc, h1, h2⟩ := (h.mem b.par).1 e
          obtain ⟨j, hj⟩ := List.mem_iff_getElem?.1 hc
          exact .inr ⟨j, c, by rw [hi2]; exact (List.getElem?_eq_some_iff.1 hj).1, hl hj, h1, h2⟩
    · rcases List.mem_append.1 hb with hb | hb
      · exact h.arg b hb hb1
      · simp at hb; subst hb; exact hok.1
    · rcases List.mem_append.1 hb with hb | hb
      · exact h.kd b hb
      · simp at hb; subst hb; exact .inl hkd
  · refine ⟨h.ok.del hm, fun p s y => ?_, fun y => ?_, fun b hb hb1 => ?_, fun y => ?_, fun i j b c hi hj hb hc e => ?_, fun i b hi hb => ?_, fun b hb hb1 => ?_, fun b hb => ?_⟩
    · show y ∈ S.K p s ↔ _
      rw [h.kid]
      constructor
      · rintro ⟨b, hb, h1, h2, h3, h4⟩
        exact ⟨b, by simp [hb], h1, h2, h3, h4⟩
      · rintro ⟨b, hb, h1, h2, h3, h4⟩
        rcases List.mem_append.1 hb with hb | hb
        · exact ⟨b, hb, h1, h2, h3, h4⟩
        · simp at hb; subst hb; omega
    · show y ∈ S.L ↔ _
      rw [h.mem]
      constructor
      · rintro ⟨b, hb, h1, h2⟩
        exact ⟨b, by simp [hb], h1, h2⟩
      · rintro ⟨b, hb, h1, h2⟩
        rcases List.mem_append.1 hb with hb | hb
        · exact ⟨b, hb, h1, h2⟩
        · simp at hb; subst hb; omega
    · rcases List.mem_append.1 hb with hb | hb
      · exact h.ch b hb hb1
      · simp at hb; subst hb; omega
    · show setH S.gone a.id true y = true ↔ _
      unfold setH
      by_cases e : y = a.id
      · rw [if_pos e]
        exact ⟨fun _ => ⟨a, by simp, hkd, e.symm⟩, fun _ => rfl⟩
      · rw [if_neg e, h.gone]
        constructor
        · rintro ⟨b, hb, h1, h2⟩
          exact ⟨b, by simp [hb], h1, h2⟩
        · rintro ⟨b, hb, h1, h2⟩
          rcases List.mem_append.1 hb with hb | hb
          · exact ⟨b, hb, h1, h2⟩
          · simp at hb; subst hb; exact absurd h2.symm e
    · rcases get_snoc hi with hi | ⟨hi, rfl⟩
      · rcases get_snoc hj with hj | ⟨hj, rfl⟩
        · exact h.uniq i j b c hi hj hb hc e
        · omega
      · omega
    · rcases get_snoc hi with hi | ⟨hi, rfl⟩
      · rcases h.early i b hi hb with e | ⟨j, c, hj, hc, h1, h2⟩
        · exact .inl e
        · exact .inr ⟨j, c, hj, hl hc, h1, h2⟩
      · omega
    · rcases List.mem_append.1 hb with hb | hb
      · exact h.arg b hb hb1
      · simp at hb; subst hb; omega
    · rcases List.mem_append.1 hb with hb | hb
      · exact h.kd b hb
      · simp at hb; subst hb; exact .inr hkd
theorem Came.told {l : List ActG} {S : Tx} (h : Came l S) : Told l S := by
  induction h with
  | nil => exact ⟨Tx.new_ok, fun p s y => by simp [Tx.new], fun y => by simp [Tx.new], fun a h => (by cases h), fun y => by simp [Tx.new], fun i j a b h => by simp at h, fun i a h => by simp at h, fun a h => (by cases h), fun a h => (by cases h)⟩
  | step h hs ih => exact ih.step hs
/-! ### what hangs on one -/
theorem Fl.par {K : Kd} {xs C : List St} (h : Fl K xs C) : ∀ x ∈ C, x ∈ xs ∨ ∃ p ∈ C, ∃ s, (s = 1 ∨ s = 2) ∧ x ∈ K p s := by
  induction h with
  | nil => intro x hx; cases hx
  | @cons x xs A B C a b c iha ihb ihc =>
    intro y hy
    simp only [List.mem_append, List.mem_cons] at hy ⊢
    rcases hy with hy | rfl | hy | hy
    · rcases iha y hy with h | ⟨p, hp, s, hs, h⟩
      · exact .inr ⟨x, .inr (.inl rfl), 1, .inl rfl, h⟩
      · exact .inr ⟨p, .inl hp, s, hs, h⟩
    · exact .inl (.inl rfl)
    · rcases ihb y hy with h | ⟨p, hp, s, hs, h⟩
      · exact .inr ⟨x, .inr (.inl rfl), 2, .inr rfl, h⟩
      · exact .inr ⟨p, .inr (.inr (.inl hp)), s, hs, h⟩
    · rcases ihc y hy with h | ⟨p, hp, s, hs, h⟩
      · exact .inl (.inr h)
      · exact .inr ⟨p, .inr (.inr (.inr hp)), s, hs, h⟩
/-- all that hangs on an element, it too, stands together -/
theorem Told.part {l : List ActG} {S : Tx} (h : Told l S) {top : St} (ht : top ∈ S.L) : ∃ U D V, S.L = U ++ D ++ V ∧ top ∈ D ∧ ∀ a ∈ l, a.kd = 1 → a.id ≠ top → (a.id ∈ D ↔ a.par ∈ D) := by
  obtain ⟨U, V, A, B, hL, hA, hB, -⟩ := h.ok.fl.at ht
  have hD : Fl S.K [top] (A ++ top :: B) := by simpa using Fl.cons hA hB .nil
  refine ⟨U, A ++ top :: B, V, hL, by simp, fun a ha hk hne => ?_⟩
  have hka : a.id ∈ S.K a.par a.side := (h.kid _ _ _).2 ⟨a, ha, hk, rfl, rfl, rfl⟩
  constructor
  · intro hx
    rcases hD.par a.id hx with hx | ⟨p, hp, s, hs, hx⟩
    · simp at hx; exact absurd hx hne
    · obtain ⟨b, hb, h1, h2, h3, h4⟩ := (h.kid p s a.id).1 hx
      obtain ⟨i, hi⟩ := List.mem_iff_getElem?.1 ha
      obtain ⟨j, hj⟩ := List.mem_iff_getElem?.1 hb
      have := h.uniq i j a b hi hj hk h1 h2.symm
      subst this
      rw [hi] at hj
      obtain rfl := Option.some.inj hj
      rw [h3]; exact hp
  · intro hp
    exact hD.kids a.par hp a.side (h.arg a ha hk).2.1 a.id hka
end Go.Proofs.Ytohpablkgfkelaa
