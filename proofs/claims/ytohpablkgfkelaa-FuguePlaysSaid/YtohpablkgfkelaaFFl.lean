/- THE ORDER OF A TEXT: a forest told by who hangs where, laid flat: plain. -/
import Derived.Test.YtohpablkgfkelaaFRopeWhole
namespace Go.Proofs.Ytohpablkgfkelaa
open Go.RowKit Go.Joins
set_option linter.unusedSimpArgs false
set_option linter.unusedVariables false

/-- who hangs where -/
abbrev Kd := St → Int → List St
/-- these, each with all that hangs on it, laid flat -/
inductive Fl (K : Kd) : List St → List St → Prop
  | nil : Fl K [] []
  | cons {x : St} {xs A B C : List St} : Fl K (K x 1) A → Fl K (K x 2) B → Fl K xs C → Fl K (x :: xs) (A ++ x :: (B ++ C))
theorem Fl.app {K : Kd} {xs ys A B : List St} (h : Fl K xs A) (h2 : Fl K ys B) : Fl K (xs ++ ys) (A ++ B) := by
  induction h with
  | nil => exact h2
  | cons a b c iha ihb ihc =>
    have := Fl.cons a b ihc
    simpa using this
theorem Fl.split {K : Kd} : ∀ {xs ys C : List St}, Fl K (xs ++ ys) C → ∃ A B, Fl K xs A ∧ Fl K ys B ∧ C = A ++ B
  | [], ys, C, h => ⟨[], C, .nil, h, rfl⟩
  | x :: xs, ys, C, h => by
    cases h with
    | cons a b c =>
      obtain ⟨A, B, h1, h2, rfl⟩ := Fl.split (xs := xs) c
      exact ⟨_, B, .cons a b h1, h2, by simp⟩
theorem Fl.det {K : Kd} {xs A : List St} (h : Fl K xs A) : ∀ {B : List St}, Fl K xs B → A = B := by
  induction h with
  | nil => intro B hB; cases hB; rfl
  | cons a b c iha ihb ihc =>
    intro B hB
    cases hB with
    | cons a' b' c' => rw [iha a', ihb b', ihc c']
theorem Fl.nil_of {K : Kd} {A : List St} (h : Fl K [] A) : A = [] := by cases h; rfl
theorem Fl.mem {K : Kd} {xs C : List St} (h : Fl K xs C) : ∀ x ∈ xs, x ∈ C := by
  induction h with
  | nil => intro x hx; cases hx
  | cons a b c iha ihb ihc =>
    intro y hy
    rcases List.mem_cons.1 hy with rfl | hy
    · simp
    · have := ihc y hy
      simp [this]
theorem Fl.kids {K : Kd} {xs C : List St} (h : Fl K xs C) : ∀ y ∈ C, ∀ s, s = 1 ∨ s = 2 → ∀ z ∈ K y s, z ∈ C := by
  induction h with
  | nil => intro x hx; cases hx
  | @cons x xs A B C a b c iha ihb ihc =>
    intro y hy s hs z hz
    simp only [List.mem_append, List.mem_cons] at hy ⊢
    rcases hy with hy | rfl | hy | hy
    · exact .inl (iha y hy s hs z hz)
    · rcases hs with rfl | rfl
      · exact .inl (a.mem z hz)
      · exact .inr (.inr (.inl (b.mem z hz)))
    · exact .inr (.inr (.inl (ihb y hy s hs z hz)))
    · exact .inr (.inr (.inr (ihc y hy s hs z hz)))
theorem Fl.congr {K K' : Kd} {xs C : List St} (h : Fl K xs C) : (∀ y ∈ C, K' y = K y) → Fl K' xs C := by
  induction h with
  | nil => intro _; exact .nil
  | @cons x xs A B C a b c iha ihb ihc =>
    intro hk
    have hx := hk x (by simp)
    refine .cons ?_ ?_ (ihc fun y hy => hk y (by simp [hy]))
    · rw [hx]; exact iha fun y hy => hk y (by simp [hy])
    · rw [hx]; exact ihb fun y hy => hk y (by simp [hy])
/-- around an element that is there -/
theorem Fl.at {K : Kd} {xs C : List St} {p : St} (h : Fl K xs C) : p ∈ C → ∃ U V A B, C = U ++ (A ++ p :: B) ++ V ∧ Fl K (K p 1) A ∧ Fl K (K p 2) B ∧
    ∀ (K' : Kd) (A' B' : List St), (∀ y ∈ U ++ V, K' y = K y) → Fl K' (K' p 1) A' → Fl K' (K' p 2) B' → Fl K' xs (U ++ (A' ++ p :: B') ++ V) := by
  induction h with
  | nil => intro hp; cases hp
  | @cons x xs A0 B0 C0 a b c iha ihb ihc =>
    intro hp
    simp only [List.mem_append, List.mem_cons] at hp
    rcases hp with hp | rfl | hp | hp
    · obtain ⟨U, V, A, B, rfl, h1, h2, h3⟩ := iha hp
      refine ⟨U, V ++ x :: (B0 ++ C0), A, B, by simp, h1, h2, fun K' A' B' hk hA hB => ?_⟩
      have hx := hk x (by simp)
      have e1 : Fl K' (K' x 1) (U ++ (A' ++ p :: B') ++ V) := by
        rw [hx]
        exact h3 K' A' B' (fun y hy => hk y (by rcases List.mem_append.1 hy with hy | hy <;> simp [hy])) hA hB
      have e2 : Fl K' (K' x 2) B0 := by rw [hx]; exact b.congr fun y hy => hk y (by simp [hy])
      have e3 : Fl K' xs C0 := c.congr fun y hy => hk y (by simp [hy])
      have := Fl.cons e1 e2 e3
      simpa using this
    · refine ⟨[], C0, A0, B0, by simp, a, b, fun K' A' B' hk hA hB => ?_⟩
      have := Fl.cons hA hB (c.congr fun y hy => hk y (by simp [hy]))
      simpa using this
    · obtain ⟨U, V, A, B, rfl, h1, h2, h3⟩ := ihb hp
      refine ⟨A0 ++ x :: U, V ++ C0, A, B, by simp, h1, h2, fun K' A' B' hk hA hB => ?_⟩
      have hx := hk x (by simp)
      have e1 : Fl K' (K' x 1) A0 := by rw [hx]; exact a.congr fun y hy => hk y (by simp [hy])
      have e2 : Fl K' (K' x 2) (U ++ (A' ++ p :: B') ++ V) := by
        rw [hx]
        exact h3 K' A' B' (fun y hy => hk y (by rcases List.mem_append.1 hy with hy | hy <;> simp [hy])) hA hB
      have e3 : Fl K' xs C0 := c.congr fun y hy => hk y (by simp [hy])
      have := Fl.cons e1 e2 e3
      simpa using this
    · obtain ⟨U, V, A, B, rfl, h1, h2, h3⟩ := ihc hp
      refine ⟨A0 ++ x :: (B0 ++ U), V, A, B, by simp, h1, h2, fun K' A' B' hk hA hB => ?_⟩
      have hx := hk x (by simp)
      have e1 : Fl K' (K' x 1) A0 := by rw [hx]; exact a.congr fun y hy => hk y (by simp [hy])
      have e2 : Fl K' (K' x 2) B0 := by rw [hx]; exact b.congr fun y hy => hk y (by simp [hy])
      have e3 : Fl K' xs (U ++ (A' ++ p :: B') ++ V) := h3 K' A' B' (fun y hy => hk y (by rcases List.mem_append.1 hy with hy | hy <;> simp [hy])) hA hB
      have := Fl.cons e1 e2 e3
      simpa using this
/-- with a leaf more -/
def insAt (l : List St) (i : Nat) (x : St) : List St := l.take i ++ x :: l.drop i
theorem Fl.leaf {K : Kd} {xs C : List St} (h : Fl K xs C) (i : Nat) : ∃ A B, C = A ++ B ∧ Fl K (xs.take i) A ∧ Fl K (xs.drop i) B ∧
    ∀ (K' : Kd) (x : St), (∀ y ∈ C, K' y = K y) → K' x 1 = [] → K' x 2 = [] → Fl K' (insAt xs i x) (A ++ x :: B) := by
  rw [← List.take_append_drop i xs] at h
  obtain ⟨A, B, h1, h2, rfl⟩ := h.split
  refine ⟨A, B, rfl, h1, h2, fun K' x hk hx1 hx2 => ?_⟩
  have e1 := h1.congr (K' := K') fun y hy => hk y (by simp [hy])
  have e2 := h2.congr (K' := K') fun y hy => hk y (by simp [hy])
  have e3 : Fl K' (x :: xs.drop i) ([] ++ x :: ([] ++ B)) := .cons (by rw [hx1]; exact .nil) (by rw [hx2]; exact .nil) e2
  exact e1.app e3
/-- the last of what hangs on one is its last one's -/
theorem Fl.last_step {K : Kd} {y : St} {A : List St} (h : Fl K [y] A) : (K y 2 = [] → ∃ A', A = A' ++ [y]) ∧ ∀ zs z, K y 2 = zs ++ [z] → ∃ A' B, A = A' ++ B ∧ Fl K [z] B ∧ B.length < A.length := by
  cases h with
  | @cons _ _ A0 B0 C0 a b c =>
    obtain rfl := c.nil_of
    refine ⟨fun e => ?_, fun zs z e => ?_⟩
    · rw [e] at b
      obtain rfl := b.nil_of
      exact ⟨A0, by simp⟩
    · rw [e] at b
      obtain ⟨A1, B1, h1, h2, rfl⟩ := b.split
      exact ⟨A0 ++ y :: A1, B1, by simp, h2, by simp; omega⟩
theorem Fl.first_step {K : Kd} {y : St} {A : List St} (h : Fl K [y] A) : (K y 1 = [] → ∃ A', A = y :: A') ∧ ∀ z zs, K y 1 = z :: zs → ∃ A' B, A = B ++ A' ∧ Fl K [z] B ∧ B.length < A.length := by
  cases h with
  | @cons _ _ A0 B0 C0 a b c =>
    obtain rfl := c.nil_of
    refine ⟨fun e => ?_, fun z zs e => ?_⟩
    · rw [e] at a
      obtain rfl := a.nil_of
      exact ⟨B0, by simp⟩
    · rw [e, show z :: zs = [z] ++ zs from rfl] at a
      obtain ⟨A1, B1, h1, h2, rfl⟩ := a.split
      exact ⟨B1 ++ y :: B0, A1, by simp, h1, by simp; omega⟩
end Go.Proofs.Ytohpablkgfkelaa
