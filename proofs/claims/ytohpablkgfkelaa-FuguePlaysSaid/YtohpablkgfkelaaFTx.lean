/- A TEXT, plain: its elements, who hangs where, and what putting one in does to their order. -/
import Derived.Test.YtohpablkgfkelaaFFl
namespace Go.Proofs.Ytohpablkgfkelaa
open Go.RowKit Go.Joins
set_option linter.unusedSimpArgs false
set_option linter.unusedVariables false

def ltS (a b : St) : Prop := cmpS a.1 a.2 b.1 b.2 < 0
instance (a b : St) : Decidable (ltS a b) := by unfold ltS; infer_instance
theorem ltS_iff (a b : St) : ltS a b ↔ a.1 < b.1 ∨ (a.1 = b.1 ∧ a.2 < b.2) := by
  unfold ltS cmpS cmpI
  split <;> (split at * <;> (try split at *) <;> (try split) <;> (try split) <;> omega)
theorem cmpS_zero (a b : St) : cmpS a.1 a.2 b.1 b.2 = 0 ↔ a = b := by
  rw [Prod.ext_iff]
  unfold cmpS cmpI
  split <;> (split at * <;> (try split at *) <;> (try split) <;> (try split) <;> omega)
theorem ltS_irrefl (a : St) : ¬ ltS a a := by rw [ltS_iff]; omega
theorem ltS_trans {a b c : St} (h : ltS a b) (k : ltS b c) : ltS a c := by rw [ltS_iff] at *; omega
theorem ltS_asymm {a b : St} (h : ltS a b) : ¬ ltS b a := by rw [ltS_iff] at *; omega
theorem ltS_total {a b : St} (h : ¬ ltS a b) (hne : a ≠ b) : ltS b a := by
  rw [ltS_iff] at *
  have : ¬ (a.1 = b.1 ∧ a.2 = b.2) := fun e => hne (Prod.ext e.1 e.2)
  omega
/-- sorted lists of the same are one -/
theorem sorted_eq : ∀ {l m : List St}, l.Pairwise ltS → m.Pairwise ltS → (∀ x, x ∈ l ↔ x ∈ m) → l = m
  | [], [], _, _, _ => rfl
  | [], b :: m, _, _, h => by have := (h b).2 (by simp); cases this
  | a :: l, [], _, _, h => by have := (h a).1 (by simp); cases this
  | a :: l, b :: m, h1, h2, h => by
    obtain ⟨a1, a2⟩ := List.pairwise_cons.1 h1
    obtain ⟨b1, b2⟩ := List.pairwise_cons.1 h2
    have e : a = b := by
      rcases List.mem_cons.1 ((h a).1 (by simp)) with e | e
      · exact e
      · rcases List.mem_cons.1 ((h b).2 (by simp)) with e' | e'
        · exact e'.symm
        · exact absurd (b1 a e) (ltS_asymm (a1 b e'))
    subst e
    congr 1
    refine sorted_eq a2 b2 fun x => ⟨fun hx => ?_, fun hx => ?_⟩
    · rcases List.mem_cons.1 ((h x).1 (by simp [hx])) with e | e
      · subst e; exact absurd (a1 x hx) (ltS_irrefl x)
      · exact e
    · rcases List.mem_cons.1 ((h x).2 (by simp [hx])) with e | e
      · subst e; exact absurd (b1 x hx) (ltS_irrefl x)
      · exact e
theorem mem_insAt {l : List St} {i : Nat} {x y : St} : y ∈ insAt l i x ↔ y = x ∨ y ∈ l := by
  unfold insAt
  conv => rhs; rw [← List.take_append_drop i l]
  simp only [List.mem_append, List.mem_cons]
  constructor
  · rintro (h | h | h)
    · exact .inr (.inl h)
    · exact .inl h
    · exact .inr (.inr h)
  · rintro (h | h | h)
    · exact .inr (.inl h)
    · exact .inl h
    · exact .inr (.inr h)
/-- where a new one stands among its like -/
def IsAt (l : List St) (x : St) (i : Nat) : Prop := i ≤ l.length ∧ (∀ y ∈ l.take i, ltS y x) ∧ ∀ y ∈ l.drop i, ltS x y
theorem IsAt.sorted {l : List St} {x : St} {i : Nat} (h : IsAt l x i) (hl : l.Pairwise ltS) : (insAt l i x).Pairwise ltS := by
  unfold insAt
  rw [List.pairwise_append, List.pairwise_cons]
  refine ⟨hl.sublist (List.take_sublist _ _), ⟨h.2.2, hl.sublist (List.drop_sublist _ _)⟩, fun a ha b hb => ?_⟩
  rcases List.mem_cons.1 hb with rfl | hb
  · exact h.2.1 a ha
  · exact ltS_trans (h.2.1 a ha) (h.2.2 b hb)
/-- a text -/
structure Tx where
  K : Kd
  ch : St → Int
  gone : St → Bool
  L : List St
/-- one may hang there -/
def Spot (L : List St) (p : St) (s : Int) : Prop := s = 2 ∧ p = (0, 0) ∨ (s = 1 ∨ s = 2) ∧ p ∈ L
structure Tx.Ok (S : Tx) : Prop where
  fl : Fl S.K (S.K (0, 0) 2) S.L
  nodup : S.L.Nodup
  right : ∀ x ∈ S.L, rightB x.1 x.2 = true
  sorted : ∀ p s, (S.K p s).Pairwise ltS
  kid : ∀ p s, ∀ x ∈ S.K p s, x ∈ S.L
  par : ∀ p s, S.K p s ≠ [] → Spot S.L p s
  gone : ∀ x, S.gone x = true → x ∈ S.L
theorem Tx.Ok.zero {S : Tx} (h : S.Ok) : (0, 0) ∉ S.L := fun hm => by have := h.right _ hm; simp [rightB] at this
theorem right_ne {x : St} (h : rightB x.1 x.2 = true) : x ≠ (0, 0) := fun e => by subst e; simp [rightB] at h
def setK (K : Kd) (p : St) (s : Int) (l : List St) : Kd := fun q u => if q = p ∧ u = s then l else K q u
theorem setK_same (K : Kd) (p : St) (s : Int) (l : List St) : setK K p s l p s = l := by simp [setK]
theorem setK_other {K : Kd} {p : St} {s : Int} {l : List St} {q : St} (h : q ≠ p) : setK K p s l q = K q := by funext u; simp [setK, h]
theorem setK_side {K : Kd} {p : St} {s : Int} {l : List St} {q : St} {u : Int} (h : u ≠ s) : setK K p s l q u = K q u := by simp [setK, h]
/-- the place of a new one: what is ahead of it, what is behind it -/
structure Put (K : Kd) (L : List St) (p : St) (s : Int) (i : Nat) (A B : List St) : Prop where
  eq : L = A ++ B
  new : ∀ x, x ∉ L → x ≠ (0, 0) → Fl (setK K p s (insAt (K p s) i x)) (setK K p s (insAt (K p s) i x) (0, 0) 2) (A ++ x :: B)
  c1 : ∀ j y, i = j + 1 → (K p s)[j]? = some y → ∃ z A' D, A = A' ++ [z] ∧ Fl K [y] (D ++ [z])
  c2 : i = 0 → s = 1 → ∃ z B' D, B = z :: B' ∧ Fl K [p] (z :: D)
  c3 : i = 0 → p = (0, 0) → A = []
  c4 : i = 0 → s = 2 → p ≠ (0, 0) → ∃ A', A = A' ++ [p]
theorem Fl.ne_nil {K : Kd} {x : St} {xs C : List St} (h : Fl K (x :: xs) C) : C ≠ [] := fun e => by
  have := h.mem x (by simp); rw [e] at this; cases this
theorem take_last {K : Kd} {l : List St} {A : List St} {i : Nat} (h : Fl K (l.take i) A) (j : Nat) (y : St) (hi : i = j + 1) (hy : l[j]? = some y) : ∃ z A' D, A = A' ++ [z] ∧ Fl K [y] (D ++ [z]) := by
  subst hi
  rw [List.take_add_one, hy] at h
  obtain ⟨A0, D, h1, h2, rfl⟩ := h.split
  have h2 : Fl K [y] D := h2
  rcases List.eq_nil_or_concat D with e | ⟨D', z, rfl⟩
  · exact absurd e h2.ne_nil
  · exact ⟨z, A0 ++ D', D', by simp, by simpa using h2⟩
theorem nodup_mid {U A B V : List St} {p : St} (h : (U ++ (A ++ p :: B) ++ V).Nodup) : (∀ y ∈ U ++ V, y ≠ p) ∧ (∀ y ∈ A, y ≠ p) ∧ ∀ y ∈ B, y ≠ p := by
  have h2 := h
  simp only [List.nodup_append, List.nodup_cons, List.mem_append, List.mem_cons] at h2
  obtain ⟨⟨_, ⟨_, ⟨hB, _⟩, hA⟩, hU⟩, _, hV⟩ := h2
  refine ⟨fun y hy e => ?_, fun y hy e => hA y hy p (.inl rfl) e, fun y hy e => hB (e ▸ hy)⟩
  subst e
  rcases List.mem_append.1 hy with hy | hy
  · exact hU y hy y (.inr (.inl rfl)) rfl
  · exact hV y (.inr (.inr (.inl rfl))) y hy rfl
theorem Tx.Ok.put {S : Tx} (h : S.Ok) {p : St} {s : Int} (hp : Spot S.L p s) (i : Nat) : ∃ A B, Put S.K S.L p s i A B := by
  have hx0 : ∀ x, x ∉ S.L → x ≠ (0, 0) → x ≠ p → ∀ u, setK S.K p s (insAt (S.K p s) i x) x u = [] := fun x hx h0 hne u => by
    rw [setK_other hne]
    by_cases e : S.K x u = []
    · exact e
    · rcases h.par x u e with ⟨_, e⟩ | ⟨_, e⟩
      · exact absurd e h0
      · exact absurd e hx
  rcases hp with ⟨rfl, rfl⟩ | ⟨hs, hp⟩
  · obtain ⟨A, B, e, h1, h2, h3⟩ := h.fl.leaf i
    refine ⟨A, B, e, fun x hx h0 => ?_, fun j y hi hy => take_last h1 j y hi hy, fun _ e => by omega, fun hi _ => by subst hi; exact h1.nil_of, fun _ _ e => absurd rfl e⟩
    rw [setK_same]
    exact h3 _ x (fun y hy => setK_other fun e => h.zero (e ▸ hy)) (hx0 x hx h0 h0 1) (hx0 x hx h0 h0 2)
  · obtain ⟨U, V, A, B, hL, hA, hB, hR⟩ := h.fl.at hp
    have hnd := h.nodup
    rw [hL] at hnd
    obtain ⟨n1, n2, n3⟩ := nodup_mid hnd
    have hp0 : p ≠ (0, 0) := fun e => h.zero (e ▸ hp)
    have hxp : ∀ x, x ∉ S.L → x ≠ p := fun x hx e => hx (e ▸ hp)
    rcases hs with rfl | rfl
    · obtain ⟨A1, A2, rfl, h1, h2, h3⟩ := hA.leaf i
      refine ⟨U ++ A1, A2 ++ p :: B ++ V, by rw [hL]; simp, fun x hx h0 => ?_, fun j y hi hy => ?_, fun hi _ => ?_, fun _ e => absurd e hp0, fun _ e => by omega⟩
      · have := hR (setK S.K p 1 (insAt (S.K p 1) i x)) (A1 ++ x :: A2) B (fun y hy => setK_other (n1 y hy)) (by
          rw [setK_same]
          exact h3 _ x (fun y hy => setK_other (n2 y hy)) (hx0 x hx h0 (hxp x hx) 1) (hx0 x hx h0 (hxp x hx) 2)) (by
          rw [setK_side (by decide)]
          exact hB.congr fun y hy => setK_other (n3 y hy))
        rw [setK_other (fun e => hp0 e.symm)]
        simpa using this
      · obtain ⟨z, A', D, rfl, h4⟩ := take_last h1 j y hi hy
        exact ⟨z, U ++ A', D, by simp, h4⟩
      · subst hi
        obtain rfl := h1.nil_of
        have : Fl S.K [p] (A2 ++ p :: (B ++ [])) := .cons hA hB .nil
        cases A2 with
        | nil => exact ⟨p, _, _, rfl, this⟩
        | cons z A2 => exact ⟨z, _, _, rfl, this⟩
    · obtain ⟨B1, B2, rfl, h1, h2, h3⟩ := hB.leaf i
      refine ⟨U ++ A ++ p :: B1, B2 ++ V, by rw [hL]; simp, fun x hx h0 => ?_, fun j y hi hy => ?_, fun _ e => by omega, fun _ e => absurd e hp0, fun hi _ _ => ?_⟩
      · have := hR (setK S.K p 2 (insAt (S.K p 2) i x)) A (B1 ++ x :: B2) (fun y hy => setK_other (n1 y hy)) (by
          rw [setK_side (by decide)]
          exact hA.congr fun y hy => setK_other (n2 y hy)) (by
          rw [setK_same]
          exact h3 _ x (fun y hy => setK_other (n3 y hy)) (hx0 x hx h0 (hxp x hx) 1) (hx0 x hx h0 (hxp x hx) 2))
        rw [setK_other (fun e => hp0 e.symm)]
        simpa using this
      · obtain ⟨z, A', D, rfl, h4⟩ := take_last h1 j y hi hy
        exact ⟨z, U ++ A ++ p :: A', D, by simp, h4⟩
      · subst hi
        obtain rfl := h1.nil_of
        exact ⟨U ++ A, by simp⟩
def setC (f : St → Int) (x : St) (c : Int) : St → Int := fun y => if y = x then c else f y
/-- one put in -/
def Tx.ins (S : Tx) (x p : St) (s c : Int) (i : Nat) (A B : List St) : Tx := ⟨setK S.K p s (insAt (S.K p s) i x), setC S.ch x c, S.gone, A ++ x :: B⟩
theorem Tx.Ok.ins {S : Tx} (h : S.Ok) {x p : St} {s c : Int} {i : Nat} {A B : List St} (hx : x ∉ S.L) (hr : rightB x.1 x.2 = true) (hp : Spot S.L p s) (hi : IsAt (S.K p s) x i) (hP : Put S.K S.L p s i A B) : (S.ins x p s c i A B).Ok := by
  have hm : ∀ y, y ∈ A ++ x :: B ↔ y = x ∨ y ∈ S.L := fun y => by
    rw [hP.eq]; simp only [List.mem_append, List.mem_cons]
    constructor <;> (rintro (h | h | h) <;> simp [h])
  refine ⟨hP.new x hx (right_ne hr), ?_, fun y hy => ?_, fun q u => ?_, fun q u y hy => ?_, fun q u hq => ?_, fun y hy => (hm y).2 (.inr (h.gone y hy))⟩
  · show (A ++ x :: B).Nodup
    have hn := h.nodup
    rw [hP.eq] at hn hx
    simp only [List.mem_append, not_or] at hx
    obtain ⟨a, b, c⟩ := List.nodup_append.1 hn
    refine List.nodup_append.2 ⟨a, List.nodup_cons.2 ⟨hx.2, b⟩, fun y hy z hz => ?_⟩
    rcases List.mem_cons.1 hz with rfl | hz
    · exact fun e => hx.1 (e ▸ hy)
    · exact c y hy z hz
  · rcases (hm y).1 hy with rfl | hy
    · exact hr
    · exact h.right y hy
  · show (setK S.K p s (insAt (S.K p s) i x) q u).Pairwise ltS
    unfold setK
    split
    · exact hi.sorted (h.sorted p s)
    · exact h.sorted q u
  · refine (hm y).2 ?_
    change y ∈ setK S.K p s (insAt (S.K p s) i x) q u at hy
    unfold setK at hy
    split at hy
    · exact (mem_insAt.1 hy).imp id (h.kid p s y)
    · exact .inr (h.kid q u y hy)
  · change setK S.K p s (insAt (S.K p s) i x) q u ≠ [] at hq
    have key : Spot S.L q u := by
      unfold setK at hq
      split at hq
      · rename_i e; obtain ⟨rfl, rfl⟩ := e; exact hp
      · exact h.par q u hq
    exact key.imp id (fun k => ⟨k.1, (hm q).2 (.inr k.2)⟩)
/-- one taken away -/
def Tx.del (S : Tx) (x : St) : Tx := ⟨S.K, S.ch, setH S.gone x true, S.L⟩
theorem Tx.Ok.del {S : Tx} (h : S.Ok) {x : St} (hx : x ∈ S.L) : (S.del x).Ok :=
  ⟨h.fl, h.nodup, h.right, h.sorted, h.kid, h.par, fun y hy => by
    change setH S.gone x true y = true at hy
    unfold setH at hy
    split at hy
    · rename_i e; rw [e]; exact hx
    · exact h.gone y hy⟩
def Tx.new : Tx := ⟨fun _ _ => [], fun _ => 0, fun _ => false, []⟩
theorem Tx.new_ok : Tx.new.Ok := ⟨.nil, List.nodup_nil, fun _ h => (by cases h), fun _ _ => List.Pairwise.nil, fun _ _ _ h => (by cases h), fun _ _ h => absurd rfl h, fun _ h => (by cases h)⟩
end Go.Proofs.Ytohpablkgfkelaa
