/- THE DOCUMENT's TEXT, plain: a list of items tells a text. -/
import Derived.Test.YtohpablkgfkelaaFTold
namespace Go.Proofs.Ytohpablkgfkelaa
open Go.RowKit Go.Joins
set_option linter.unusedSimpArgs false
set_option linter.unusedVariables false

/-- an element, and where it hangs -/
structure It where
  e : El
  par : St
  side : Int
deriving DecidableEq
/-- a list of items, and the text that it tells -/
structure Ref (I : List It) (S : Tx) : Prop where
  ok : S.Ok
  kid : ∀ p s y, y ∈ S.K p s ↔ ∃ a ∈ I, a.e.k = y ∧ a.par = p ∧ a.side = s
  mem : ∀ y, y ∈ S.L ↔ y ∈ I.map (·.e.k)
  el : ∀ a ∈ I, a.e = S.el a.e.k
  uniq : (I.map (·.e.k)).Nodup
theorem Ref.new : Ref [] Tx.new := ⟨Tx.new_ok, fun p s y => by simp [Tx.new], fun y => by simp [Tx.new], fun a h => (by cases h), List.nodup_nil⟩
theorem Ref.length {I : List It} {S : Tx} (h : Ref I S) : I.length = S.L.length := by
  have h1 : ∀ x ∈ I.map (·.e.k), x ∈ S.L := fun x hx => (h.mem x).2 hx
  have h2 : ∀ x ∈ S.L, x ∈ I.map (·.e.k) := fun x hx => (h.mem x).1 hx
  have le : ∀ {l m : List St}, l.Nodup → (∀ x ∈ l, x ∈ m) → l.length ≤ m.length := fun {l m} hn hs => by
    induction l generalizing m with
    | nil => exact Nat.zero_le _
    | cons x l ih =>
      obtain ⟨n1, n2⟩ := List.nodup_cons.1 hn
      have hx := hs x (by simp)
      have := ih (m := m.erase x) n2 (fun y hy => (List.mem_erase_of_ne (fun e => n1 (by rw [← e]; exact hy))).2 (hs y (by simp [hy])))
      have hl := List.length_erase_of_mem hx
      have := List.length_pos_of_mem hx
      simp
      omega
  have a := le h.uniq h1
  have b := le h.ok.nodup h2
  simp at a b
  omega
/-- Insert -/
theorem Ref.ins {I : List It} {S S' : Tx} (h : Ref I S) {x p : St} {s c : Int} (hi : InsOk S x p s) (hs : Stp S x p s c S') : Ref (I ++ [⟨⟨x, c, false⟩, p, s⟩]) S' := by
  have hok' := hs.ok h.ok
  rcases hs with ⟨hno, _⟩ | ⟨_, A, B, hP, rfl⟩
  · exact absurd hi hno
  have hmm : ∀ y, y ∈ A ++ x :: B ↔ y = x ∨ y ∈ S.L := fun y => by
    rw [hP.eq, List.mem_append, List.mem_append, List.mem_cons]; constructor <;> (rintro (h | h | h) <;> simp [h])
  have hg : S.gone x = false := by
    cases hg : S.gone x
    · rfl
    · exact absurd (h.ok.gone x hg) hi.2.1
  refine ⟨hok', fun q u y => ?_, fun y => ?_, fun a ha => ?_, ?_⟩
  · show y ∈ setK S.K p s (insAt (S.K p s) _ x) q u ↔ _
    unfold setK
    by_cases e : q = p ∧ u = s
    · rw [if_pos e, mem_insAt]
      obtain ⟨rfl, rfl⟩ := e
      rw [h.kid]
      constructor
      · rintro (rfl | ⟨b, hb, h1, h2, h3⟩)
        · exact ⟨⟨⟨y, c, false⟩, q, u⟩, by simp, rfl, rfl, rfl⟩
        · exact ⟨b, by simp [hb], h1, h2, h3⟩
      · rintro ⟨b, hb, h1, h2, h3⟩
        rcases List.mem_append.1 hb with hb | hb
        · exact .inr ⟨b, hb, h1, h2, h3⟩
        · simp at hb; subst hb; exact .inl h1.symm
    · rw [if_neg e, h.kid]
      constructor
      · rintro ⟨b, hb, h1, h2, h3⟩
        exact ⟨b, by simp [hb], h1, h2, h3⟩
      · rintro ⟨b, hb, h1, h2, h3⟩
        rcases List.mem_append.1 hb with hb | hb
        · exact ⟨b, hb, h1, h2, h3⟩
        · simp at hb; subst hb; exact absurd ⟨h2.symm, h3.symm⟩ e
  · show y ∈ A ++ x :: B ↔ _
    rw [hmm, h.mem, List.map_append, List.mem_append]
    simp [or_comm]
  · rcases List.mem_append.1 ha with ha | ha
    · have hne : a.e.k ≠ x := fun e => hi.2.1 (by rw [← e, h.mem]; exact List.mem_map_of_mem ha)
      have := h.el a ha
      unfold Tx.el Tx.ins setC at *
      simp only [if_neg hne]
      exact this
    · simp at ha
      subst ha
      unfold Tx.el Tx.ins setC
      simp [hg]
  · rw [List.map_append, List.nodup_append]
    refine ⟨h.uniq, by simp, fun y hy z hz => ?_⟩
    simp at hz
    subst hz
    exact fun e => hi.2.1 (by rw [← e, h.mem]; exact hy)
/-- Delete -/
def goneI (I : List It) (x : St) : List It := I.map fun a => if a.e.k = x then { a with e := { a.e with g := true } } else a
theorem goneI_keys (I : List It) (x : St) : (goneI I x).map (·.e.k) = I.map (·.e.k) := by
  unfold goneI
  rw [List.map_map]
  refine List.map_congr_left fun a ha => ?_
  simp only [Function.comp]
  split <;> rfl
theorem Ref.del {I : List It} {S : Tx} (h : Ref I S) {x : St} (hx : x ∈ S.L) : Ref (goneI I x) (S.del x) := by
  refine ⟨h.ok.del hx, fun q u y => ?_, fun y => ?_, fun a ha => ?_, by rw [goneI_keys]; exact h.uniq⟩
  · show y ∈ S.K q u ↔ _
    rw [h.kid]
    unfold goneI
    constructor
    · rintro ⟨b, hb, h1, h2, h3⟩
      refine ⟨_, List.mem_map_of_mem hb, ?_⟩
      split <;> exact ⟨h1, h2, h3⟩
    · rintro ⟨b, hb, h1, h2, h3⟩
      obtain ⟨c, hc, rfl⟩ := List.mem_map.1 hb
      refine ⟨c, hc, ?_⟩
      split at h1 <;> split at h2 <;> split at h3 <;> first | exact ⟨h1, h2, h3⟩ | contradiction
  · show y ∈ S.L ↔ _
    rw [h.mem, goneI_keys]
  · unfold goneI at ha
    obtain ⟨c, hc, rfl⟩ := List.mem_map.1 ha
    have := h.el c hc
    have e1 : c.e.c = S.ch c.e.k := congrArg El.c this
    have e2 : c.e.g = S.gone c.e.k := congrArg El.g this
    by_cases e : c.e.k = x
    · simp only [if_pos e]
      show (⟨c.e.k, c.e.c, true⟩ : El) = ⟨c.e.k, S.ch c.e.k, if c.e.k = x then true else S.gone c.e.k⟩
      rw [if_pos e, e1]
    · simp only [if_neg e]
      show c.e = ⟨c.e.k, S.ch c.e.k, if c.e.k = x then true else S.gone c.e.k⟩
      rw [if_neg e]
      exact this
end Go.Proofs.Ytohpablkgfkelaa
