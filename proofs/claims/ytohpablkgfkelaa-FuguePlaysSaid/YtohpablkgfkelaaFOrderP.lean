/- ONE ORDER, HOWEVER IT CAME: plain. -/
import Derived.Test.YtohpablkgfkelaaFTold
namespace Go.Proofs.Ytohpablkgfkelaa
open Go.RowKit Go.Joins
set_option linter.unusedSimpArgs false
set_option linter.unusedVariables false

theorem Came.del {l : List ActG} {S : Tx} (h : Came l S) : ∀ (i : Nat) (a : ActG), l[i]? = some a → a.kd = 2 → ∃ (j : Nat) (b : ActG), j < i ∧ l[j]? = some b ∧ b.kd = 1 ∧ b.id = a.id := by
  induction h with
  | nil => intro i a h; simp at h
  | @step l S S' a h hs ih =>
    intro i b hi hb
    have hl : ∀ {i : Nat} {b : ActG}, l[i]? = some b → (l ++ [a])[i]? = some b := fun {i b} hb => by
      rw [List.getElem?_append_left (List.getElem?_eq_some_iff.1 hb).1]; exact hb
    rcases get_snoc hi with hi2 | ⟨hi2, hi3⟩
    · obtain ⟨j, c, h1, h2, h3⟩ := ih i b hi2 hb
      exact ⟨j, c, h1, hl h2, h3⟩
    · subst hi3
      rcases hs with ⟨h1, _⟩ | ⟨_, hm, _⟩
      · omega
      · obtain ⟨c, hc, h1, h2⟩ := (h.told.mem b.id).1 hm
        obtain ⟨j, hj⟩ := List.mem_iff_getElem?.1 hc
        exact ⟨j, c, by rw [hi2]; exact (List.getElem?_eq_some_iff.1 hj).1, hl hj, h1, h2⟩
/-- it can be done now -/
def Can (U : Tx) (a : ActG) : Prop := (a.kd = 1 ∧ InsOk U a.id a.par a.side) ∨ (a.kd = 2 ∧ a.id ∈ U.L)
/-- some are done, some are left -/
structure Rest (l d m : List ActG) : Prop where
  all : ∀ a ∈ l, a ∈ d ∨ a ∈ m
  sub : m.Sublist l
  done : ∀ a ∈ d, a ∈ l
  one : ∀ a, a.kd = 1 → a ∈ d → a ∉ m
theorem Rest.start (l : List ActG) : Rest l [] l := ⟨fun a h => .inr h, List.Sublist.refl _, fun a h => (by cases h), fun a _ h => (by cases h)⟩
theorem sub_uniq {l m : List ActG} (h : m.Sublist l) (hu : ∀ (i j : Nat) (a b : ActG), l[i]? = some a → l[j]? = some b → a.kd = 1 → b.kd = 1 → a.id = b.id → i = j) : ∀ (i j : Nat) (a b : ActG), m[i]? = some a → m[j]? = some b → a.kd = 1 → b.kd = 1 → a.id = b.id → i = j := by
  induction h with
  | slnil => intro i j a b h; simp at h
  | @cons m l x h ih =>
    exact ih fun i j a b hi hj h1 h2 h3 => by
      have := hu (i + 1) (j + 1) a b (by simpa using hi) (by simpa using hj) h1 h2 h3
      omega
  | @cons_cons m l x h ih =>
    have ih := ih fun i j a b hi hj h1 h2 h3 => by
      have := hu (i + 1) (j + 1) a b (by simpa using hi) (by simpa using hj) h1 h2 h3
      omega
    have key : ∀ (i : Nat) (b : ActG), m[i]? = some b → x.kd = 1 → b.kd = 1 → x.id = b.id → False := fun i b hi h1 h2 h3 => by
      obtain ⟨j, hj⟩ := List.mem_iff_getElem?.1 (h.subset (List.mem_of_getElem? hi))
      have := hu 0 (j + 1) x b (by simp) (by simpa using hj) h1 h2 h3
      omega
    intro i j a b hi hj h1 h2 h3
    cases i with
    | zero =>
      simp at hi
      subst hi
      cases j with
      | zero => rfl
      | succ j => exact (key j b (by simpa using hj) h1 h2 h3).elim
    | succ i =>
      cases j with
      | zero =>
        simp at hj
        subst hj
        exact (key i a (by simpa using hi) h2 h1 h3.symm).elim
      | succ j =>
        have := ih i j a b (by simpa using hi) (by simpa using hj) h1 h2 h3
        omega
theorem Rest.step {l d m : List ActG} (h : Rest l d m) (hu : ∀ (i j : Nat) (a b : ActG), l[i]? = some a → l[j]? = some b → a.kd = 1 → b.kd = 1 → a.id = b.id → i = j) {k : Nat} {a : ActG} (ha : m[k]? = some a) : Rest l (d ++ [a]) (m.take k ++ m.drop (k + 1)) := by
  obtain ⟨hk, hka⟩ := List.getElem?_eq_some_iff.1 ha
  have hm : m = m.take k ++ a :: m.drop (k + 1) := by rw [← hka, ← List.drop_eq_getElem_cons hk, List.take_append_drop]
  have hs : (m.take k ++ m.drop (k + 1)).Sublist m := by
    conv => rhs; rw [hm]
    exact List.Sublist.append_left (List.sublist_cons_self _ _) _
  refine ⟨fun b hb => ?_, hs.trans h.sub, fun b hb => ?_, fun b hb hd hmb => ?_⟩
  · rcases h.all b hb with h1 | h1
    · exact .inl (by simp [h1])
    · rw [hm] at h1
      simp only [List.mem_append, List.mem_cons] at h1 ⊢
      rcases h1 with h1 | h1 | h1
      · exact .inr (.inl h1)
      · exact .inl (.inr (.inl h1))
      · exact .inr (.inr h1)
  · rcases List.mem_append.1 hb with hb | hb
    · exact h.done b hb
    · simp at hb; subst hb; exact h.sub.subset (List.mem_of_getElem? ha)
  · rcases List.mem_append.1 hd with hd | hd
    · exact h.one b hb hd (hs.subset hmb)
    · simp at hd
      subst hd
      obtain ⟨j, hj⟩ := List.mem_iff_getElem?.1 hmb
      have hsu := sub_uniq h.sub hu
      rcases Nat.lt_or_ge j k with e | e
      · rw [List.getElem?_append_left (by simp; omega), List.getElem?_take, if_pos e] at hj
        have := hsu j k b b hj ha hb hb rfl
        omega
      · have hlen : (m.take k).length = k := by simp; omega
        rw [List.getElem?_append_right (by omega), hlen, List.getElem?_drop] at hj
        have := hsu _ k b b hj ha hb hb rfl
        omega
/-- the first of what is left can be done -/
theorem Rest.can {l d m : List ActG} {S U : Tx} (h : Rest l d m) (hl : Came l S) (hd : Came d U) {a : ActG} (ha : m[0]? = some a) : Can U a := by
  have hT := hl.told
  have hU := hd.told
  cases m with
  | nil => simp at ha
  | cons a' m' =>
    simp at ha
    subst ha
    obtain ⟨r1, r2, rfl, h1, h2⟩ := List.cons_sublist_iff.1 h.sub
    obtain ⟨p, q, rfl⟩ := List.append_of_mem h1
    have hidx : (p ++ a' :: q ++ r2)[p.length]? = some a' := by
      rw [List.append_assoc, List.getElem?_append_right (Nat.le_refl _)]; simp
    have hb : ∀ (j : Nat) (b : ActG), j < p.length → (p ++ a' :: q ++ r2)[j]? = some b → b.kd = 1 → b ∈ d := fun j b hj hjb hb1 => by
      rcases h.all b (List.mem_of_getElem? hjb) with e | e
      · exact e
      · exfalso
        rcases List.mem_cons.1 e with e | e
        · subst e
          have := hT.uniq j p.length b b hjb hidx hb1 hb1 rfl
          omega
        · obtain ⟨i, hi⟩ := List.mem_iff_getElem?.1 (h2.subset e)
          have hi2 : (p ++ a' :: q ++ r2)[(p ++ a' :: q).length + i]? = some b := by
            rw [List.getElem?_append_right (by omega), ← hi]; congr 1; omega
          have := hT.uniq j _ b b hjb hi2 hb1 hb1 rfl
          simp at this
          omega
    have ham : a' ∈ p ++ a' :: q ++ r2 := List.mem_of_getElem? hidx
    rcases hT.kd a' ham with hk | hk
    · refine .inl ⟨hk, hT.arg a' ham hk, fun hm => ?_, ?_⟩
      · obtain ⟨b, hbd, b1, b2⟩ := (hU.mem _).1 hm
        obtain ⟨j, hj⟩ := List.mem_iff_getElem?.1 (h.done b hbd)
        have e := hT.uniq j p.length b a' hj hidx b1 hk b2
        rw [e, hidx] at hj
        obtain rfl := Option.some.inj hj
        exact h.one a' hk hbd (by simp)
      · rcases hT.early p.length a' hidx hk with e | ⟨j, b, hj, hjb, b1, b2⟩
        · exact .inl e
        · exact .inr ((hU.mem _).2 ⟨b, hb j b hj hjb b1, b1, b2⟩)
    · obtain ⟨j, b, hj, hjb, b1, b2⟩ := hl.del p.length a' hidx hk
      exact .inr ⟨hk, (hU.mem _).2 ⟨b, hb j b hj hjb b1, b1, b2⟩⟩
/-- told by the same acts, they are one -/
theorem told_same {l d : List ActG} {S U : Tx} (h : Told l S) (hU : Told d U) (hm : ∀ a, a ∈ d ↔ a ∈ l) : S.els = U.els ∧ cnt S.gone S.L = cnt U.gone U.L := by
  have hK : S.K = U.K := by
    funext p s
    refine sorted_eq (h.ok.sorted p s) (hU.ok.sorted p s) fun y => ?_
    rw [h.kid, hU.kid]
    constructor
    · rintro ⟨a, ha, r⟩; exact ⟨a, (hm a).2 ha, r⟩
    · rintro ⟨a, ha, r⟩; exact ⟨a, (hm a).1 ha, r⟩
  have hL : S.L = U.L := by
    have h1 := h.ok.fl
    rw [hK] at h1
    exact h1.det hU.ok.fl
  have hg : S.gone = U.gone := by
    funext y
    rw [Bool.eq_iff_iff, h.gone, hU.gone]
    constructor
    · rintro ⟨a, ha, r⟩; exact ⟨a, (hm a).2 ha, r⟩
    · rintro ⟨a, ha, r⟩; exact ⟨a, (hm a).1 ha, r⟩
  refine ⟨?_, by rw [hL, hg]⟩
  unfold Tx.els
  rw [← hL]
  refine List.map_congr_left fun y hy => ?_
  obtain ⟨a, ha, h1, h2⟩ := (h.mem y).1 hy
  have e1 := h.ch a ha h1
  have e2 := hU.ch a ((hm a).2 ha) h1
  rw [h2] at e1 e2
  unfold Tx.el
  rw [e1, e2, hg]
end Go.Proofs.Ytohpablkgfkelaa
