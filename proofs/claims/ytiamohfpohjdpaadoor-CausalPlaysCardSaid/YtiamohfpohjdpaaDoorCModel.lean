/- CAUSAL DELIVERY, plain: what a store has, what Add does, and the laws of it; no program in sight. -/
import Derived.Test.YtiamohfpohjdpaaDoorBase
namespace Go.Proofs.YtiamohfpohjdpaaDoor.Cz
set_option linter.unusedVariables false
set_option linter.unusedSimpArgs false

theorem snoc_ind {α : Type} {P : List α → Prop} (h0 : P []) (h1 : ∀ L x, P L → P (L ++ [x])) (L : List α) : P L := by
  have : ∀ L : List α, P L.reverse := fun L => by
    induction L with
    | nil => exact h0
    | cons x L ih => rw [List.reverse_cons]; exact h1 _ _ ih
  have h := this L.reverse
  rwa [List.reverse_reverse] at h
/-- an operation: its stamp, on what it leans, whether it may be -/
structure CM (α : Type) where
  id : α → Int × Int
  dep : α → Int → Int
  ok : α → Prop
  num : ∀ o, ok o → 1 ≤ (id o).1
  rep : ∀ o, ok o → 0 ≤ (id o).2 ∧ (id o).2 < 8
  pos : ∀ o, ok o → ∀ r, 0 ≤ r → r < 8 → 0 ≤ dep o r ∧ dep o r < (id o).1
variable {α : Type} (M : CM α)
def known (L : List α) (r : Int) : Int := L.foldl (fun v o => if (M.id o).2 = r then max v (M.id o).1 else v) 0
theorem known_nil (r : Int) : known M [] r = 0 := rfl
theorem known_app (L : List α) (o : α) (r : Int) : known M (L ++ [o]) r = if (M.id o).2 = r then max (known M L r) (M.id o).1 else known M L r := by
  unfold known; rw [List.foldl_append]; rfl
def ids (L : List α) : List (Int × Int) := L.map M.id
def Ready (A : List α) (o : α) : Prop := (∀ r, 0 ≤ r → r < 8 → M.dep o r ≠ 0 → (M.dep o r, r) ∈ ids M A) ∧ M.dep o (M.id o).2 = known M A (M.id o).2
def Late (A : List α) (o : α) : Prop := (∃ r, 0 ≤ r ∧ r < 8 ∧ M.dep o r ≠ 0 ∧ M.dep o r ≤ known M A r ∧ (M.dep o r, r) ∉ ids M A) ∨ M.dep o (M.id o).2 < known M A (M.id o).2
/-- one by one, the first that is ready, until none is -/
inductive Drain : List α → List α → List α → List α → Prop
  | stop {A W : List α} : (∀ x ∈ W, ¬ Ready M A x) → Drain A W A W
  | step {A U V A' W' : List α} {x : α} : (∀ u ∈ U, ¬ Ready M A u) → Ready M A x → Drain (A ++ [x]) (U ++ V) A' W' → Drain A (U ++ x :: V) A' W'
/-- each was ready when it came -/
def Valid (A : List α) : Prop := ∀ P x Q, A = P ++ x :: Q → M.ok x ∧ Ready M P x
variable {M}
theorem known_ge {L : List α} {o : α} (h : o ∈ L) : (M.id o).1 ≤ known M L (M.id o).2 := by
  revert h
  refine snoc_ind (P := fun L => o ∈ L → (M.id o).1 ≤ known M L (M.id o).2) (fun h => by cases h) (fun L x ih h => ?_) L
  rw [known_app]
  rcases List.mem_append.1 h with h | h
  · have := ih h
    split <;> omega
  · simp at h
    subst h
    rw [if_pos rfl]
    omega
theorem known_at (L : List α) (r : Int) : known M L r = 0 ∨ ∃ z ∈ L, (M.id z).2 = r ∧ (M.id z).1 = known M L r := by
  refine snoc_ind (P := fun L => known M L r = 0 ∨ ∃ z ∈ L, (M.id z).2 = r ∧ (M.id z).1 = known M L r) (.inl rfl) (fun L x ih => ?_) L
  rw [known_app]
  by_cases hx : (M.id x).2 = r
  · rw [if_pos hx]
    by_cases hm : known M L r ≤ (M.id x).1
    · right
      exact ⟨x, by simp, hx, by omega⟩
    · rw [show max (known M L r) (M.id x).1 = known M L r by omega]
      rcases ih with h | ⟨z, hz, h1, h2⟩
      · exact .inl h
      · exact .inr ⟨z, by simp [hz], h1, h2⟩
  · rw [if_neg hx]
    rcases ih with h | ⟨z, hz, h1, h2⟩
    · exact .inl h
    · exact .inr ⟨z, by simp [hz], h1, h2⟩
theorem known_pos (L : List α) (r : Int) : 0 ≤ known M L r := by
  refine snoc_ind (P := fun L => 0 ≤ known M L r) (by simp [known_nil]) (fun L x ih => ?_) L
  rw [known_app]
  split <;> omega
/-- what is known hangs on who is there alone -/
theorem known_le {L K : List α} (h : ∀ x ∈ L, x ∈ K) (r : Int) : known M L r ≤ known M K r := by
  rcases known_at (M := M) L r with h0 | ⟨z, hz, h1, h2⟩
  · rw [h0]; exact known_pos K r
  · rw [← h2, ← h1]; exact known_ge (h z hz)
theorem known_same {L K : List α} (h : ∀ x, x ∈ L ↔ x ∈ K) (r : Int) : known M L r = known M K r := by
  have a := known_le (M := M) (fun x hx => (h x).1 hx) r
  have b := known_le (M := M) (fun x hx => (h x).2 hx) r
  omega
theorem mem_ids {L : List α} {p : Int × Int} : p ∈ ids M L ↔ ∃ x ∈ L, M.id x = p := by simp [ids]
theorem ids_app (L K : List α) : ids M (L ++ K) = ids M L ++ ids M K := by simp [ids]
theorem id_inj {L : List α} (hn : (ids M L).Nodup) {x y : α} (hx : x ∈ L) (hy : y ∈ L) (h : M.id x = M.id y) : x = y := by
  unfold ids at hn
  revert hn hx hy
  induction L with
  | nil => exact fun _ hx => by cases hx
  | cons a L ih =>
    intro hn hx hy
    rw [List.map_cons, List.nodup_cons] at hn
    by_cases ha : x = a
    · by_cases hb : y = a
      · rw [ha, hb]
      · have hy2 := (List.mem_cons.1 hy).resolve_left hb
        exact absurd (by rw [← ha, h]; exact List.mem_map_of_mem hy2) hn.1
    · have hx2 := (List.mem_cons.1 hx).resolve_left ha
      by_cases hb : y = a
      · exact absurd (by rw [← hb, ← h]; exact List.mem_map_of_mem hx2) hn.1
      · exact ih hn.2 hx2 ((List.mem_cons.1 hy).resolve_left hb)
theorem Valid.nil : Valid M [] := fun P x Q h => by simp at h
theorem Valid.snoc {A : List α} {o : α} (h : Valid M A) (hk : M.ok o) (hr : Ready M A o) : Valid M (A ++ [o]) := fun P x Q e => by
  rcases List.eq_nil_or_concat Q with rfl | ⟨Q', y, rfl⟩
  · obtain ⟨rfl, e2⟩ := List.append_inj' e rfl
    cases e2
    exact ⟨hk, hr⟩
  · rw [List.concat_eq_append, ← List.cons_append, ← List.append_assoc] at e
    obtain ⟨e1, _⟩ := List.append_inj' e rfl
    exact h P x Q' e1
theorem Valid.init {A : List α} {o : α} (h : Valid M (A ++ [o])) : Valid M A ∧ M.ok o ∧ Ready M A o :=
  ⟨fun P x Q e => h P x (Q ++ [o]) (by rw [e]; simp), h A o [] rfl⟩
theorem Valid.ok {A : List α} (h : Valid M A) {x : α} (hx : x ∈ A) : M.ok x := by
  obtain ⟨P, Q, e⟩ := List.append_of_mem hx
  exact (h P x Q e).1
/-- behind an operation come greater ones of its replica -/
theorem Valid.rise {D P Q : List α} {x y : α} (h : Valid M D) (e : D = P ++ x :: Q) (hy : y ∈ Q) (hr : (M.id y).2 = (M.id x).2) : (M.id x).1 < (M.id y).1 := by
  obtain ⟨Q1, Q2, rfl⟩ := List.append_of_mem hy
  have hv := h (P ++ x :: Q1) y Q2 (by rw [e]; simp)
  have h1 := hv.2.2
  have hk := known_ge (M := M) (L := P ++ x :: Q1) (o := x) (by simp)
  have hp := (M.pos y hv.1 _ (M.rep y hv.1).1 (M.rep y hv.1).2).2
  rw [hr] at h1 hp
  omega
/-- ahead of it all that it leans on of its own replica, and no more -/
theorem Valid.ahead {D P Q : List α} {x y : α} (h : Valid M D) (e : D = P ++ x :: Q) (hy : y ∈ P) (hr : (M.id y).2 = (M.id x).2) : (M.id y).1 < (M.id x).1 := by
  have hv := h P x Q e
  have h1 := hv.2.2
  have hk := known_ge (M := M) hy
  have hp := (M.pos x hv.1 _ (M.rep x hv.1).1 (M.rep x hv.1).2).2
  rw [hr] at hk
  omega
/-- of each replica, what was delivered of a valid row is its beginning -/
theorem begins {D : List α} (hD : Valid M D) (hn : (ids M D).Nodup) : ∀ {A : List α}, Valid M A → (∀ x ∈ A, x ∈ D) → ∀ x ∈ A, ∀ y ∈ D, (M.id y).2 = (M.id x).2 → (M.id y).1 ≤ (M.id x).1 → y ∈ A := by
  intro A
  refine snoc_ind (P := fun A => Valid M A → (∀ x ∈ A, x ∈ D) → ∀ x ∈ A, ∀ y ∈ D, (M.id y).2 = (M.id x).2 → (M.id y).1 ≤ (M.id x).1 → y ∈ A) (fun _ _ x hx => by cases hx) (fun A a ih hA hs x hx y hy hr hle => ?_) A
  obtain ⟨hA1, hok, hrd⟩ := hA.init
  have hs1 : ∀ x ∈ A, x ∈ D := fun x hx => hs x (by simp [hx])
  rcases List.mem_append.1 hx with hx | hx
  · exact List.mem_append.2 (.inl (ih hA1 hs1 x hx y hy hr hle))
  · simp at hx
    subst hx
    obtain ⟨P, Q, e⟩ := List.append_of_mem (hs x (by simp))
    have hv := hD P x Q e
    rw [e] at hy
    rcases List.mem_append.1 hy with hyP | hy
    · -- ahead
      have h1 := known_ge (M := M) hyP
      rw [hr, ← hv.2.2, hrd.2] at h1
      rcases known_at (M := M) A (M.id x).2 with h0 | ⟨z, hz, hz1, hz2⟩
      · have := M.num y (hD.ok (by rw [e]; simp [hyP]))
        omega
      · exact List.mem_append.2 (.inl (ih hA1 hs1 z hz y (by rw [e]; simp [hyP]) (by rw [hr, hz1]) (by omega)))
    · rcases List.mem_cons.1 hy with rfl | hyQ
      · simp
      · have := hD.rise e hyQ hr
        omega
/-- none of a valid row is late -/
theorem not_late {D A : List α} (hD : Valid M D) (hn : (ids M D).Nodup) (hA : Valid M A) (hs : ∀ x ∈ A, x ∈ D) {o : α} (ho : o ∈ D) (hno : o ∉ A) : ¬ Late M A o := by
  obtain ⟨P, Q, e⟩ := List.append_of_mem ho
  have hv := hD P o Q e
  have hb := begins hD hn hA hs
  rintro (⟨r, hr0, hr8, hne, hle, hm⟩ | hlt)
  · have h1 := hv.2.1 r hr0 hr8 hne
    obtain ⟨y, hy, hy1⟩ := mem_ids.1 h1
    have hyD : y ∈ D := by rw [e]; simp [hy]
    have hp := (M.pos o hv.1 r hr0 hr8).1
    rcases known_at (M := M) A r with h0 | ⟨z, hz, hz1, hz2⟩
    · omega
    · exact hm (mem_ids.2 ⟨y, hb z hz y hyD (by rw [hy1, hz1]) (by rw [hy1, hz2]; exact hle), hy1⟩)
  · rcases known_at (M := M) A (M.id o).2 with h0 | ⟨z, hz, hz1, hz2⟩
    · have hp := (M.pos o hv.1 _ (M.rep o hv.1).1 (M.rep o hv.1).2).1
      omega
    · have hzD := hs z hz
      rw [e] at hzD
      rcases List.mem_append.1 hzD with h | h
      · have := known_ge (M := M) h
        rw [hz1, ← hv.2.2] at this
        omega
      · rcases List.mem_cons.1 h with rfl | h
        · exact hno hz
        · have := hD.rise e h hz1
          exact hno (hb z hz o ho hz1.symm (by omega))
/-- the next one of a valid row is ready -/
theorem next_ready {D A P Q : List α} {o : α} (hD : Valid M D) (hn : (ids M D).Nodup) (hA : Valid M A) (hs : ∀ x ∈ A, x ∈ D) (e : D = P ++ o :: Q) (hP : ∀ x ∈ P, x ∈ A) (hno : o ∉ A) : Ready M A o := by
  have hv := hD P o Q e
  refine ⟨fun r h0 h8 hne => ?_, ?_⟩
  · obtain ⟨y, hy, hy1⟩ := mem_ids.1 (hv.2.1 r h0 h8 hne)
    exact mem_ids.2 ⟨y, hP y hy, hy1⟩
  · have h1 := known_le (M := M) hP (M.id o).2
    have h2 := not_late hD hn hA hs (o := o) (by rw [e]; simp) hno
    have h3 : ¬ M.dep o (M.id o).2 < known M A (M.id o).2 := fun h => h2 (.inr h)
    have h4 := hv.2.2
    omega
/-- what the drain does -/
structure Drn (A W A' W' : List α) : Prop where
  perm : (A' ++ W').Perm (A ++ W)
  ext : ∃ B, A' = A ++ B
  none : ∀ x ∈ W', ¬ Ready M A' x
  sub : W'.Sublist W
theorem Drain.drn {A W A' W' : List α} (h : Drain M A W A' W') : Drn (M := M) A W A' W' := by
  induction h with
  | stop h => exact ⟨List.Perm.refl _, ⟨[], by simp⟩, h, List.Sublist.refl _⟩
  | @step A U V A' W' x hU hx hd ih =>
    obtain ⟨h1, ⟨B, h2⟩, h3, h4⟩ := ih
    refine ⟨h1.trans ?_, ⟨x :: B, by rw [h2]; simp⟩, h3, h4.trans ?_⟩
    · rw [List.append_assoc]
      refine List.Perm.append_left _ ?_
      simpa using (List.perm_middle (l₁ := U) (l₂ := V) (a := x)).symm
    · exact List.Sublist.append_left (List.sublist_cons_self x V) U
theorem Drain.valid {A W A' W' : List α} (h : Drain M A W A' W') : Valid M A → (∀ x ∈ W, M.ok x) → Valid M A' := by
  induction h with
  | stop h => exact fun h _ => h
  | @step A U V A' W' x hU hx hd ih => exact fun hA hW => ih (hA.snoc (hW x (by simp)) hx) (fun y hy => hW y (by simp at hy ⊢; rcases hy with h | h <;> simp [h]))
/-- with nothing that pends -/
theorem Drain.nil {A A' W' : List α} (h : Drain M A [] A' W') : A' = A ∧ W' = [] := by
  generalize hW : ([] : List α) = W at h
  cases h with
  | stop h => exact ⟨rfl, rfl⟩
  | step => simp at hW
end Go.Proofs.YtiamohfpohjdpaaDoor.Cz
