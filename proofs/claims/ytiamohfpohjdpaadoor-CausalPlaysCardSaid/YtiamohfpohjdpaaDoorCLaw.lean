/- CAUSAL DELIVERY, plain: Add, and what the laws say of it. -/
import Derived.Test.YtiamohfpohjdpaaDoorCModel
namespace Go.Proofs.YtiamohfpohjdpaaDoor.Cz
set_option linter.unusedVariables false
set_option linter.unusedSimpArgs false
open Classical
variable {α : Type} (M : CM α) (srt : List α → List α → Prop)
/-- Add: what it answers, and what it leaves -/
inductive AddR (A W : List α) (o : α) : List α → Int → List α → List α → Prop
  | bad : ¬ M.ok o → AddR A W o [] 71 A W
  | there : M.ok o → M.id o ∈ ids M (A ++ W) → AddR A W o [] 0 A W
  | late : M.ok o → M.id o ∉ ids M (A ++ W) → Late M A o → AddR A W o [] 101 A W
  | pend : M.ok o → M.id o ∉ ids M (A ++ W) → ¬ Late M A o → ¬ Ready M A o → W.length = 64 → AddR A W o [] 102 A W
  | wait {W1 : List α} : M.ok o → M.id o ∉ ids M (A ++ W) → ¬ Late M A o → ¬ Ready M A o → W.length ≠ 64 → srt (W ++ [o]) W1 → AddR A W o [] 0 A W1
  | done {A1 W1 : List α} : M.ok o → M.id o ∉ ids M (A ++ W) → ¬ Late M A o → Ready M A o → Drain M (A ++ [o]) W A1 W1 → AddR A W o (A1.drop A.length) 0 A1 (W1.filter fun x => !decide (Late M A1 x))
variable {M srt}
/-- a store that came about -/
structure Stb (M : CM α) (A W : List α) : Prop where
  ok : ∀ x ∈ A ++ W, M.ok x
  nodup : (ids M (A ++ W)).Nodup
  valid : Valid M A
  none : ∀ x ∈ W, ¬ Ready M A x
theorem Stb.nil : Stb M [] [] := ⟨fun x h => (by cases h), List.nodup_nil, Valid.nil, fun x h => (by cases h)⟩
theorem ids_perm {L K : List α} (h : L.Perm K) : (ids M L).Perm (ids M K) := h.map _
theorem nodup_sub {A W W2 : List α} (h : (ids M (A ++ W)).Nodup) (hs : W2.Sublist W) : (ids M (A ++ W2)).Nodup :=
  h.sublist ((List.Sublist.append_left hs A).map _)
theorem AddR.stb (hp : ∀ l l2, srt l l2 → l2.Perm l) {A W A' W' res : List α} {o : α} {e : Int} (h : AddR M srt A W o res e A' W') (hs : Stb M A W) : Stb M A' W' ∧ A'.length + W'.length ≤ A.length + W.length + 1 ∧ ∃ B, A' = A ++ B := by
  have hnew : M.id o ∉ ids M (A ++ W) → (ids M (A ++ (W ++ [o]))).Nodup := fun hn => by
    rw [← List.append_assoc, ids_app, List.nodup_append]
    refine ⟨hs.nodup, by simp [ids], fun a ha b hb => ?_⟩
    simp [ids] at hb
    subst hb
    exact fun e => hn (e ▸ ha)
  cases h with
  | bad => exact ⟨hs, by omega, [], by simp⟩
  | there => exact ⟨hs, by omega, [], by simp⟩
  | late => exact ⟨hs, by omega, [], by simp⟩
  | pend => exact ⟨hs, by omega, [], by simp⟩
  | @wait W' hk hn hl hr h64 hs2 =>
    have hpw := hp _ _ hs2
    have hlen := hpw.length_eq
    refine ⟨⟨fun x hx => ?_, ?_, hs.valid, fun x hx => ?_⟩, by simp at hlen; omega, [], by simp⟩
    · rcases List.mem_append.1 hx with h | h
      · exact hs.ok x (by simp [h])
      · rcases List.mem_append.1 (hpw.mem_iff.1 h) with h | h
        · exact hs.ok x (by simp [h])
        · simp at h; subst h; exact hk
    · have := ids_perm (M := M) (List.Perm.append_left A hpw)
      exact this.nodup_iff.2 (hnew hn)
    · rcases List.mem_append.1 (hpw.mem_iff.1 hx) with h | h
      · exact hs.none x h
      · simp at h; subst h; exact hr
  | @done A' W1 hk hn hl hr hd =>
    have hdr := hd.drn
    have hpm := hdr.perm
    have hlen := hpm.length_eq
    have hv := hd.valid (hs.valid.snoc hk hr) (fun x hx => hs.ok x (by simp [hx]))
    have hfl : (W1.filter fun x => !decide (Late M A' x)).length ≤ W1.length := List.length_filter_le _ _
    obtain ⟨B, hB⟩ := hdr.ext
    have hnd : (ids M (A' ++ W1)).Nodup := by
      refine (ids_perm hpm).nodup_iff.2 ?_
      rw [List.append_assoc]
      have h1 : (A ++ ([o] ++ W)).Perm (A ++ (W ++ [o])) := List.Perm.append_left A (List.perm_append_comm)
      exact (ids_perm h1).nodup_iff.2 (hnew hn)
    refine ⟨⟨fun x hx => ?_, nodup_sub hnd List.filter_sublist, hv, fun x hx => hdr.none x (List.mem_filter.1 hx).1⟩, by simp at hlen; omega, [o] ++ B, by rw [hB]; simp⟩
    have h2 : x ∈ A' ++ W1 := by
      rcases List.mem_append.1 hx with h | h
      · simp [h]
      · simp [(List.mem_filter.1 h).1]
    have h3 := hpm.mem_iff.1 h2
    rw [List.append_assoc] at h3
    rcases List.mem_append.1 h3 with h | h
    · exact hs.ok x (by simp [h])
    · rcases List.mem_append.1 h with h | h
      · simp at h; subst h; exact hk
      · exact hs.ok x (by simp [h])
/-- a store whose operations are of one valid row -/
structure Of (M : CM α) (D A W : List α) : Prop where
  s : Stb M A W
  a : ∀ x ∈ A, x ∈ D
  w : ∀ x ∈ W, x ∈ D
theorem Of.nil {D : List α} : Of M D [] [] := ⟨Stb.nil, fun x h => (by cases h), fun x h => (by cases h)⟩
theorem not_both {A W : List α} (h : (ids M (A ++ W)).Nodup) {x : α} (hw : x ∈ W) : x ∉ A := fun ha => by
  rw [ids_app, List.nodup_append] at h
  exact h.2.2 _ (mem_ids.2 ⟨x, ha, rfl⟩) _ (mem_ids.2 ⟨x, hw, rfl⟩) rfl
theorem AddR.of (hp : ∀ l l2, srt l l2 → l2.Perm l) {D A W A' W' res : List α} {o : α} {e : Int} (hD : Valid M D) (hn : (ids M D).Nodup) (h : AddR M srt A W o res e A' W') (hs : Of M D A W) (ho : o ∈ D) :
    (e = 102 ∧ A' = A ∧ W' = W ∧ o ∉ A ++ W ∧ ¬ Ready M A o) ∨ (e = 0 ∧ Of M D A' W' ∧ (∀ x, x ∈ A' ++ W' ↔ x ∈ A ++ W ∨ x = o) ∧ ∃ B, A' = A ++ B) := by
  have hst := h.stb hp hs.s
  have hin : M.id o ∈ ids M (A ++ W) → o ∈ A ++ W := fun h => by
    obtain ⟨y, hy, e⟩ := mem_ids.1 h
    have : y ∈ D := (List.mem_append.1 hy).elim (hs.a y) (hs.w y)
    rwa [id_inj hn this ho e] at hy
  have hout : M.id o ∉ ids M (A ++ W) → o ∉ A ++ W := fun h k => h (mem_ids.2 ⟨o, k, rfl⟩)
  have hnl : M.id o ∉ ids M (A ++ W) → ¬ Late M A o := fun h => not_late hD hn hs.s.valid hs.a ho (fun k => hout h (by simp [k]))
  cases h with
  | bad h => exact absurd (hD.ok ho) h
  | there hk h =>
    refine .inr ⟨rfl, hs, fun x => ⟨.inl, ?_⟩, [], by simp⟩
    rintro (h2 | rfl)
    · exact h2
    · exact hin h
  | late hk h hl => exact absurd hl (hnl h)
  | pend hk h hl hr h64 => exact .inl ⟨rfl, rfl, rfl, hout h, hr⟩
  | @wait W' hk h hl hr h64 hs2 =>
    have hpw := hp _ _ hs2
    have hm : ∀ x, x ∈ A ++ W' ↔ x ∈ A ++ W ∨ x = o := fun x => by
      rw [List.mem_append, hpw.mem_iff]
      simp [or_assoc]
    refine .inr ⟨rfl, ⟨hst.1, hs.a, fun x hx => ?_⟩, hm, [], by simp⟩
    rcases List.mem_append.1 (hpw.mem_iff.1 hx) with h | h
    · exact hs.w x h
    · simp at h; subst h; exact ho
  | @done A' W1 hk h hl hr hd =>
    have hdr := hd.drn
    have hm0 : ∀ x, x ∈ A' ++ W1 ↔ x ∈ A ++ W ∨ x = o := fun x => by
      rw [hdr.perm.mem_iff]
      simp only [List.mem_append, List.mem_singleton]
      constructor
      · rintro ((h | h) | h) <;> simp [h]
      · rintro ((h | h) | h) <;> simp [h]
    have hDa : ∀ x, x ∈ A' ++ W1 → x ∈ D := fun x hx => by
      rcases (hm0 x).1 hx with h | rfl
      · exact (List.mem_append.1 h).elim (hs.a x) (hs.w x)
      · exact ho
    have ha : ∀ x ∈ A', x ∈ D := fun x hx => hDa x (by simp [hx])
    have hnd : (ids M (A' ++ W1)).Nodup := by
      refine (ids_perm hdr.perm).nodup_iff.2 ?_
      rw [List.append_assoc]
      have h1 : (A ++ ([o] ++ W)).Perm ((A ++ W) ++ [o]) := by rw [List.append_assoc]; exact List.Perm.append_left A (List.perm_append_comm)
      refine (ids_perm h1).nodup_iff.2 ?_
      rw [ids_app, List.nodup_append]
      refine ⟨hs.s.nodup, by simp [ids], fun a ha b hb => ?_⟩
      simp [ids] at hb
      subst hb
      exact fun e => h (e ▸ ha)
    have hf : (W1.filter fun x => !decide (Late M A' x)) = W1 := List.filter_eq_self.2 (fun x hx => by
      have := not_late hD hn hst.1.valid ha (hDa x (by simp [hx])) (not_both hnd hx)
      simp [this])
    refine .inr ⟨rfl, ⟨hst.1, ha, fun x hx => hDa x (by rw [hf] at hx; simp [hx])⟩, fun x => ?_, hst.2.2⟩
    rw [hf]
    exact hm0 x
/-- all that is of the row is delivered, if all of it came -/
theorem Of.all {D A W : List α} (hD : Valid M D) (hn : (ids M D).Nodup) (hs : Of M D A W) (h : ∀ x ∈ D, x ∈ A ++ W) : W = [] ∧ A.length = D.length ∧ ∀ r, known M A r = known M D r := by
  have hin : ∀ P Q, D = P ++ Q → ∀ x ∈ P, x ∈ A := by
    intro P
    refine snoc_ind (P := fun P => ∀ Q, D = P ++ Q → ∀ x ∈ P, x ∈ A) (fun _ _ x hx => by cases hx) (fun P o ih Q e x hx => ?_) P
    have hP := ih (o :: Q) (by rw [e]; simp)
    rcases List.mem_append.1 hx with hx | hx
    · exact hP x hx
    · simp at hx
      subst hx
      have hx2 := h x (by rw [e]; simp)
      rcases List.mem_append.1 hx2 with hx2 | hx2
      · exact hx2
      · have hno := not_both hs.s.nodup hx2
        exact absurd (next_ready (Q := Q) hD hn hs.s.valid hs.a (by rw [e]; simp) hP hno) (hs.s.none x hx2)
  have hA : ∀ x ∈ D, x ∈ A := hin D [] (by simp)
  have hW : W = [] := List.eq_nil_iff_forall_not_mem.2 fun x hx => not_both hs.s.nodup hx (hA x (hs.w x hx))
  refine ⟨hW, ?_, known_same (fun x => ⟨hs.a x, hA x⟩)⟩
  have hnA : (ids M A).Nodup := by have := hs.s.nodup; rw [hW] at this; simpa using this
  have le : ∀ {l m : List (Int × Int)}, l.Nodup → (∀ x ∈ l, x ∈ m) → l.length ≤ m.length := fun {l m} hn hs => by
    induction l generalizing m with
    | nil => exact Nat.zero_le _
    | cons x l ih =>
      obtain ⟨n1, n2⟩ := List.nodup_cons.1 hn
      have hx := hs x (by simp)
      have := ih (m := m.erase x) n2 (fun y hy => (List.mem_erase_of_ne (fun e => n1 (by rw [← e]; exact hy))).2 (hs y (by simp [hy])))
      have hl := List.length_erase_of_mem hx
      have := List.length_pos_of_mem hx
      simp
      omega
  have a := le hnA (m := ids M D) (fun p hp => by obtain ⟨y, hy, e⟩ := mem_ids.1 hp; exact mem_ids.2 ⟨y, hs.a y hy, e⟩)
  have b := le hn (m := ids M A) (fun p hp => by obtain ⟨y, hy, e⟩ := mem_ids.1 hp; exact mem_ids.2 ⟨y, hA y hy, e⟩)
  simp [ids] at a b
  omega
/-- what somebody lacks -/
def lacks (M : CM α) (D A : List α) : List α := D.filter fun x => !decide ((M.id x).1 ≤ known M A (M.id x).2)
theorem Of.has {D A W : List α} (hD : Valid M D) (hn : (ids M D).Nodup) (hs : Of M D A W) {x : α} (hx : x ∈ D) : (M.id x).1 ≤ known M A (M.id x).2 ↔ x ∈ A := by
  constructor
  · intro h
    rcases known_at (M := M) A (M.id x).2 with h0 | ⟨z, hz, h1, h2⟩
    · have := M.num x (hD.ok hx); omega
    · exact begins hD hn hs.s.valid hs.a z hz x hx h1.symm (by omega)
  · exact fun h => known_ge h
theorem lacks_mem {D A W : List α} (hD : Valid M D) (hn : (ids M D).Nodup) (hs : Of M D A W) {x : α} : x ∈ lacks M D A ↔ x ∈ D ∧ x ∉ A := by
  unfold lacks
  rw [List.mem_filter]
  constructor
  · rintro ⟨h1, h2⟩
    refine ⟨h1, fun h => ?_⟩
    have := (hs.has hD hn h1).2 h
    simp [this] at h2
  · rintro ⟨h1, h2⟩
    refine ⟨h1, ?_⟩
    have : ¬ (M.id x).1 ≤ known M A (M.id x).2 := fun h => h2 ((hs.has hD hn h1).1 h)
    simp [this]
theorem filter_split {p : α → Bool} : ∀ {D : List α} {j : Nat} {x : α}, (D.filter p)[j]? = some x → ∃ P Q, D = P ++ x :: Q ∧ P.filter p = (D.filter p).take j
  | [], j, x, h => by simp at h
  | d :: D, j, x, h => by
    by_cases hd : p d = true
    · rw [List.filter_cons_of_pos hd] at h ⊢
      cases j with
      | zero =>
        simp at h
        subst h
        exact ⟨[], D, rfl, by simp⟩
      | succ j =>
        obtain ⟨P, Q, e1, e2⟩ := filter_split (D := D) (j := j) (by simpa using h)
        exact ⟨d :: P, Q, by rw [e1]; rfl, by rw [List.filter_cons_of_pos hd, e2]; rfl⟩
    · rw [List.filter_cons_of_neg hd] at h ⊢
      obtain ⟨P, Q, e1, e2⟩ := filter_split (D := D) (j := j) h
      exact ⟨d :: P, Q, by rw [e1]; rfl, by rw [List.filter_cons_of_neg hd, e2]⟩
/-- one of those that it lacks, added -/
theorem AddR.lack (hp : ∀ l l2, srt l l2 → l2.Perm l) {D A0 W0 A W A' W' res : List α} {x : α} {e : Int} {j : Nat} (hD : Valid M D) (hn : (ids M D).Nodup) (hs0 : Of M D A0 W0) (hs : Of M D A W) (hA : ∃ B, A = A0 ++ B) (hx : (lacks M D A0)[j]? = some x)
    (hj : ∀ y ∈ (lacks M D A0).take j, y ∈ A) (hw : W0 = [] → W = [] ∧ A = A0 ++ (lacks M D A0).take j) (h : AddR M srt A W x res e A' W') :
    e = 0 ∧ Of M D A' W' ∧ (∃ B, A' = A0 ++ B) ∧ (∀ y ∈ (lacks M D A0).take (j + 1), y ∈ A') ∧ (W0 = [] → W' = [] ∧ A' = A0 ++ (lacks M D A0).take (j + 1) ∧ res.length = 1) := by
  have hxl : x ∈ lacks M D A0 := List.mem_of_getElem? hx
  obtain ⟨hxD, hx0⟩ := (lacks_mem hD hn hs0).1 hxl
  have htk : (lacks M D A0).take (j + 1) = (lacks M D A0).take j ++ [x] := by rw [List.take_add_one, hx]; rfl
  obtain ⟨P, Q, e1, e2⟩ := filter_split (D := D) hx
  obtain ⟨B0, hB0⟩ := hA
  have hP : ∀ y ∈ P, y ∈ A := fun y hy => by
    by_cases hy0 : y ∈ A0
    · rw [hB0]; simp [hy0]
    · have : y ∈ lacks M D A0 := (lacks_mem hD hn hs0).2 ⟨by rw [e1]; simp [hy], hy0⟩
      unfold lacks at this
      have hp2 := (List.mem_filter.1 this).2
      refine hj y ?_
      show y ∈ (lacks M D A0).take j
      unfold lacks
      rw [← e2]
      exact List.mem_filter.2 ⟨hy, hp2⟩
  have hrd : x ∉ A → Ready M A x := fun hno => next_ready hD hn hs.s.valid hs.a e1 hP hno
  have hnw : x ∉ W := fun hxw => hs.s.none x hxw (hrd (not_both hs.s.nodup hxw))
  have hof := h.of hp hD hn hs hxD
  have he : e = 0 ∧ Of M D A' W' ∧ (∀ y, y ∈ A' ++ W' ↔ y ∈ A ++ W ∨ y = x) ∧ ∃ B, A' = A ++ B := by
    rcases hof with ⟨_, _, _, hno, hnr⟩ | h
    · exact absurd (hrd (fun k => hno (by simp [k]))) hnr
    · exact h
  obtain ⟨he0, hof', hmem, B, hB⟩ := he
  have hxA' : x ∈ A' := by
    have h1 := (hmem x).2 (.inr rfl)
    rcases List.mem_append.1 h1 with h1 | h1
    · exact h1
    · exfalso
      have hno' := not_both hof'.s.nodup h1
      exact hof'.s.none x h1 (next_ready hD hn hof'.s.valid hof'.a e1 (fun y hy => by rw [hB]; simp [hP y hy]) hno')
  refine ⟨he0, hof', ⟨B0 ++ B, by rw [hB, hB0]; simp⟩, fun y hy => ?_, fun h0 => ?_⟩
  · rw [htk] at hy
    rcases List.mem_append.1 hy with hy | hy
    · rw [hB]; simp [hj y hy]
    · simp at hy; subst hy; exact hxA'
  · obtain ⟨hW, hAe⟩ := hw h0
    subst hW
    have hnd : (lacks M D A0).Nodup := by
      have : (D.filter fun x => !decide ((M.id x).1 ≤ known M A0 (M.id x).2)).Nodup := by
        refine List.Pairwise.filter _ ?_
        unfold ids at hn
        exact (List.pairwise_map.1 hn).imp (fun h e => h (by rw [e]))
      exact this
    have hxj : x ∉ (lacks M D A0).take j := fun hm => by
      obtain ⟨hl, hg⟩ := List.getElem?_eq_some_iff.1 hx
      obtain ⟨i, hi, hgi⟩ := List.mem_take_iff_getElem.1 hm
      have := (List.getElem_inj hnd (i := i) (j := j) (h₀ := by omega) (h₁ := hl)).1 (by rw [hgi, hg])
      omega
    have hxA : x ∉ A := by
      rw [hAe]
      intro hm
      rcases List.mem_append.1 hm with hm | hm
      · exact hx0 hm
      · exact hxj hm
    have hni : M.id x ∉ ids M (A ++ []) := fun hm => by
      obtain ⟨y, hy, e⟩ := mem_ids.1 hm
      simp at hy
      rw [id_inj hn (hs.a y hy) hxD e] at hy
      exact hxA hy
    cases h with
    | bad h => exact absurd (hD.ok hxD) h
    | there hk h => exact absurd h hni
    | late => omega
    | pend => omega
    | wait hk h hl hr => exact absurd (hrd hxA) hr
    | done hk h hl hr hd =>
      obtain ⟨rfl, rfl⟩ := hd.nil
      refine ⟨rfl, by rw [htk, hAe]; simp, by simp⟩
end Go.Proofs.YtiamohfpohjdpaaDoor.Cz
