/- WHAT IT LEANS ON IS EARLIER: the plain side. -/
import Derived.Test.YtgmhjgknfeihiaaDoorOEmptyP
import Derived.Test.YtgmhjgknfeihiaaDoorOSorted
import Derived.Test.YtgmhjgknfeihiaaDoorOFind
namespace Go.Proofs.YtgmhjgknfeihiaaDoor
open Go.RowKit Go.Joins
set_option linter.unusedSimpArgs false
set_option linter.unusedVariables false
theorem ids_perm {L S : List OpG} (h : S.Perm L) : (ids S).Perm (ids L) := h.map _
theorem ids_mem {L S : List OpG} (h : S.Perm L) (k : Int × Int) : k ∈ ids S ↔ k ∈ ids L := (ids_perm h).mem_iff
theorem closed_perm {L S : List OpG} (h : S.Perm L) (hc : ClosedP L) : ClosedP S :=
  ⟨fun o ho => hc.1 o (h.mem_iff.1 ho), (ids_perm h).nodup_iff.2 hc.2.1, fun o ho r hr h0 => (ids_mem h _).2 (hc.2.2 o (h.mem_iff.1 ho) r hr h0)⟩
theorem sorted_lt {S : List OpG} (hs : SortedO S) {i j : Nat} {a b : OpG} (hij : i < j) (ha : S[i]? = some a) (hb : S[j]? = some b) : ¬ ltO b a := by
  obtain ⟨h1, rfl⟩ := List.getElem?_eq_some_iff.1 ha
  obtain ⟨h2, rfl⟩ := List.getElem?_eq_some_iff.1 hb
  exact List.pairwise_iff_getElem.1 hs i j h1 h2 hij
theorem ids_ne {S : List OpG} (hn : (ids S).Nodup) {i j : Nat} {a b : OpG} (hij : i < j) (ha : S[i]? = some a) (hb : S[j]? = some b) : a.id ≠ b.id := by
  obtain ⟨h1, rfl⟩ := List.getElem?_eq_some_iff.1 ha
  obtain ⟨h2, rfl⟩ := List.getElem?_eq_some_iff.1 hb
  have := List.pairwise_iff_getElem.1 hn i j (by simpa [ids] using h1) (by simpa [ids] using h2) hij
  simpa [ids] using this
theorem strict {S : List OpG} (hs : SortedO S) (hn : (ids S).Nodup) {i j : Nat} {a b : OpG} (hij : i < j) (ha : S[i]? = some a) (hb : S[j]? = some b) : cmpS a.n a.r b.n b.r < 0 := by
  have h1 := sorted_lt hs hij ha hb
  have h2 := ids_ne hn hij ha hb
  rw [cmpS_lt]
  unfold ltO at h1
  have h3 : ¬ (a.n = b.n ∧ a.r = b.r) := fun e => h2 (by simp [OpG.id, e.1, e.2])
  omega
/-- the stamps that an operation names -/
def OpG.nm (o : OpG) : Nat → Int × Int
  | 0 => (o.rn, o.rr)
  | 1 => (o.un, o.ur)
  | 2 => (o.fn, o.fr)
  | _ => (o.tn, o.tr)
theorem hasB_has {o : OpG} {n r : Int} (h : o.hasB n r = true) : o.d.has n r = true := by
  unfold OpG.hasB at h
  exact (Bool.and_eq_true _ _ ▸ h).2
theorem noneB_iff {n r : Int} : noneB n r = true ↔ n = 0 ∧ r = 0 := by simp [noneB]
theorem named_has {o : OpG} (h : o.rightP = true) (k : Nat) (hk : k < 4) : o.nm k = (0, 0) ∨ o.d.has (o.nm k).1 (o.nm k).2 = true := by
  have hk4 : k = 0 ∨ k = 1 ∨ k = 2 ∨ k = 3 := by omega
  rcases (rightP_cases h).2 with ⟨_, hok, hx⟩ | ⟨_, hok, hx⟩ | ⟨_, hok, hx⟩ | ⟨_, hok, hx⟩ | ⟨_, hok, hx⟩
  · have e1 : (0 : Int) = o.un := congrArg OpG.un hx
    have e2 : (0 : Int) = o.ur := congrArg OpG.ur hx
    have e3 : (0 : Int) = o.fn := congrArg OpG.fn hx
    have e4 : (0 : Int) = o.fr := congrArg OpG.fr hx
    have e5 : (0 : Int) = o.tn := congrArg OpG.tn hx
    have e6 : (0 : Int) = o.tr := congrArg OpG.tr hx
    rcases hk4 with rfl | rfl | rfl | rfl
    · simp only [OpG.ok1, Bool.and_eq_true, Bool.or_eq_true, noneB_iff] at hok
      rcases hok.1 with ⟨_, h1, h2⟩ | ⟨h1, _⟩
      · left; simp [OpG.nm, h1, h2]
      · right; exact hasB_has h1
    · left; simp [OpG.nm, ← e1, ← e2]
    · left; simp [OpG.nm, ← e3, ← e4]
    · left; simp [OpG.nm, ← e5, ← e6]
  · have e1 : (0 : Int) = o.un := congrArg OpG.un hx
    have e2 : (0 : Int) = o.ur := congrArg OpG.ur hx
    have e3 : (0 : Int) = o.fn := congrArg OpG.fn hx
    have e4 : (0 : Int) = o.fr := congrArg OpG.fr hx
    have e5 : (0 : Int) = o.tn := congrArg OpG.tn hx
    have e6 : (0 : Int) = o.tr := congrArg OpG.tr hx
    rcases hk4 with rfl | rfl | rfl | rfl
    · right; exact hasB_has hok
    · left; simp [OpG.nm, ← e1, ← e2]
    · left; simp [OpG.nm, ← e3, ← e4]
    · left; simp [OpG.nm, ← e5, ← e6]
  · have e3 : (0 : Int) = o.fn := congrArg OpG.fn hx
    have e4 : (0 : Int) = o.fr := congrArg OpG.fr hx
    have e5 : (0 : Int) = o.tn := congrArg OpG.tn hx
    have e6 : (0 : Int) = o.tr := congrArg OpG.tr hx
    simp only [OpG.ok3, Bool.and_eq_true, Bool.or_eq_true, noneB_iff] at hok
    rcases hk4 with rfl | rfl | rfl | rfl
    · right; exact hasB_has hok.1.1.1
    · rcases hok.1.1.2 with ⟨h1, h2⟩ | h1
      · left; simp [OpG.nm, h1, h2]
      · right; exact hasB_has h1
    · left; simp [OpG.nm, ← e3, ← e4]
    · left; simp [OpG.nm, ← e5, ← e6]
  · have e1 : (0 : Int) = o.un := congrArg OpG.un hx
    have e2 : (0 : Int) = o.ur := congrArg OpG.ur hx
    have e3 : (0 : Int) = o.fn := congrArg OpG.fn hx
    have e4 : (0 : Int) = o.fr := congrArg OpG.fr hx
    have e5 : (0 : Int) = o.tn := congrArg OpG.tn hx
    have e6 : (0 : Int) = o.tr := congrArg OpG.tr hx
    simp only [OpG.ok4, OpG.ok2, Bool.and_eq_true] at hok
    rcases hk4 with rfl | rfl | rfl | rfl
    · right; exact hasB_has hok.1.1
    · left; simp [OpG.nm, ← e1, ← e2]
    · left; simp [OpG.nm, ← e3, ← e4]
    · left; simp [OpG.nm, ← e5, ← e6]
  · have e1 : (0 : Int) = o.un := congrArg OpG.un hx
    have e2 : (0 : Int) = o.ur := congrArg OpG.ur hx
    have e3 : (0 : Int) = o.rn := congrArg OpG.rn hx
    have e4 : (0 : Int) = o.rr := congrArg OpG.rr hx
    simp only [OpG.ok5, OpG.ok50, Bool.and_eq_true] at hok
    rcases hk4 with rfl | rfl | rfl | rfl
    · left; simp [OpG.nm, ← e3, ← e4]
    · left; simp [OpG.nm, ← e1, ← e2]
    · right; exact hasB_has hok.1.1.1
    · right; exact hasB_has hok.1.1.2
theorem pre_nth {o : OpG} (h : o.pre = true) (r : Nat) (hr : r < 8) : 0 ≤ o.d.nth r ∧ o.d.nth r < o.n := by
  obtain ⟨_, ⟨a0, a1, a2, a3, a4, a5, a6, a7⟩, b0, b1, b2, b3, b4, b5, b6, b7⟩ := (pre_iff o).1 h
  rcases nat8 hr with rfl | rfl | rfl | rfl | rfl | rfl | rfl | rfl
  · exact ⟨a0, b0⟩
  · exact ⟨a1, b1⟩
  · exact ⟨a2, b2⟩
  · exact ⟨a3, b3⟩
  · exact ⟨a4, b4⟩
  · exact ⟨a5, b5⟩
  · exact ⟨a6, b6⟩
  · exact ⟨a7, b7⟩
theorem leans_earlier {S : List OpG} (hs : SortedO S) (hc : ClosedP S) {i r : Nat} {o : OpG} {z : Int} (ho : S[i]? = some o) (hr : r < 8) (hz : FindR S (o.d.nth r, (r : Int)) z) (h0 : o.d.nth r ≠ 0) : 0 ≤ z ∧ z < (i : Int) := by
  have hm := List.mem_of_getElem? ho
  have hp := pre_nth (rightP_cases (hc.1 o hm)).1 r hr
  have hin := hc.2.2 o hm r hr (by omega)
  rcases hz with ⟨q, rfl, ⟨p, hq, hid⟩, _⟩ | ⟨_, hno⟩
  · refine ⟨by omega, ?_⟩
    have hpn : p.n = o.d.nth r := by simp only [OpG.id, Prod.mk.injEq] at hid; exact hid.1
    by_cases hlt : q < i
    · omega
    · exfalso
      by_cases he : q = i
      · subst he
        rw [ho] at hq
        cases hq
        omega
      · exact sorted_lt hs (show i < q by omega) ho hq (.inl (by omega))
  · exact absurd hin hno
end Go.Proofs.YtgmhjgknfeihiaaDoor
