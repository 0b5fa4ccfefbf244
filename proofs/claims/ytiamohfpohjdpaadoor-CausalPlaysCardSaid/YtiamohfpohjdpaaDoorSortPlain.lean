/- THE STABLE SORT's PLAIN SIDE: two ranges exchanged, a range turned round, two sorted ranges merged in place; of whatever list. -/
import Derived.Test.YtiamohfpohjdpaaDoorRows
import Derived.Sort.LotA
import Derived.Sort.WalkA
namespace Go.Proofs.YtiamohfpohjdpaaDoor
open Go.Sort
set_option linter.unusedSimpArgs false
set_option linter.unusedVariables false
section
variable {α : Type}

def swapF (f : Nat → α) (a b n t : Nat) : α := if a ≤ t ∧ t < a + n then f (t - a + b) else if b ≤ t ∧ t < b + n then f (t - b + a) else f t
def rotF (f : Nat → α) (lo m hi t : Nat) : α := if lo ≤ t ∧ t < lo + (hi - m) then f (t - lo + m) else if lo + (hi - m) ≤ t ∧ t < hi then f (t - (hi - m)) else f t
theorem rotF_same (f : Nat → α) (a m b t : Nat) (h : a = m ∨ m = b) (h1 : a ≤ m) (h2 : m ≤ b) : rotF f a m b t = f t := by
  unfold rotF
  by_cases h3 : a ≤ t ∧ t < a + (b - m)
  · rw [if_pos h3]; congr 1; omega
  · rw [if_neg h3]
    by_cases h4 : a + (b - m) ≤ t ∧ t < b
    · rw [if_pos h4]; congr 1; omega
    · rw [if_neg h4]
theorem rot_left (f : Nat → α) (m i j t : Nat) (hij : j < i) (him : i ≤ m) : rotF (swapF f (m - i) m j) (m - (i - j)) m (m + j) t = rotF f (m - i) m (m + j) t := by
  unfold rotF swapF
  repeat' split
  all_goals first | rfl | (exfalso; omega) | (congr 1; omega)
theorem rot_right (f : Nat → α) (m i j t : Nat) (hij : i < j) (him : i ≤ m) : rotF (swapF f (m - i) (m + j - i) i) (m - i) m (m + (j - i)) t = rotF f (m - i) m (m + j) t := by
  unfold rotF swapF
  repeat' split
  all_goals first | rfl | (exfalso; omega) | (congr 1; omega)
theorem rot_both (f : Nat → α) (m i t : Nat) (him : i ≤ m) : swapF f (m - i) m i t = rotF f (m - i) m (m + i) t := by
  unfold rotF swapF
  repeat' split
  all_goals first | rfl | (exfalso; omega) | (congr 1; omega)
theorem rotF_congr {f g : Nat → α} (h : ∀ t, f t = g t) (a m b t : Nat) : rotF f a m b t = rotF g a m b t := by
  rw [show f = g from funext h]
end
section
variable {α : Type} [Inhabited α] {lt : α → α → Bool}
theorem ext_get {d d' : Array α} (hs : d'.size = d.size) (h : ∀ t : Nat, d'[t]! = d[t]!) : d' = d := by
  apply Array.ext hs
  intro i h1 h2
  have := h i
  rwa [getElem!_pos d' i h1, getElem!_pos d i h2] at this
/-- two ranges of n exchanged -/
structure Swapped (a b n : Nat) (d d' : Array α) : Prop where
  size : d'.size = d.size
  get : ∀ t, d'[t]! = swapF (fun t => d[t]!) a b n t
  perm : ∀ lo hi, lo ≤ a → b + n ≤ hi → hi ≤ d.size → PermIn lo hi d d'
theorem Swapped.zero (a b : Nat) (d : Array α) : Swapped a b 0 d d :=
  ⟨rfl, fun t => by unfold swapF; rw [if_neg (by omega), if_neg (by omega)], fun lo hi _ _ _ => permIn_refl d lo hi⟩
theorem Swapped.step {a b n : Nat} {d d' : Array α} (h : Swapped a b n d d') (hab : a + n < b) (hb : b + n < d.size) : Swapped a b (n + 1) d (swp d' (a + n) (b + n)) := by
  have hs := h.size
  refine ⟨by rw [swp_size]; exact hs, fun t => ?_, fun lo hi h1 h2 h3 => permIn_trans _ _ _ _ _ (h.perm lo hi h1 (by omega) h3) (swp_permIn d' lo hi _ _ (by omega) (by omega) (by omega) (by omega) (by omega))⟩
  rw [swp_get d' (by omega) (by omega)]
  have g := h.get
  by_cases h1 : t = b + n
  · subst h1
    rw [if_pos rfl, g]
    unfold swapF
    rw [if_neg (by omega), if_neg (by omega), if_neg (by omega), if_pos (by omega)]
    congr 1; omega
  · rw [if_neg h1]
    by_cases h2 : t = a + n
    · subst h2
      rw [if_pos rfl, g]
      unfold swapF
      rw [if_neg (by omega), if_neg (by omega), if_pos (by omega)]
      congr 1; omega
    · rw [if_neg h2, g]
      unfold swapF
      repeat' split
      all_goals first | rfl | (exfalso; omega)
/-- [a, m) and [m, b) have changed places -/
structure Rotated (a m b : Nat) (d d' : Array α) : Prop where
  size : d'.size = d.size
  get : ∀ t, d'[t]! = rotF (fun t => d[t]!) a m b t
  perm : PermIn a b d d'
theorem Rotated.none {a m b : Nat} {d : Array α} (h : a = m ∨ m = b) (h1 : a ≤ m) (h2 : m ≤ b) : Rotated a m b d d :=
  ⟨rfl, fun t => (rotF_same (fun t => d[t]!) a m b t h h1 h2).symm, permIn_refl d a b⟩
/-- on the way: what is left to turn round gives what was wanted -/
structure Turning (a m b i j : Nat) (d dk : Array α) : Prop where
  size : dk.size = d.size
  lo : a + i ≤ m
  hi : m + j ≤ b
  get : ∀ t, rotF (fun t => dk[t]!) (m - i) m (m + j) t = rotF (fun t => d[t]!) a m b t
  perm : PermIn a b d dk
theorem Turning.start {a m b : Nat} (d : Array α) (h1 : a ≤ m) (h2 : m ≤ b) : Turning a m b (m - a) (b - m) d d :=
  ⟨rfl, by omega, by omega, fun t => by rw [show m - (m - a) = a by omega, show m + (b - m) = b by omega], permIn_refl d a b⟩
theorem Turning.left {a m b i j : Nat} {d dk d' : Array α} (h : Turning a m b i j d dk) (hb : b ≤ d.size) (hij : j < i) (s : Swapped (m - i) m j dk d') : Turning a m b (i - j) j d d' := by
  have h1 := h.lo
  have h2 := h.hi
  refine ⟨s.size.trans h.size, by omega, by omega, fun t => ?_, permIn_trans _ _ _ _ _ h.perm (s.perm a b (by omega) (by omega) (by rw [h.size]; exact hb))⟩
  rw [← h.get, ← rot_left (fun t => dk[t]!) m i j t hij (by omega)]
  exact rotF_congr s.get _ _ _ _
theorem Turning.right {a m b i j : Nat} {d dk d' : Array α} (h : Turning a m b i j d dk) (hb : b ≤ d.size) (hij : i < j) (s : Swapped (m - i) (m + j - i) i dk d') : Turning a m b i (j - i) d d' := by
  have h1 := h.lo
  have h2 := h.hi
  refine ⟨s.size.trans h.size, by omega, by omega, fun t => ?_, permIn_trans _ _ _ _ _ h.perm (s.perm a b (by omega) (by omega) (by rw [h.size]; exact hb))⟩
  rw [← h.get, ← rot_right (fun t => dk[t]!) m i j t hij (by omega)]
  exact rotF_congr s.get _ _ _ _
theorem Turning.both {a m b i : Nat} {d dk d' : Array α} (h : Turning a m b i i d dk) (hb : b ≤ d.size) (s : Swapped (m - i) m i dk d') : Rotated a m b d d' := by
  have h1 := h.lo
  have h2 := h.hi
  refine ⟨s.size.trans h.size, fun t => ?_, permIn_trans _ _ _ _ _ h.perm (s.perm a b (by omega) (by omega) (by rw [h.size]; exact hb))⟩
  rw [← h.get, s.get, rot_both _ _ _ _ (by omega)]
/-- one element carried up, down -/
theorem Rotated.up {a i : Nat} {d d' : Array α} (h : Rotated a (a + 1) i d d') (hi : a < i) (hs : i < d.size) : Rotated a (a + 1) (i + 1) d (swp d' (i - 1) i) := by
  have hz := h.size
  refine ⟨by rw [swp_size]; exact hz, fun t => ?_, permIn_trans _ _ _ _ _ (permIn_mono d d' a i a (i + 1) (Nat.le_refl _) (by omega) (by omega) h.perm) (swp_permIn d' a (i + 1) _ _ (by omega) (by omega) (by omega) (by omega) (by omega))⟩
  rw [swp_get d' (by omega) (by omega)]
  by_cases h1 : t = i
  · subst h1
    rw [if_pos rfl, h.get]
    unfold rotF
    rw [if_neg (by omega), if_pos (by omega), if_neg (by omega), if_pos (by omega)]
    congr 1; omega
  · rw [if_neg h1]
    by_cases h2 : t = i - 1
    · subst h2
      rw [if_pos rfl, h.get]
      unfold rotF
      rw [if_neg (by omega), if_neg (by omega), if_pos (by omega)]
      congr 1; omega
    · rw [if_neg h2, h.get]
      unfold rotF
      repeat' split
      all_goals first | rfl | (exfalso; omega) | (congr 1; omega)
theorem Rotated.down {i m : Nat} {d d' : Array α} (h : Rotated i m (m + 1) d d') (hi : 0 < i) (him : i ≤ m) (hs : m < d.size) : Rotated (i - 1) m (m + 1) d (swp d' i (i - 1)) := by
  have hz := h.size
  refine ⟨by rw [swp_size]; exact hz, fun t => ?_, permIn_trans _ _ _ _ _ (permIn_mono d d' i (m + 1) (i - 1) (m + 1) (by omega) (by omega) (by omega) h.perm) (swp_permIn d' (i - 1) (m + 1) _ _ (by omega) (by omega) (by omega) (by omega) (by omega))⟩
  rw [swp_get d' (by omega) (by omega)]
  by_cases h1 : t = i - 1
  · subst h1
    rw [if_pos rfl, h.get]
    unfold rotF
    rw [if_pos (by omega), if_pos (by omega)]
    congr 1; omega
  · rw [if_neg h1]
    by_cases h2 : t = i
    · subst h2
      rw [if_pos rfl, h.get]
      unfold rotF
      rw [if_neg (by omega), if_neg (by omega), if_neg (by omega), if_pos (by omega)]
      congr 1; omega
    · rw [if_neg h2, h.get]
      unfold rotF
      repeat' split
      all_goals first | rfl | (exfalso; omega) | (congr 1; omega)
/-- sorted, of the same elements; what was sorted stays as it was -/
structure Merged (lt : α → α → Bool) (a b : Nat) (d d' : Array α) : Prop where
  perm : PermIn a b d d'
  sorted : SortedIn lt a b d'
  stays : SortedIn lt a b d → d' = d
theorem Merged.same {a b : Nat} {d : Array α} (h : SortedIn lt a b d) : Merged lt a b d d := ⟨permIn_refl d a b, h, fun _ => rfl⟩
theorem sorted_part {a b c e : Nat} {d : Array α} (h : SortedIn lt a b d) (h1 : a ≤ c) (h2 : e ≤ b) : SortedIn lt c e d := fun i j p q r => h i j (by omega) q (by omega)
theorem sorted_join {a m b : Nat} {d : Array α} (h1 : SortedIn lt a m d) (h2 : SortedIn lt m b d) (h : ∀ i j, a ≤ i → i < m → m ≤ j → j < b → lt d[j]! d[i]! = false) : SortedIn lt a b d := by
  intro i j hi hij hj
  by_cases h3 : j < m
  · exact h1 i j hi hij h3
  · by_cases h4 : m ≤ i
    · exact h2 i j h4 hij hj
    · exact h i j hi (by omega) (by omega) hj
/-- what the search has found: where the two sorted ranges are cut -/
structure Found (lt : α → α → Bool) (a m b s e : Nat) (d : Array α) : Prop where
  left : SortedIn lt a m d
  right : SortedIn lt m b d
  lo : a ≤ s
  sm : s ≤ m
  me : m ≤ e
  eb : e ≤ b
  low : a < s → e < b → lt d[e]! d[s - 1]! = false
  high : s < m → m < e → lt d[e - 1]! d[s]! = true
theorem Found.lows (hS : SWO lt) {a m b s e : Nat} {d : Array α} (h : Found lt a m b s e d) (i j : Nat) (hi : a ≤ i) (his : i < s) (hj : e ≤ j) (hjb : j < b) : lt d[j]! d[i]! = false := by
  have h1 := h.low (by omega) (by omega)
  have hsm := h.sm
  have hme := h.me
  have h2 : lt d[j]! d[e]! = false := by
    by_cases e1 : j = e
    · rw [e1]; exact hS.irrefl _
    · exact h.right e j hme (by omega) hjb
  have h3 : lt d[s - 1]! d[i]! = false := by
    by_cases e1 : i = s - 1
    · rw [e1]; exact hS.irrefl _
    · exact h.left i (s - 1) hi (by omega) (by omega)
  exact hS.ntrans _ _ _ (hS.ntrans _ _ _ h2 h1) h3
theorem Found.highs (hS : SWO lt) {a m b s e : Nat} {d : Array α} (h : Found lt a m b s e d) (i j : Nat) (hi : s ≤ i) (him : i < m) (hj : m ≤ j) (hje : j < e) : lt d[j]! d[i]! = true := by
  have h1 := h.high (by omega) (by omega)
  have has := h.lo
  have heb := h.eb
  cases hq : lt d[j]! d[i]! with
  | true => rfl
  | false =>
    have h2 : lt d[e - 1]! d[j]! = false := by
      by_cases e1 : j = e - 1
      · rw [e1]; exact hS.irrefl _
      · exact h.right j (e - 1) hj (by omega) (by omega)
    have h3 : lt d[i]! d[s]! = false := by
      by_cases e1 : i = s
      · rw [e1]; exact hS.irrefl _
      · exact h.left s i has (by omega) him
    rw [hS.ntrans _ _ _ (hS.ntrans _ _ _ h2 hq) h3] at h1
    cases h1
/-- behind the turning round: where each stands -/
theorem Found.turned (hS : SWO lt) {a m b s e : Nat} {d d1 : Array α} (h : Found lt a m b s e d) (hr : Rotated s m e d d1) (hb : b ≤ d.size) :
    PermIn a b d d1 ∧ SortedIn lt a s d1 ∧ SortedIn lt s (s + (e - m)) d1 ∧ SortedIn lt (s + (e - m)) e d1 ∧ SortedIn lt e b d1 ∧
    (∀ i j, a ≤ i → i < s + (e - m) → s + (e - m) ≤ j → j < b → lt d1[j]! d1[i]! = false) ∧ (SortedIn lt a b d → d1 = d) := by
  have has := h.lo
  have hsm := h.sm
  have hme := h.me
  have heb := h.eb
  have g1 : ∀ t, t < s → d1[t]! = d[t]! := fun t ht => by rw [hr.get]; unfold rotF; rw [if_neg (by omega), if_neg (by omega)]
  have g2 : ∀ t, s ≤ t → t < s + (e - m) → d1[t]! = d[t - s + m]! := fun t h1 h2 => by rw [hr.get]; unfold rotF; rw [if_pos (by omega)]
  have g3 : ∀ t, s + (e - m) ≤ t → t < e → d1[t]! = d[t - (e - m)]! := fun t h1 h2 => by rw [hr.get]; unfold rotF; rw [if_neg (by omega), if_pos (by omega)]
  have g4 : ∀ t, e ≤ t → d1[t]! = d[t]! := fun t ht => by rw [hr.get]; unfold rotF; rw [if_neg (by omega), if_neg (by omega)]
  refine ⟨permIn_mono d d1 s e a b has heb hb hr.perm, ?_, ?_, ?_, ?_, ?_, ?_⟩
  · intro i j h1 h2 h3
    rw [g1 i (by omega), g1 j h3]
    exact h.left i j h1 h2 (by omega)
  · intro i j h1 h2 h3
    rw [g2 i (by omega) (by omega), g2 j (by omega) h3]
    exact h.right _ _ (by omega) (by omega) (by omega)
  · intro i j h1 h2 h3
    rw [g3 i (by omega) (by omega), g3 j (by omega) h3]
    exact h.left _ _ (by omega) (by omega) (by omega)
  · intro i j h1 h2 h3
    rw [g4 i h1, g4 j (by omega)]
    exact h.right i j (by omega) h2 h3
  · intro i j h1 h2 h3 h4
    by_cases hi : i < s
    · rw [g1 i hi]
      by_cases hj : j < e
      · rw [g3 j h3 hj]
        exact h.left i _ h1 (by omega) (by omega)
      · rw [g4 j (by omega)]
        exact h.lows hS i j h1 hi (by omega) h4
    · rw [g2 i (by omega) h2]
      by_cases hj : j < e
      · rw [g3 j h3 hj]
        exact hS.asymmA (h.highs hS _ _ (by omega) (by omega) (by omega) (by omega))
      · rw [g4 j (by omega)]
        exact h.right _ _ (by omega) (by omega) h4
  · intro hso
    have hsame : s = m ∨ m = e := by
      by_cases h1 : s = m
      · exact .inl h1
      · by_cases h2 : m = e
        · exact .inr h2
        · exfalso
          have k1 := h.high (by omega) (by omega)
          rw [hso s (e - 1) has (by omega) (by omega)] at k1
          cases k1
    exact ext_get hr.size (fun t => by rw [hr.get]; exact rotF_same _ _ _ _ _ hsame hsm hme)
/-- and behind the two merges of the parts -/
theorem Found.merged (hS : SWO lt) {a m b s e mid : Nat} {d d1 d2 d3 : Array α} (h : Found lt a m b s e d) (hr : Rotated s m e d d1) (hb : b ≤ d.size) (hmid : mid = s + (e - m))
    (h2 : Merged lt a mid d1 d2) (h3 : Merged lt mid b d2 d3) : Merged lt a b d d3 := by
  obtain ⟨p1, -, -, -, -, cross, stays⟩ := h.turned hS hr hb
  have hle : a ≤ mid := by have := h.lo; omega
  have hmb : mid ≤ b := by have := h.me; have := h.eb; have := h.sm; omega
  have z1 : d1.size = d.size := p1.1
  have z2 : d2.size = d.size := h2.perm.1.trans z1
  rw [← hmid] at cross
  have cr2 : ∀ i j, a ≤ i → i < mid → mid ≤ j → j < b → lt d2[j]! d2[i]! = false := fun i j q1 q2 q3 q4 => by
    have o : d2[j]! = d1[j]! := h2.perm.2.1 j (Or.inr q3)
    rw [o]
    exact permIn_all d1 d2 a mid (fun x => lt d1[j]! x = false) (by omega) h2.perm (fun i r1 r2 => cross i j r1 r2 q3 q4) i q1 q2
  have cr3 : ∀ i j, a ≤ i → i < mid → mid ≤ j → j < b → lt d3[j]! d3[i]! = false := fun i j q1 q2 q3 q4 => by
    have o : d3[i]! = d2[i]! := h3.perm.2.1 i (Or.inl q2)
    rw [o]
    exact permIn_all d2 d3 mid b (fun x => lt x d2[i]! = false) (by omega) h3.perm (fun j r1 r2 => cr2 i j q1 q2 r1 r2) j q3 q4
  refine ⟨permIn_trans _ _ _ _ _ p1 (permIn_trans _ _ _ _ _ (permIn_mono d1 d2 a mid a b (Nat.le_refl _) hmb (by omega) h2.perm) (permIn_mono d2 d3 mid b a b hle (Nat.le_refl _) (by omega) h3.perm)), ?_, fun hso => ?_⟩
  · refine sorted_join (fun i j q1 q2 q3 => ?_) h3.sorted cr3
    rw [h3.perm.2.1 i (Or.inl (by omega)), h3.perm.2.1 j (Or.inl q3)]
    exact h2.sorted i j q1 q2 q3
  · have e1 := stays hso
    subst e1
    have e2 := h2.stays (sorted_part hso (Nat.le_refl _) hmb)
    subst e2
    exact h3.stays (sorted_part hso hle (Nat.le_refl _))
/-- the first part needs no merge -/
theorem Found.left_same (hS : SWO lt) {a m b s e mid : Nat} {d d1 : Array α} (h : Found lt a m b s e d) (hr : Rotated s m e d d1) (hb : b ≤ d.size) (hmid : mid = s + (e - m)) (hn : ¬ (a < s ∧ s < mid)) : Merged lt a mid d1 d1 := by
  obtain ⟨p1, q1, q2, q3, q4, cross, stays⟩ := h.turned hS hr hb
  have := h.lo
  refine Merged.same ?_
  by_cases h1 : a < s
  · have : mid = s := by omega
    rw [this]; exact q1
  · have : a = s := by omega
    rw [this, hmid]; exact q2
theorem Found.left_halves (hS : SWO lt) {a m b s e mid : Nat} {d d1 : Array α} (h : Found lt a m b s e d) (hr : Rotated s m e d d1) (hb : b ≤ d.size) (hmid : mid = s + (e - m)) : SortedIn lt a s d1 ∧ SortedIn lt s mid d1 := by
  obtain ⟨p1, q1, q2, q3, q4, cross, stays⟩ := h.turned hS hr hb
  exact ⟨q1, by rw [hmid]; exact q2⟩
theorem Found.right_halves (hS : SWO lt) {a m b s e mid : Nat} {d d1 d2 : Array α} (h : Found lt a m b s e d) (hr : Rotated s m e d d1) (hb : b ≤ d.size) (hmid : mid = s + (e - m)) (h2 : PermIn a mid d1 d2) : SortedIn lt mid e d2 ∧ SortedIn lt e b d2 := by
  obtain ⟨p1, q1, q2, q3, q4, cross, stays⟩ := h.turned hS hr hb
  have hsm := h.sm
  have hme := h.me
  have o : ∀ t, mid ≤ t → d2[t]! = d1[t]! := fun t ht => h2.2.1 t (Or.inr ht)
  rw [← hmid] at q3
  refine ⟨fun i j r1 r2 r3 => ?_, fun i j r1 r2 r3 => ?_⟩
  · rw [o i r1, o j (by omega)]; exact q3 i j r1 r2 r3
  · rw [o i (by omega), o j (by omega)]; exact q4 i j r1 r2 r3
theorem Found.right_same (hS : SWO lt) {a m b s e mid : Nat} {d d1 d2 : Array α} (h : Found lt a m b s e d) (hr : Rotated s m e d d1) (hb : b ≤ d.size) (hmid : mid = s + (e - m)) (h2 : PermIn a mid d1 d2) (hn : ¬ (mid < e ∧ e < b)) : Merged lt mid b d2 d2 := by
  obtain ⟨q1, q2⟩ := h.right_halves hS hr hb hmid h2
  have := h.me
  have := h.eb
  have := h.sm
  refine Merged.same ?_
  by_cases h1 : mid < e
  · have : e = b := by omega
    rw [← this]; exact q1
  · have : mid = e := by omega
    rw [this]; exact q2
/-- one element of the left: it is carried up -/
theorem merged_up (hS : SWO lt) {a b i : Nat} {d d1 : Array α} (h : SortedIn lt (a + 1) b d) (hi : a + 1 ≤ i) (hib : i ≤ b) (hb : b ≤ d.size) (h1 : a + 1 < i → lt d[i - 1]! d[a]! = true) (h2 : i < b → lt d[i]! d[a]! = false) (hr : Rotated a (a + 1) i d d1) : Merged lt a b d d1 := by
  have F : Found lt a (a + 1) b a i d := ⟨fun p q r1 r2 r3 => by omega, h, Nat.le_refl _, by omega, hi, hib, fun r => by omega, fun _ r => h1 r⟩
  obtain ⟨p1, q1, q2, q3, q4, cross, stays⟩ := F.turned hS hr hb
  refine ⟨p1, ?_, stays⟩
  have g3 : d1[i - 1]! = d[a]! := by rw [hr.get]; unfold rotF; rw [if_neg (by omega), if_pos (by omega)]; congr 1; omega
  have g4 : ∀ t, i ≤ t → d1[t]! = d[t]! := fun t ht => by rw [hr.get]; unfold rotF; rw [if_neg (by omega), if_neg (by omega)]
  refine sorted_join q2 (sorted_join q3 q4 (fun p q r1 r2 r3 r4 => ?_)) cross
  obtain rfl : p = i - 1 := by omega
  rw [g3, g4 q r3]
  by_cases e1 : q = i
  · subst e1; exact h2 r4
  · exact hS.ntrans _ _ _ (h i q (by omega) (by omega) r4) (h2 (by omega))
/-- one element of the right: it is carried down -/
theorem merged_down (hS : SWO lt) {a m i : Nat} {d d1 : Array α} (h : SortedIn lt a m d) (hi : a ≤ i) (him : i ≤ m) (hb : m + 1 ≤ d.size) (h1 : a < i → lt d[m]! d[i - 1]! = false) (h2 : i < m → lt d[m]! d[i]! = true) (hr : Rotated i m (m + 1) d d1) : Merged lt a (m + 1) d d1 := by
  have F : Found lt a m (m + 1) i (m + 1) d := ⟨h, fun p q r1 r2 r3 => by omega, hi, him, by omega, Nat.le_refl _, fun _ r => by omega, fun r _ => h2 r⟩
  obtain ⟨p1, q1, q2, q3, q4, cross, stays⟩ := F.turned hS hr hb
  refine ⟨p1, ?_, stays⟩
  have g1 : ∀ t, t < i → d1[t]! = d[t]! := fun t ht => by rw [hr.get]; unfold rotF; rw [if_neg (by omega), if_neg (by omega)]
  have g2 : d1[i]! = d[m]! := by rw [hr.get]; unfold rotF; rw [if_pos (by omega)]; congr 1; omega
  have e0 : i + (m + 1 - m) = i + 1 := by omega
  rw [e0] at q2 q3 cross
  refine sorted_join (sorted_join q1 q2 (fun p q r1 r2 r3 r4 => ?_)) q3 cross
  obtain rfl : q = i := by omega
  rw [g2, g1 p r2]
  by_cases e1 : p = q - 1
  · subst e1; exact h1 (by omega)
  · exact hS.ntrans _ _ _ (h1 (by omega)) (h p (q - 1) r1 (by omega) (by omega))
/-- insertion sort: what was sorted stays -/
theorem insOuter_stays {a b : Nat} {d : Array α} (h : SortedIn lt a b d) : ∀ n i, b - i = n → a < i → insOuter lt a b i d = d
  | 0, i, hn, _ => insOuter_stop _ _ _ _ _ (by omega)
  | n + 1, i, hn, hi => by
    rw [insOuter_go _ _ _ _ _ (by omega), insInner_stop _ _ _ _ (Or.inr (h (i - 1) i (by omega) (by omega) (by omega)))]
    exact insOuter_stays h n (i + 1) (by omega) (by omega)
theorem inserted (hS : SWO lt) {a b : Nat} {d : Array α} (hab : a ≤ b) (hb : b ≤ d.size) : Merged lt a b d (insertionSort lt d a b) :=
  ⟨(insertionSort_holds hS d a b hab hb).1, (insertionSort_holds hS d a b hab hb).2, fun h => insOuter_stays h _ _ rfl (by omega)⟩
/-- the blocks of s elements from the q-th on are sorted each -/
def BlkFrom (lt : α → α → Bool) (s n q0 : Nat) (d : Array α) : Prop := ∀ q, q0 ≤ q → SortedIn lt (q * s) (min (q * s + s) n) d
def BlkTo (lt : α → α → Bool) (s q0 : Nat) (d : Array α) : Prop := ∀ q, q < q0 → SortedIn lt (q * s) (q * s + s) d
/-- on the way: what was sorted as a whole is as it was -/
structure Way (lt : α → α → Bool) (n : Nat) (d dk : Array α) : Prop where
  perm : PermIn 0 n d dk
  stays : SortedIn lt 0 n d → dk = d
theorem Way.start (n : Nat) (d : Array α) : Way lt n d d := ⟨permIn_refl d 0 n, fun _ => rfl⟩
theorem Way.step {n a b : Nat} {d dk d' : Array α} (h : Way lt n d dk) (hn : n ≤ d.size) (hb : b ≤ n) (m : Merged lt a b dk d') : Way lt n d d' :=
  ⟨permIn_trans _ _ _ _ _ h.perm (permIn_mono dk d' a b 0 n (Nat.zero_le _) hb (by rw [h.perm.1]; exact hn) m.perm), fun hs => by
    have e := h.stays hs
    subst e
    exact m.stays (sorted_part hs (Nat.zero_le _) hb)⟩
theorem blkTo_step {s q0 : Nat} {dk d' : Array α} (h : BlkTo lt s q0 dk) (m : Merged lt (q0 * s) (q0 * s + s) dk d') : BlkTo lt s (q0 + 1) d' := by
  intro q hq
  by_cases e : q = q0
  · subst e; exact m.sorted
  · have hle : (q + 1) * s ≤ q0 * s := Nat.mul_le_mul_right s (by omega)
    rw [Nat.add_mul, Nat.one_mul] at hle
    intro i j h1 h2 h3
    rw [m.perm.2.1 i (Or.inl (by omega)), m.perm.2.1 j (Or.inl (by omega))]
    exact h q (by omega) i j h1 h2 h3
theorem blkFrom_step {s n q0 : Nat} {dk d' : Array α} (h : BlkFrom lt s n (2 * q0) dk) (p : PermIn (q0 * (2 * s)) (q0 * (2 * s) + 2 * s) dk d') : BlkFrom lt s n (2 * (q0 + 1)) d' := by
  intro q hq
  have hle : (2 * q0 + 2) * s ≤ q * s := Nat.mul_le_mul_right s (by omega)
  have e1 : (2 * q0 + 2) * s = q0 * (2 * s) + 2 * s := by rw [Nat.add_mul, Nat.mul_comm 2 q0, Nat.mul_assoc]
  intro i j h1 h2 h3
  rw [p.2.1 i (Or.inr (by omega)), p.2.1 j (Or.inr (by omega))]
  exact h q (by omega) i j h1 h2 h3
/-- behind the first pass: all blocks -/
theorem blk_all {s n q0 : Nat} {dk d' : Array α} (h : BlkTo lt s q0 dk) (hn : n ≤ q0 * s + s) (hq : q0 * s ≤ n) (m : Merged lt (q0 * s) n dk d') : BlkFrom lt s n 0 d' := by
  intro q _
  by_cases h1 : q < q0
  · have hle : (q + 1) * s ≤ q0 * s := Nat.mul_le_mul_right s (by omega)
    rw [Nat.add_mul, Nat.one_mul] at hle
    intro i j r1 r2 r3
    rw [m.perm.2.1 i (Or.inl (by omega)), m.perm.2.1 j (Or.inl (by omega))]
    exact h q h1 i j r1 r2 (by omega)
  · by_cases h2 : q = q0
    · subst h2
      exact sorted_part m.sorted (Nat.le_refl _) (by omega)
    · have hle : (q0 + 1) * s ≤ q * s := Nat.mul_le_mul_right s (by omega)
      rw [Nat.add_mul, Nat.one_mul] at hle
      intro i j r1 r2 r3
      omega
theorem blk_pair {s n q0 : Nat} {dk : Array α} (h : BlkFrom lt s n (2 * q0) dk) (hn : q0 * (2 * s) + 2 * s ≤ n) : SortedIn lt (q0 * (2 * s)) (q0 * (2 * s) + s) dk ∧ SortedIn lt (q0 * (2 * s) + s) (q0 * (2 * s) + 2 * s) dk := by
  have e1 : 2 * q0 * s = q0 * (2 * s) := by rw [Nat.mul_comm 2 q0, Nat.mul_assoc]
  have e2 : (2 * q0 + 1) * s = q0 * (2 * s) + s := by rw [Nat.add_mul, e1, Nat.one_mul]
  have h1 := h (2 * q0) (Nat.le_refl _)
  have h2 := h (2 * q0 + 1) (by omega)
  rw [e1] at h1
  rw [e2] at h2
  exact ⟨sorted_part h1 (Nat.le_refl _) (by omega), sorted_part h2 (Nat.le_refl _) (by omega)⟩
/-- the rest behind the last pair -/
theorem blk_rest {s n q0 : Nat} {dk : Array α} (h : BlkFrom lt s n (2 * q0) dk) : SortedIn lt (q0 * (2 * s)) (min (q0 * (2 * s) + s) n) dk ∧ SortedIn lt (q0 * (2 * s) + s) (min (q0 * (2 * s) + 2 * s) n) dk := by
  have e1 : 2 * q0 * s = q0 * (2 * s) := by rw [Nat.mul_comm 2 q0, Nat.mul_assoc]
  have e2 : (2 * q0 + 1) * s = q0 * (2 * s) + s := by rw [Nat.add_mul, e1, Nat.one_mul]
  have h1 := h (2 * q0) (Nat.le_refl _)
  have h2 := h (2 * q0 + 1) (by omega)
  rw [e1] at h1
  rw [e2] at h2
  exact ⟨h1, sorted_part h2 (Nat.le_refl _) (by omega)⟩
theorem blk_done {s n : Nat} {d : Array α} (h : BlkFrom lt s n 0 d) (hn : n ≤ s) : SortedIn lt 0 n d := by
  have h1 := h 0 (Nat.le_refl _)
  rw [Nat.zero_mul, Nat.zero_add, Nat.min_eq_right hn] at h1
  exact h1
end
end Go.Proofs.YtiamohfpohjdpaaDoor
