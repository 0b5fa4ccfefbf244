/- RUNS ARE NOT MIXED: plain. -/
import Derived.Test.YtohpablkgfkelaaFWritten2
namespace Go.Proofs.Ytohpablkgfkelaa
open Go.RowKit Go.Joins
set_option linter.unusedSimpArgs false
set_option linter.unusedVariables false

/-- where Between says: nothing hangs there; what stands ahead of it -/
theorem bet_pos {S : Tx} (hok : S.Ok) {n : Int} (ho : ¬ betOut S n) : S.K (betP S n) (betS S n) = [] ∧ (betS S n = 1 → S.K (betA S n) 2 ≠ []) ∧ (betS S n = 2 → betP S n = betA S n) ∧
    ∀ A B, Put S.K S.L (betP S n) (betS S n) 0 A B → (0 < n → ∃ A', A = A' ++ [betA S n]) ∧ (n = 0 → A = []) := by
  obtain ⟨h0, h1⟩ := not_or.1 ho
  unfold betP betS
  rw [if_neg ho, if_neg ho]
  have hleft : ∀ (b : St) (U C : List St) (A B : List St), S.L = U ++ b :: C → S.K b 1 = [] → Put S.K S.L b 1 0 A B → A = U := fun b U C A B hL hk hP => by
    obtain ⟨z, B', D, hB, hF⟩ := hP.c2 rfl rfl
    obtain ⟨A', hA'⟩ := hF.first_step.1 hk
    obtain rfl : z = b := by simpa using congrArg List.head? hA'
    have hn := hok.nodup
    have e := hP.eq
    rw [hB] at e
    rw [e] at hn
    exact (mid_inj (e.symm.trans hL) hn).1
  by_cases hn : 0 < n
  · have hr : 0 ≤ n - 1 ∧ n - 1 < cnt S.gone S.L := by omega
    have ha : betA S n = nthV S.L S.gone (n - 1) := by unfold betA; rw [if_pos hn]
    have haL : betA S n ∈ S.L := by rw [ha]; exact nthV_mem hr
    have hN : betN S n = (S.L.idxOf (betA S n) : Nat) + 1 := by unfold betN placeV; rw [if_pos hn, if_pos haL]
    rw [hN]
    generalize betA S n = a at *
    have hsp := split_at haL
    have ha0 : a ≠ (0, 0) := fun e => hok.zero (e ▸ haL)
    by_cases hk : S.K a 2 = []
    · rw [if_pos hk, if_pos hk]
      refine ⟨hk, fun e => by omega, fun _ => rfl, fun A B hP => ⟨fun _ => hP.c4 rfl rfl ha0, fun e => by omega⟩⟩
    · rw [if_neg hk, if_neg hk]
      obtain ⟨U, V, Al, Ar, hL, -, hB, -⟩ := hok.fl.at haL
      have hnd := hok.nodup
      have e : S.L = (U ++ Al) ++ a :: (Ar ++ V) := by rw [hL]; simp
      rw [e] at hnd
      obtain ⟨e1, e2⟩ := mid_inj (e.symm.trans hsp) hnd
      cases hAr : Ar with
      | nil =>
        rw [hAr] at hB
        cases hk2 : S.K a 2 with
        | nil => exact absurd hk2 hk
        | cons y ys => rw [hk2] at hB; exact absurd rfl hB.ne_nil
      | cons b Ar' =>
        subst hAr
        have e3 : S.L = (S.L.take (S.L.idxOf a) ++ [a]) ++ b :: (Ar' ++ V) := by rw [← e1]; rw [e]; simp
        have hlen : (S.L.take (S.L.idxOf a) ++ [a]).length = S.L.idxOf a + 1 := by
          have := List.idxOf_lt_length_of_mem haL
          simp; omega
        have hat : atV S.L ((S.L.idxOf a : Nat) + 1 : Int) = b := by
          have hg2 : S.L[S.L.idxOf a + 1]? = some b := (congrArg (fun M : List St => M[S.L.idxOf a + 1]?) e3).trans (get_behind _ _ _ _ hlen)
          have hlt := (List.getElem?_eq_some_iff.1 hg2).1
          unfold atV
          rw [if_pos (by omega), List.getD_eq_getElem?_getD, show ((S.L.idxOf a : Nat) + 1 : Int).toNat = S.L.idxOf a + 1 by omega, hg2, Option.getD_some]
        rw [hat]
        have hbn : (b :: Ar').Nodup := by
          have h5 := (List.nodup_append.1 hnd).2.1
          have h6 := (List.nodup_cons.1 h5).2
          exact (List.nodup_append.1 h6).1
        have hkb := hB.head_left hbn
        exact ⟨hkb, fun _ => hk, fun e => by omega, fun A B hP => ⟨fun _ => ⟨_, hleft b _ _ A B e3 hkb hP⟩, fun e => by omega⟩⟩
  · have hn0 : n = 0 := by omega
    subst hn0
    have ha : betA S 0 = (0, 0) := rfl
    have hN : betN S 0 = 0 := rfl
    rw [ha, hN]
    by_cases hk : S.K (0, 0) 2 = []
    · rw [if_pos hk, if_pos hk]
      exact ⟨hk, fun e => by omega, fun _ => rfl, fun A B hP => ⟨fun e => by omega, fun _ => hP.c3 rfl rfl⟩⟩
    · rw [if_neg hk, if_neg hk]
      have hfl := hok.fl
      have hnd := hok.nodup
      cases hL : S.L with
      | nil =>
        rw [hL] at hfl
        cases hk2 : S.K (0, 0) 2 with
        | nil => exact absurd hk2 hk
        | cons y ys => rw [hk2] at hfl; exact absurd rfl hfl.ne_nil
      | cons b C =>
        rw [hL] at hfl hnd
        have hkb := hfl.head_left hnd
        have hat : atV (b :: C) 0 = b := by unfold atV; simp
        rw [hat]
        refine ⟨hkb, fun _ => hk, fun e => by omega, fun A B hP => ⟨fun e => by omega, fun _ => ?_⟩⟩
        rw [← hL] at hP
        exact hleft b [] C A B (by simpa using hL) hkb hP
/-- the place at an empty spot is one -/
theorem put_uniq {S : Tx} (hok : S.Ok) {p : St} {s : Int} (hp : Spot S.L p s) (hk : S.K p s = []) {A B A2 B2 : List St} (h : Put S.K S.L p s 0 A B) (h2 : Put S.K S.L p s 0 A2 B2) : A = A2 ∧ B = B2 := by
  have key : A = A2 → B = B2 := fun e => by
    subst e
    exact List.append_cancel_left (h.eq.symm.trans h2.eq)
  suffices hA : A = A2 from ⟨hA, key hA⟩
  have hn := hok.nodup
  rcases hp with ⟨rfl, rfl⟩ | ⟨hs, hm⟩
  · rw [h.c3 rfl rfl, h2.c3 rfl rfl]
  · have hp0 : p ≠ (0, 0) := fun e => hok.zero (e ▸ hm)
    rcases hs with rfl | rfl
    · obtain ⟨z, B', D, hB, hF⟩ := h.c2 rfl rfl
      obtain ⟨z2, B2', D2, hB2, hF2⟩ := h2.c2 rfl rfl
      obtain ⟨Y, hY⟩ := hF.first_step.1 hk
      obtain ⟨Y2, hY2⟩ := hF2.first_step.1 hk
      obtain rfl : z = p := by simpa using congrArg List.head? hY
      obtain rfl : z2 = z := by simpa using congrArg List.head? hY2
      have e1 := h.eq
      rw [hB] at e1
      have e2 := h2.eq
      rw [hB2] at e2
      rw [e1] at hn
      exact (mid_inj (e1.symm.trans e2) hn).1
    · obtain ⟨A', hA'⟩ := h.c4 rfl rfl hp0
      obtain ⟨A2', hA2'⟩ := h2.c4 rfl rfl hp0
      have e1 : S.L = A' ++ p :: B := by rw [h.eq, hA']; simp
      have e2 : S.L = A2' ++ p :: B2 := by rw [h2.eq, hA2']; simp
      rw [e1] at hn
      rw [hA', hA2', (mid_inj (e1.symm.trans e2) hn).1]
theorem posS_nil (x : St) : posS [] x = 0 := rfl
/-- one more, right behind one that has nothing there -/
theorem put_right {S : Tx} (hok : S.Ok) {q : St} (hk : S.K q 2 = []) {P Q A B : List St} (hL : S.L = P ++ q :: Q) (hP : Put S.K S.L q 2 0 A B) : A = P ++ [q] ∧ B = Q := by
  have hq : q ≠ (0, 0) := fun e => hok.zero (by rw [hL, ← e]; simp)
  obtain ⟨A', hA'⟩ := hP.c4 rfl rfl hq
  have e1 : S.L = A' ++ q :: B := by rw [hP.eq, hA']; simp
  have hn := hok.nodup
  rw [e1] at hn
  obtain ⟨h1, h2⟩ := mid_inj (e1.symm.trans hL) hn
  exact ⟨by rw [hA', h1], h2⟩
/-- one more, right ahead of one that has nothing there -/
theorem put_left {S : Tx} (hok : S.Ok) {q : St} (hk : S.K q 1 = []) {P Q A B : List St} (hL : S.L = P ++ q :: Q) (hP : Put S.K S.L q 1 0 A B) : A = P ∧ B = q :: Q := by
  obtain ⟨z, B', D, hB, hF⟩ := hP.c2 rfl rfl
  obtain ⟨Y, hY⟩ := hF.first_step.1 hk
  obtain rfl : z = q := by simpa using congrArg List.head? hY
  have e1 := hP.eq
  rw [hB] at e1
  have hn := hok.nodup
  rw [e1] at hn
  obtain ⟨h1, h2⟩ := mid_inj (e1.symm.trans hL) hn
  exact ⟨h1, by rw [hB, h2]⟩
/-! ### a run -/
def rid (r : Int) (i : Nat) : St := (524288 + i, r)
def sideB (b : Bool) : Int := if b then 1 else 2
def runA (p : St) (s : Int) (b : Bool) (r : Int) : Nat → ActG
  | 0 => ⟨1, rid r 0, p, s, 97 + r, 0⟩
  | i + 1 => ⟨1, rid r (i + 1), rid r i, sideB b, 97 + r, 0⟩
def runL (p : St) (s : Int) (b : Bool) (r : Int) (n : Nat) : List ActG := (List.range n).map (runA p s b r)
/-- how it stands -/
def runS (b : Bool) (r : Int) : Nat → List St
  | 0 => []
  | i + 1 => if b then rid r i :: runS b r i else runS b r i ++ [rid r i]
theorem runA_id (p : St) (s : Int) (b : Bool) (r : Int) (i : Nat) : (runA p s b r i).id = rid r i := by cases i <;> rfl
theorem runA_kd (p : St) (s : Int) (b : Bool) (r : Int) (i : Nat) : (runA p s b r i).kd = 1 := by cases i <;> rfl
theorem runS_length (b : Bool) (r : Int) : ∀ n, (runS b r n).length = n
  | 0 => rfl
  | n + 1 => by
    unfold runS
    split <;> simp [runS_length b r n]
theorem runS_mem {b : Bool} {r : Int} {x : St} : ∀ {n : Nat}, x ∈ runS b r n ↔ ∃ i, i < n ∧ x = rid r i
  | 0 => by simp [runS]
  | n + 1 => by
    have ih := runS_mem (b := b) (r := r) (x := x) (n := n)
    have key : x ∈ runS b r (n + 1) ↔ x = rid r n ∨ x ∈ runS b r n := by
      have e : runS b r (n + 1) = if b then rid r n :: runS b r n else runS b r n ++ [rid r n] := rfl
      rw [e]
      cases b
      · simp [or_comm]
      · simp
    rw [key, ih]
    constructor
    · rintro (rfl | ⟨i, hi, rfl⟩)
      · exact ⟨n, by omega, rfl⟩
      · exact ⟨i, by omega, rfl⟩
    · rintro ⟨i, hi, rfl⟩
      rcases Nat.eq_or_lt_of_le (Nat.le_of_lt_succ hi) with e | e
      · subst e; exact .inl rfl
      · exact .inr ⟨i, e, rfl⟩
theorem rid_inj {r : Int} {i j : Nat} (h : rid r i = rid r j) : i = j := by
  have := congrArg Prod.fst h
  simp [rid] at this
  omega
/-- two runs, as far as they have come, in a text -/
structure Mg (S : Tx) (A B : List St) (p : St) (s : Int) (ba bb : Bool) (i j : Nat) (T : Tx) : Prop where
  ok : T.Ok
  L : T.L = A ++ (runS ba 6 i ++ (runS bb 7 j ++ B))
  gone : T.gone = S.gone
  K0 : T.K p s = (if i = 0 then [] else [rid 6 0]) ++ (if j = 0 then [] else [rid 7 0])
  la : ∀ k, i = k + 1 → ∀ u, T.K (rid 6 k) u = []
  lb : ∀ k, j = k + 1 → ∀ u, T.K (rid 7 k) u = []
  up : ∀ q u, S.K q u ≠ [] → T.K q u ≠ []
theorem Mg.start {S T : Tx} (hT : T.Ok) (h : Like S T) {A B : List St} {p : St} {s : Int} (hk : S.K p s = []) (hL : S.L = A ++ B) (ba bb : Bool) : Mg S A B p s ba bb 0 0 T :=
  ⟨hT, by rw [← h.L, hL]; simp [runS], h.gone.symm, by rw [← h.K, hk]; simp, fun k e => by omega, fun k e => by omega, fun q u hq => by rw [← h.K]; exact hq⟩
theorem insAt_nil (x : St) : insAt [] 0 x = [x] := rfl
/-- where the runs begin -/
structure At (A B : List St) (p : St) (s : Int) : Prop where
  a0 : p = (0, 0) → A = []
  a2 : s = 2 → p ≠ (0, 0) → ∃ A', A = A' ++ [p]
  a1 : s = 1 → ∃ B', B = p :: B'
  sp : Spot (A ++ B) p s
theorem At.of {S : Tx} {A B : List St} {p : St} {s : Int} (hk : S.K p s = []) (hp : Spot S.L p s) (hP : Put S.K S.L p s 0 A B) : At A B p s := by
  refine ⟨fun e => hP.c3 rfl e, fun e h => hP.c4 rfl e h, fun e => ?_, by rw [← hP.eq]; exact hp⟩
  subst e
  obtain ⟨z, B', D, hB, hF⟩ := hP.c2 rfl rfl
  obtain ⟨Y, hY⟩ := hF.first_step.1 hk
  obtain rfl : z = p := by simpa using congrArg List.head? hY
  exact ⟨B', hB⟩
theorem first_put {T : Tx} (hok : T.Ok) {A B A' B' : List St} {p : St} {s : Int} (h : At A B p s) (hk : T.K p s = []) (hL : T.L = A ++ B) (hP : Put T.K T.L p s 0 A' B') : A' = A ∧ B' = B := by
  rcases h.sp with ⟨rfl, rfl⟩ | ⟨hs, hm⟩
  · have e1 := hP.c3 rfl rfl
    have e2 := h.a0 rfl
    subst e1
    subst e2
    exact ⟨rfl, by have := hP.eq; rw [hL] at this; simpa using this.symm⟩
  · have hp0 : p ≠ (0, 0) := fun e => hok.zero (by rw [hL, ← e]; exact hm)
    rcases hs with rfl | rfl
    · obtain ⟨B2, rfl⟩ := h.a1 rfl
      exact put_left hok hk hL hP
    · obtain ⟨A2, rfl⟩ := h.a2 rfl hp0
      exact put_right hok hk (by rw [hL]; simp) hP
theorem setK_ne {K : Kd} {q : St} {u : Int} {l : List St} (hl : l ≠ []) {q' : St} {u' : Int} (h : K q' u' ≠ []) : setK K q u l q' u' ≠ [] := by
  unfold setK
  split
  · exact hl
  · exact h
theorem kid_none {T : Tx} (hok : T.Ok) {x : St} (hx : x ∉ T.L) (h0 : x ≠ (0, 0)) (u : Int) : T.K x u = [] := by
  by_cases e : T.K x u = []
  · exact e
  · rcases hok.par x u e with ⟨_, e⟩ | ⟨_, e⟩
    · exact absurd e h0
    · exact absurd e hx
theorem rid_ne0 (r : Int) (i : Nat) : rid r i ≠ (0, 0) := fun e => by
  have := congrArg Prod.fst e
  simp [rid] at this
  omega
theorem rid_67 (i j : Nat) : rid 6 i ≠ rid 7 j := fun e => by
  have := congrArg Prod.snd e
  simp [rid] at this
theorem Mg.pne {S : Tx} {A B : List St} {p : St} {s : Int} {ba bb : Bool} {i j : Nat} {T : Tx} (h : Mg S A B p s ba bb i j T) (ha : At A B p s) : (∀ k, k < i → rid 6 k ≠ p) ∧ ∀ k, k < j → rid 7 k ≠ p := by
  have hn := h.ok.nodup
  rw [h.L] at hn
  have hAB : p = (0, 0) ∨ p ∈ A ∨ p ∈ B := by
    rcases ha.sp with ⟨_, e⟩ | ⟨_, e⟩
    · exact .inl e
    · exact .inr (List.mem_append.1 e)
  obtain ⟨n1, n2, n3⟩ := List.nodup_append.1 hn
  obtain ⟨m1, m2, m3⟩ := List.nodup_append.1 n2
  obtain ⟨l1, l2, l3⟩ := List.nodup_append.1 m2
  constructor
  · intro k hk e
    have hm : p ∈ runS ba 6 i := runS_mem.2 ⟨k, hk, e.symm⟩
    rcases hAB with h0 | h0 | h0
    · exact rid_ne0 6 k (e.trans h0)
    · exact n3 p h0 p (by simp [hm]) rfl
    · exact m3 p hm p (by simp [h0]) rfl
  · intro k hk e
    have hm : p ∈ runS bb 7 j := runS_mem.2 ⟨k, hk, e.symm⟩
    rcases hAB with h0 | h0 | h0
    · exact rid_ne0 7 k (e.trans h0)
    · exact n3 p h0 p (by simp [hm]) rfl
    · exact l3 p hm p h0 rfl
theorem stp_yes {T T' : Tx} {x q : St} {u c : Int} (hs : Stp T x q u c T') (hi : InsOk T x q u) : ∃ A B, Put T.K T.L q u (posS (T.K q u) x) A B ∧ T' = T.ins x q u c (posS (T.K q u) x) A B := by
  rcases hs with ⟨h, _⟩ | ⟨_, A, B, hP, e⟩
  · exact absurd hi h
  · exact ⟨A, B, hP, e⟩
/-- the first run goes on -/
theorem Mg.stepA {S : Tx} {A B : List St} {p : St} {s : Int} {ba bb : Bool} {i j : Nat} {T T' : Tx} (h : Mg S A B p s ba bb i j T) (ha : At A B p s) (hij : i = 0 → j = 0) {c : Int}
    (hi : InsOk T (rid 6 i) (runA p s ba 6 i).par (runA p s ba 6 i).side) (hs : Stp T (rid 6 i) (runA p s ba 6 i).par (runA p s ba 6 i).side c T') : Mg S A B p s ba bb (i + 1) j T' := by
  have hok' := hs.ok h.ok
  obtain ⟨hp6, hp7⟩ := h.pne ha
  have hx0 := rid_ne0 6 i
  have hxn := hi.2.1
  obtain ⟨A', B', hP, rfl⟩ := stp_yes hs hi
  cases i with
  | zero =>
    obtain rfl := hij rfl
    change Put T.K T.L p s (posS (T.K p s) (rid 6 0)) A' B' at hP
    have hk0 : T.K p s = [] := by rw [h.K0]; simp
    rw [hk0, posS_nil] at hP
    obtain ⟨rfl, rfl⟩ := first_put h.ok ha hk0 (by rw [h.L]; simp [runS]) hP
    have hK : (T.ins (rid 6 0) (runA p s ba 6 0).par (runA p s ba 6 0).side c (posS (T.K (runA p s ba 6 0).par (runA p s ba 6 0).side) (rid 6 0)) A' B').K = setK T.K p s [rid 6 0] := by
      show setK T.K p s (insAt (T.K p s) (posS (T.K p s) (rid 6 0)) (rid 6 0)) = _
      rw [hk0]; rfl
    have hpx : rid 6 0 ≠ p := fun e => by
      rcases ha.sp with ⟨_, e2⟩ | ⟨_, e2⟩
      · exact hx0 (e.trans e2)
      · refine hxn ?_
        rw [e, h.L]
        simp [runS]
        exact List.mem_append.1 e2
    refine ⟨hok', ?_, h.gone, ?_, fun k hk u => ?_, fun k hk => by omega, fun q u hq => ?_⟩
    · show A' ++ rid 6 0 :: B' = _
      cases ba <;> simp [runS]
    · rw [hK, setK_same]; simp
    · obtain rfl : k = 0 := by omega
      rw [hK, setK_other hpx]
      exact kid_none h.ok hxn hx0 u
    · rw [hK]; exact setK_ne (by simp) (h.up q u hq)
  | succ k =>
    change Put T.K T.L (rid 6 k) (sideB ba) (posS (T.K (rid 6 k) (sideB ba)) (rid 6 (k + 1))) A' B' at hP
    have hk0 : T.K (rid 6 k) (sideB ba) = [] := h.la k rfl _
    rw [hk0, posS_nil] at hP
    have hK : (T.ins (rid 6 (k + 1)) (runA p s ba 6 (k + 1)).par (runA p s ba 6 (k + 1)).side c (posS (T.K (runA p s ba 6 (k + 1)).par (runA p s ba 6 (k + 1)).side) (rid 6 (k + 1))) A' B').K = setK T.K (rid 6 k) (sideB ba) [rid 6 (k + 1)] := by
      show setK T.K (rid 6 k) (sideB ba) (insAt (T.K (rid 6 k) (sideB ba)) (posS (T.K (rid 6 k) (sideB ba)) (rid 6 (k + 1))) (rid 6 (k + 1))) = _
      rw [hk0]; rfl
    have hxk : rid 6 (k + 1) ≠ rid 6 k := fun e => by have := rid_inj e; omega
    refine ⟨hok', ?_, h.gone, ?_, fun k' hk' u => ?_, fun k' hk' u => ?_, fun q u hq => ?_⟩
    · show A' ++ rid 6 (k + 1) :: B' = _
      have hL := h.L
      cases ba
      · obtain ⟨rfl, rfl⟩ := put_right h.ok hk0 (P := A ++ runS false 6 k) (Q := runS bb 7 j ++ B) (by rw [hL]; simp [runS]) hP
        simp [runS]
      · obtain ⟨rfl, rfl⟩ := put_left h.ok hk0 (P := A) (Q := runS true 6 k ++ (runS bb 7 j ++ B)) (by rw [hL]; simp [runS]) hP
        simp [runS]
    · rw [hK, setK_other (fun e => hp6 k (by omega) e.symm), h.K0]; simp
    · obtain rfl : k' = k + 1 := by omega
      rw [hK, setK_other hxk]
      exact kid_none h.ok hxn hx0 u
    · rw [hK, setK_other (fun e => rid_67 _ _ e.symm)]
      exact h.lb k' hk' u
    · rw [hK]; exact setK_ne (by simp) (h.up q u hq)
/-- the second run goes on -/
theorem Mg.stepB {S : Tx} {A B : List St} {p : St} {s : Int} {ba bb : Bool} {i j : Nat} {T T' : Tx} (h : Mg S A B p s ba bb i j T) (ha : At A B p s) (hij : j = 0 → i ≤ 1) {c : Int}
    (hi : InsOk T (rid 7 j) (runA p s bb 7 j).par (runA p s bb 7 j).side) (hs : Stp T (rid 7 j) (runA p s bb 7 j).par (runA p s bb 7 j).side c T') : Mg S A B p s ba bb i (j + 1) T' := by
  have hok' := hs.ok h.ok
  obtain ⟨hp6, hp7⟩ := h.pne ha
  have hx0 := rid_ne0 7 j
  have hxn := hi.2.1
  obtain ⟨A', B', hP, rfl⟩ := stp_yes hs hi
  cases j with
  | zero =>
    have hpx : rid 7 0 ≠ p := fun e => by
      rcases ha.sp with ⟨_, e2⟩ | ⟨_, e2⟩
      · exact hx0 (e.trans e2)
      · refine hxn ?_
        rw [e, h.L]
        rcases List.mem_append.1 e2 with e3 | e3 <;> simp [e3]
    change Put T.K T.L p s (posS (T.K p s) (rid 7 0)) A' B' at hP
    have hK : (T.ins (rid 7 0) (runA p s bb 7 0).par (runA p s bb 7 0).side c (posS (T.K (runA p s bb 7 0).par (runA p s bb 7 0).side) (rid 7 0)) A' B').K = setK T.K p s (insAt (T.K p s) (posS (T.K p s) (rid 7 0)) (rid 7 0)) := rfl
    have hLK : A' ++ rid 7 0 :: B' = A ++ (runS ba 6 i ++ (runS bb 7 1 ++ B)) ∧ insAt (T.K p s) (posS (T.K p s) (rid 7 0)) (rid 7 0) = (if i = 0 then [] else [rid 6 0]) ++ [rid 7 0] := by
      have h1 : runS bb 7 1 = [rid 7 0] := by cases bb <;> rfl
      rw [h1]
      cases i with
      | zero =>
        have hk0 : T.K p s = [] := by rw [h.K0]; simp
        rw [hk0, posS_nil] at hP
        obtain ⟨rfl, rfl⟩ := first_put h.ok ha hk0 (by rw [h.L]; simp [runS]) hP
        rw [hk0]
        exact ⟨by simp [runS], rfl⟩
      | succ i =>
        obtain rfl : i = 0 := by have := hij rfl; omega
        have hk0 : T.K p s = [rid 6 0] := by rw [h.K0]; simp
        have hp1 : posS [rid 6 0] (rid 7 0) = 1 := by decide
        rw [hk0, hp1] at hP
        have h6 : runS ba 6 1 = [rid 6 0] := by cases ba <;> rfl
        obtain ⟨z, A2, D, hA2, hF⟩ := hP.c1 0 (rid 6 0) rfl (by rw [hk0]; rfl)
        have hF2 : Fl T.K [rid 6 0] ([] ++ rid 6 0 :: ([] ++ [])) := .cons (by rw [h.la 0 rfl 1]; exact .nil) (by rw [h.la 0 rfl 2]; exact .nil) .nil
        have hz : D ++ [z] = [rid 6 0] := hF.det hF2
        obtain rfl : z = rid 6 0 := by
          have := congrArg List.getLast? hz
          simpa using this
        have e1 : T.L = A2 ++ rid 6 0 :: B' := by rw [hP.eq, hA2]; simp
        have e2 : T.L = A ++ rid 6 0 :: B := by rw [h.L, h6]; simp [runS]
        have hn := h.ok.nodup
        rw [e1] at hn
        obtain ⟨rfl, rfl⟩ := mid_inj (e1.symm.trans e2) hn
        rw [hk0, hp1, hA2, h6]
        exact ⟨by simp, rfl⟩
    refine ⟨hok', hLK.1, h.gone, ?_, fun k hk u => ?_, fun k hk u => ?_, fun q u hq => ?_⟩
    · rw [hK, setK_same, hLK.2]; simp
    · rw [hK, setK_other (hp6 k (by omega))]
      exact h.la k hk u
    · obtain rfl : k = 0 := by omega
      rw [hK, setK_other hpx]
      exact kid_none h.ok hxn hx0 u
    · rw [hK]; exact setK_ne insAt_ne (h.up q u hq)
  | succ k =>
    change Put T.K T.L (rid 7 k) (sideB bb) (posS (T.K (rid 7 k) (sideB bb)) (rid 7 (k + 1))) A' B' at hP
    have hk0 : T.K (rid 7 k) (sideB bb) = [] := h.lb k rfl _
    rw [hk0, posS_nil] at hP
    have hK : (T.ins (rid 7 (k + 1)) (runA p s bb 7 (k + 1)).par (runA p s bb 7 (k + 1)).side c (posS (T.K (runA p s bb 7 (k + 1)).par (runA p s bb 7 (k + 1)).side) (rid 7 (k + 1))) A' B').K = setK T.K (rid 7 k) (sideB bb) [rid 7 (k + 1)] := by
      show setK T.K (rid 7 k) (sideB bb) (insAt (T.K (rid 7 k) (sideB bb)) (posS (T.K (rid 7 k) (sideB bb)) (rid 7 (k + 1))) (rid 7 (k + 1))) = _
      rw [hk0]; rfl
    have hxk : rid 7 (k + 1) ≠ rid 7 k := fun e => by have := rid_inj e; omega
    refine ⟨hok', ?_, h.gone, ?_, fun k' hk' u => ?_, fun k' hk' u => ?_, fun q u hq => ?_⟩
    · show A' ++ rid 7 (k + 1) :: B' = _
      have hL := h.L
      cases bb
      · obtain ⟨rfl, rfl⟩ := put_right h.ok hk0 (P := A ++ runS ba 6 i ++ runS false 7 k) (Q := B) (by rw [hL]; simp [runS]) hP
        simp [runS]
      · obtain ⟨rfl, rfl⟩ := put_left h.ok hk0 (P := A ++ runS ba 6 i) (Q := runS true 7 k ++ B) (by rw [hL]; simp [runS]) hP
        simp [runS]
    · rw [hK, setK_other (fun e => hp7 k (by omega) e.symm), h.K0]; simp
    · rw [hK, setK_other (fun e => rid_67 _ _ e)]
      exact h.la k' hk' u
    · obtain rfl : k' = k + 1 := by omega
      rw [hK, setK_other hxk]
      exact kid_none h.ok hxn hx0 u
    · rw [hK]; exact setK_ne (by simp) (h.up q u hq)
end Go.Proofs.Ytohpablkgfkelaa
