/- THE DOCUMENT's TEXT: kids (an insertion sort), plain; rows of items turned; Compare. THE DOCUMENT's TEXT: kids, the walk. -/
import Derived.Test.YtohpablkgfkelaaFRefM
import Derived.Test.YtohpablkgfkelaaStoreAt
import Derived.Deep.DeepCutAuto
namespace Go.Proofs.Ytohpablkgfkelaa
open Go.RowKit Go.Joins
set_option linter.unusedSimpArgs false
set_option linter.unusedVariables false

def cmpR (n r m q : Int) : Int := if n < m then -1 else if m < n then 1 else if r < q then -1 else if q < r then 1 else 0
theorem cmpR_eq (n r m q : Int) : cmpR n r m q = cmpS n r m q := by
  unfold cmpR cmpS cmpI; repeat (first | omega | split)
theorem refCompare_any (n r m q : Int) (w : World) : Calls Try.prog 61 #[st n r, st m q] w fun e w' => e = .returned (.int .i64 (cmpS n r m q)) ∧ Below w.heap.size w w' := by
  rw [← cmpR_eq]
  by_cases h1 : n < m
  · rw [show cmpR n r m q = -1 from if_pos h1]
    go_enter Try.func61, Try.ntmps61
    go_wp2
    go_ret
    exact ⟨rfl, by (repeat' (first | with_reducible exact Below.refl _ _ | with_reducible assumption | with_reducible refine below_ext ?_ ?_ | with_reducible refine Below.alloc ?_ ?_ _ | with_reducible refine Below.drew ?_ | with_reducible refine below_drewN ?_ _ | with_reducible refine Below.setCell ?_ ?_ _ | go_size))⟩
  · by_cases h2 : m < n
    · rw [show cmpR n r m q = 1 from (if_neg h1).trans (if_pos h2)]
      go_enter Try.func61, Try.ntmps61
      go_wp2
      go_ret
      exact ⟨rfl, by (repeat' (first | with_reducible exact Below.refl _ _ | with_reducible assumption | with_reducible refine below_ext ?_ ?_ | with_reducible refine Below.alloc ?_ ?_ _ | with_reducible refine Below.drew ?_ | with_reducible refine below_drewN ?_ _ | with_reducible refine Below.setCell ?_ ?_ _ | go_size))⟩
    · by_cases h3 : r < q
      · rw [show cmpR n r m q = -1 from (if_neg h1).trans ((if_neg h2).trans (if_pos h3))]
        go_enter Try.func61, Try.ntmps61
        go_wp2
        go_ret
        exact ⟨rfl, by (repeat' (first | with_reducible exact Below.refl _ _ | with_reducible assumption | with_reducible refine below_ext ?_ ?_ | with_reducible refine Below.alloc ?_ ?_ _ | with_reducible refine Below.drew ?_ | with_reducible refine below_drewN ?_ _ | with_reducible refine Below.setCell ?_ ?_ _ | go_size))⟩
      · by_cases h4 : q < r
        · rw [show cmpR n r m q = 1 from (if_neg h1).trans ((if_neg h2).trans ((if_neg h3).trans (if_pos h4)))]
          go_enter Try.func61, Try.ntmps61
          go_wp2
          go_ret
          exact ⟨rfl, by (repeat' (first | with_reducible exact Below.refl _ _ | with_reducible assumption | with_reducible refine below_ext ?_ ?_ | with_reducible refine Below.alloc ?_ ?_ _ | with_reducible refine Below.drew ?_ | with_reducible refine below_drewN ?_ _ | with_reducible refine Below.setCell ?_ ?_ _ | go_size))⟩
        · rw [show cmpR n r m q = 0 from (if_neg h1).trans ((if_neg h2).trans ((if_neg h3).trans (if_neg h4)))]
          go_enter Try.func61, Try.ntmps61
          go_wp2
          go_ret
          exact ⟨rfl, by (repeat' (first | with_reducible exact Below.refl _ _ | with_reducible assumption | with_reducible refine below_ext ?_ ?_ | with_reducible refine Below.alloc ?_ ?_ _ | with_reducible refine Below.drew ?_ | with_reducible refine below_drewN ?_ _ | with_reducible refine Below.setCell ?_ ?_ _ | go_size))⟩
/-- the items that hang at a spot, of the first q -/
structure KI (I : List It) (p : St) (s : Int) (q : Nat) (L : List It) : Prop where
  so : (L.map (·.e.k)).Pairwise ltS
  mem : ∀ a, a ∈ L ↔ a ∈ I.take q ∧ a.par = p ∧ a.side = s
theorem KI.nil (I : List It) (p : St) (s : Int) : KI I p s 0 [] := ⟨List.Pairwise.nil, fun a => by simp⟩
theorem KI.skip {I : List It} {p : St} {s : Int} {q : Nat} {L : List It} (h : KI I p s q L) {a : It} (ha : I[q]? = some a) (hn : ¬ (a.par = p ∧ a.side = s)) : KI I p s (q + 1) L := by
  refine ⟨h.so, fun b => ?_⟩
  rw [h.mem, List.take_add_one, ha]
  simp only [Option.toList_some, List.mem_append, List.mem_singleton]
  constructor
  · rintro ⟨h1, h2⟩; exact ⟨.inl h1, h2⟩
  · rintro ⟨h1 | rfl, h2⟩
    · exact ⟨h1, h2⟩
    · exact absurd h2 hn
theorem KI.put {I : List It} {p : St} {s : Int} {q : Nat} {L A D : List It} (h : KI I p s q L) {a : It} (ha : I[q]? = some a) (hp : a.par = p) (hs : a.side = s) (hL : A ++ D = L) (hD : ∀ d ∈ D, ltS a.e.k d.e.k) (hA : A = [] ∨ ∃ A' y, A = A' ++ [y] ∧ ltS y.e.k a.e.k) : KI I p s (q + 1) (A ++ a :: D) := by
  subst hL
  refine ⟨?_, fun b => ?_⟩
  · have h1 := h.so
    rw [List.map_append, List.pairwise_append] at h1
    obtain ⟨h1, h2, h3⟩ := h1
    have hAa : ∀ x ∈ A, ltS x.e.k a.e.k := by
      rcases hA with rfl | ⟨A', y, rfl, hy⟩
      · intro x hx; cases hx
      · intro x hx
        rcases List.mem_append.1 hx with hx | hx
        · rw [List.map_append, List.pairwise_append] at h1
          exact ltS_trans (h1.2.2 x.e.k (List.mem_map_of_mem (f := fun z : It => z.e.k) hx) y.e.k (by simp)) hy
        · simp at hx; subst hx; exact hy
    rw [List.map_append, List.map_cons, List.pairwise_append]
    refine ⟨h1, List.pairwise_cons.2 ⟨fun z hz => ?_, h2⟩, fun x hx z hz => ?_⟩
    · obtain ⟨d, hd, rfl⟩ := List.mem_map.1 hz
      exact hD d hd
    · obtain ⟨d, hd, rfl⟩ := List.mem_map.1 hx
      rcases List.mem_cons.1 hz with rfl | hz
      · exact hAa d hd
      · exact h3 _ hx _ hz
  · have := h.mem b
    rw [List.mem_append] at this
    rw [List.take_add_one, ha]
    simp only [Option.toList_some, List.mem_append, List.mem_cons, List.not_mem_nil, or_false]
    constructor
    · rintro (h1 | rfl | h1)
      · obtain ⟨h2, h3⟩ := this.1 (.inl h1); exact ⟨.inl h2, h3⟩
      · exact ⟨.inr rfl, hp, hs⟩
      · obtain ⟨h2, h3⟩ := this.1 (.inr h1); exact ⟨.inl h2, h3⟩
    · rintro ⟨h1 | rfl, h2⟩
      · rcases this.2 ⟨h1, h2⟩ with h | h
        · exact .inl h
        · exact .inr (.inr h)
      · exact .inr (.inl rfl)
theorem KI.keys {I : List It} {S : Tx} (h : Ref I S) {p : St} {s : Int} {L : List It} (k : KI I p s I.length L) : L.map (·.e.k) = S.K p s := by
  refine sorted_eq k.so (h.ok.sorted p s) fun x => ?_
  rw [h.kid, List.mem_map]
  have := k.mem
  rw [List.take_length] at this
  constructor
  · rintro ⟨a, ha, rfl⟩
    obtain ⟨h1, h2, h3⟩ := (this a).1 ha
    exact ⟨a, h1, rfl, h2, h3⟩
  · rintro ⟨a, h1, rfl, h2, h3⟩
    exact ⟨a, (this a).2 ⟨h1, h2, h3⟩, rfl⟩
theorem KI.fresh {I : List It} {p : St} {s : Int} {q : Nat} {L : List It} (h : KI I p s q L) (hu : (I.map (·.e.k)).Nodup) {a : It} (ha : I[q]? = some a) : ∀ y ∈ L, y.e.k ≠ a.e.k := by
  intro y hy e
  obtain ⟨h1, -⟩ := (h.mem y).1 hy
  obtain ⟨i, hi⟩ := List.mem_iff_getElem?.1 h1
  rw [List.getElem?_take] at hi
  split at hi
  · have e1 : (I.map (·.e.k))[i]? = some a.e.k := by rw [List.getElem?_map, hi, ← e]; rfl
    have e2 : (I.map (·.e.k))[q]? = some a.e.k := by rw [List.getElem?_map, ha]; rfl
    obtain ⟨l1, l1e⟩ := List.getElem?_eq_some_iff.1 e1
    obtain ⟨l2, l2e⟩ := List.getElem?_eq_some_iff.1 e2
    have := (List.getElem_inj hu).1 (l1e.trans l2e.symm)
    omega
  · cases hi
/-- one item of a row is set -/
theorem itL_set : ∀ (l : List It) (j : Nat) (x : It), j < l.length → itL (l.set j x) = (itL l).take (j * 7) ++ itC x ++ (itL l).drop (j * 7 + 7)
  | [], j, x, h => by simp at h
  | y :: l, 0, x, h => by
    simp [itL, itC]
  | y :: l, j + 1, x, h => by
    have ih := itL_set l j x (by simpa using h)
    have e1 : (j + 1) * 7 = (itC y).length + j * 7 := by simp [itC]; omega
    have e2 : (j + 1) * 7 + 7 = (itC y).length + (j * 7 + 7) := by simp [itC]; omega
    unfold itL at *
    rw [List.set_cons_succ, List.flatMap_cons, ih, List.flatMap_cons, e2, e1, List.drop_length_add_append, List.take_length_add_append]
    simp
theorem RowIt.set {w : World} {base B n cap : Nat} {l : List It} (h : RowIt w base (.slice (some ⟨B, 0, none⟩) n cap) l) {j : Nat} (hj : j < l.length) (x : It) :
    ∃ cur, w.heap[B]? = some (.cells cur 92 (0, 0)) ∧ j * 7 + 7 ≤ cur.size ∧ ∀ w', w'.heap[B]? = some (.cells (splice cur (j * 7) (itC x)) 92 (0, 0)) → RowIt w' base (.slice (some ⟨B, 0, none⟩) n cap) (l.set j x) := by
  rcases h.2 with ⟨h0, _⟩ | ⟨A, cap', cur, he, hbase, hb, hnc, hc, hs, ht⟩
  · cases h0
  · have hlen : l.length = n := by
      have := congrArg (fun v => match v with | Value.slice _ n _ => n | _ => 0) he
      simpa using this.symm
    cases he
    refine ⟨cur, hb, by omega, fun w' hb' => ⟨by rw [List.length_set, itL_length, List.length_set], .inr ⟨B, cap, splice cur (j * 7) (itC x), by rw [List.length_set], hbase, hb', by rw [List.length_set]; exact hnc, hc, by rw [splice_size _ _ _ (by simp [itC]; omega)]; exact hs, ?_⟩⟩⟩
    rw [List.length_set, itL_set l j x hj, ← ht]
    unfold splice
    have c7 : (itC x).length = 7 := rfl
    rw [c7, List.take_append, List.take_append]
    simp only [List.length_append, List.length_take, c7, Array.length_toList]
    rw [Nat.min_eq_left (by omega : j * 7 ≤ cur.size)]
    rw [List.take_take, List.take_take, Nat.min_eq_right (by omega : j * 7 ≤ l.length * 7), List.drop_take]
    rw [List.take_of_length_le (by simp [itC]; omega : (itC x).length ≤ l.length * 7 - j * 7)]
    rw [Nat.min_eq_left (by omega : j * 7 ≤ l.length * 7)]
end Go.Proofs.Ytohpablkgfkelaa
namespace Go.Proofs.Ytohpablkgfkelaa
open Go.RowKit Go.Joins
set_option linter.unusedSimpArgs false
set_option linter.unusedVariables false

theorem KB.step {F : Nat → Prop} {w y z : World} {k : St} {s : Nat} (h : KB w k s y) (c : Ch F y z) (hF : ∀ x, F x → s < x) (hs : w.heap.size ≤ s) : KB w k s z :=
  ⟨Ch.deep h.b c (fun x hx => Nat.le_trans hs (Nat.le_of_lt (hF x hx))), c.at h.bx (fun hf => Nat.lt_irrefl _ (hF _ hf))⟩
theorem RowIt.some {w : World} {base : Nat} {v : Value} {l : List It} (h : RowIt w base v l) (hl : l ≠ []) {n : Nat} (hn : l.length = n) : ∃ B cap, v = .slice (some ⟨B, 0, none⟩) n cap ∧ base ≤ B ∧ n ≤ cap := by
  subst hn
  rcases h.2 with ⟨_, h0⟩ | ⟨B, cap, cur, he, hbase, hb, hnc, hc, hs, ht⟩
  · exact absurd (List.length_eq_zero_iff.1 h0) hl
  · exact ⟨B, cap, he, hbase, hnc⟩
/-- what kids leaves: its row, and nothing else -/
def KidsT (I : List It) (p : St) (s : Int) (w : World) (e : Ending) (w' : World) : Prop := ∃ v L, e = .returned v ∧ KI I p s I.length L ∧ RowIt w' w.heap.size v L ∧ Below w.heap.size w w'
/-- within the sorting of one more: a stands behind A -/
structure KW (w : World) (p : St) (B n cap : Nat) (L : List It) (a : It) (j : Nat) (y : World) : Prop where
  kb : KB w p w.heap.size y
  row : ∃ A D, A.length = j ∧ A ++ D = L ∧ (∀ d ∈ D, ltS a.e.k d.e.k) ∧ RowIt y (w.heap.size + 1) (.slice (some ⟨B, 0, none⟩) n cap) (A ++ a :: D)
set_option maxHeartbeats 8000000 in
set_option maxRecDepth 40000 in
theorem kids_any (w : World) (m : Nat) (I : List It) (S : Tx) (F : Nat → Prop) (h : RefM w m I F) (hR : Ref I S) (hl : I.length < 4294967296) (p : St) (s : Int) :
    Calls Try.prog 49 #[ptr m, encS p, .int .i64 s] w (KidsT I p s w) := by
  obtain ⟨i0, hi, hz0, hz1, hz2⟩ := info_parts infoIt
  obtain ⟨ao, cap, hm, hA⟩ := h.row
  have HA := Lib.hid hA
  have HM := Lib.hid hm
  have HR := Lib.hid hR
  clear h hA hm hR
  have hgs := run_stGuardN
  go_enter Try.func49, Try.ntmps49
  go_wp2
  go_loopw [7, 8] (fun v i wr => ∃ (q : Nat) (L : List It), i = .int .i64 q ∧ q ≤ I.length ∧ L.length ≤ q ∧ Hid (KI I p s q L) ∧ RowIt wr (w.heap.size + 1) v L ∧ Hid (KB w p w.heap.size wr)) (fun _ i _ => I.length - (intOf i).toNat)
  case atStart => exact ⟨0, [], rfl, by omega, by simp, Lib.hid (KI.nil I p s), World.ownsRow_nil _ _ _ _, Lib.hid (KB.new w p)⟩
  case round =>
    obtain ⟨q, L, rfl, hq, hLq, HK, hrow, HX⟩ := hrel
    have HRW := Lib.hid hrow
    clear hrow
    have m0 := blk_cell ((HX.out.b.block _ (heap_lt HM.out)).trans HM.out) 0
    have m1 := blk_free ((HX.out.b.block _ (heap_lt HM.out)).trans HM.out) 0
    have m2 := blk_cell ((HX.out.drew.b.block _ (heap_lt HM.out)).trans HM.out) 0
    have m3 := blk_free ((HX.out.drew.b.block _ (heap_lt HM.out)).trans HM.out) 0
    by_cases hql : q < I.length
    · obtain ⟨x, hx⟩ : ∃ x, I[q]? = some x := ⟨_, List.getElem?_eq_getElem hql⟩
      obtain ⟨B1, rfl, -, c1⟩ := HA.out.below HX.out.drew.b q x hx
      have d4 := c1 4 _ rfl
      have d5 := c1 5 _ rfl
      have d6 := c1 6 _ rfl
      have k0 := HX.out.drew.c0
      have k1 := HX.out.drew.c1
      have b0 : (0 : Int) ≤ (q : Int) := by omega
      have b1 : (q : Int) < (I.length : Int) := by omega
      have HXI := Lib.hid hx
      by_cases hp : x.par = p
      · have heq := fun w => st_eq (a := x.par) (b := p) (decide_eq_true hp) w
        by_cases hs : x.side = s
        · have hse : (x.side == s) = true := by simpa using hs
          have HC1 := Lib.hid c1
          have HP := Lib.hid hp
          have HS := Lib.hid hs
          clear c1 hx hp hs
          have d0 := HC1.out 0 _ rfl
          have d1 := HC1.out 1 _ rfl
          have d2 := HC1.out 2 _ rfl
          have d3 := HC1.out 3 _ rfl
          simp only [Nat.add_zero] at d0
          have hln : L.length + 1 < 4294967296 := by omega
          have HLN := Lib.hid hln
          clear hln
          go_wp2
          go_region
          have HXD := Lib.hid HX.out.drew
          have HRD := Lib.hid (HRW.out.later (Below.refl _ _).drew)
          generalize hye : wr.drew = y at *
          have hro := HRD.out.later ((Below.refl _ _).alloc (Nat.le_refl _) (.cells #[.int .i64 x.e.k.1, .int .i64 x.e.k.2, .int .i64 x.e.c, .bool x.e.g, .int .i64 x.par.1, .int .i64 x.par.2, .int .i64 x.side] 92))
          have HRO := Lib.hid hro
          clear hro
          go_upto_region 7 with (at_builtin; refine wpList_append_own _ rfl (.tmp 42) (.tmp 50) 57 rfl (w.heap.size + 1) 92 i0 (.agg #[.int .i64 0, .int .i64 0, .int .i64 0, .bool false, .int .i64 0, .int .i64 0, .int .i64 0]) 7 56 Try.underlying57 hi hz0 hz1 hz2 rfl (by decide) u7 _ _ rfl HRO.out ⟨y.heap.size, 0, none⟩ 1 1 (itC x) rfl rfl (fun j u hj => by rw [Addr.add_lit, Nat.zero_add, blk_cell (blk_new _ _), ← Array.getElem?_toList]; exact hj) (itC_one _) (by have := HLN.out; unfold maxLen; omega) (by have := HLN.out; omega) (by rw [World.size_alloc]; exact Nat.le_succ_of_le (by have := heap_lt HXD.out.bx; omega)) ?_; intro v1 w2 hown1 hgrow1 _)
          obtain ⟨B, cp, rfl, hB, hcp⟩ := RowIt.some (l := L ++ [x]) (by unfold RowIt; rw [List.length_append, itL_append, show itL [x] = itC x by simp [itL]]; exact hown1) (by simp) (n := L.length + 1) (by simp)
          have KW0 : KW w p B (L.length + 1) cp L x L.length w2 := ⟨(HXD.out.later (Below.alloc (Below.refl _ _) (Nat.le_refl _) _)).step (Ch.of_grown hgrow1) (fun z hz => (HRO.out.lt z hz.symm).1) (Nat.le_refl _), L, [], rfl, by simp, fun d hd => (by cases hd), by
            unfold RowIt
            rw [List.length_append, itL_append, show itL [x] = itC x by simp [itL]]
            exact hown1⟩
          have HKW := Lib.hid KW0
          clear KW0 hown1 hgrow1 HRO d0 d1 d2 d3 d4 d5 d6 k0 k1 m0 m1 m2 m3 HC1
          go_wp2
          go_loopw [9] (fun i wy => ∃ j : Nat, i = .int .i64 j ∧ j ≤ L.length ∧ Hid (KW w p B (L.length + 1) cp L x j wy)) (fun i _ => (intOf i).toNat)
          case atStart => exact ⟨L.length, by go_num, Nat.le_refl _, HKW⟩
          case round =>
            obtain ⟨j, rfl, hj, HW⟩ := hrel
            have HJ := Lib.hid hj
            have hjb : (j : Int) < 4294967296 := by omega
            clear hj
            obtain ⟨kb, A, D, hA, hAD, hD, hrow⟩ := HW.out
            rcases j with _ | j
            · obtain rfl := List.length_eq_zero_iff.1 hA
              have FIN := Lib.hid (⟨HK.out.put HXI.out HP.out HS.out hAD hD (.inl rfl), hrow.later (Below.refl _ _).drew, kb.drew, by rw [← hAD]; simp⟩ : KI I p s (q + 1) ([] ++ x :: D) ∧ RowIt wr.drew _ _ ([] ++ x :: D) ∧ KB w p w.heap.size wr.drew ∧ ([] ++ x :: D).length = L.length + 1)
              clear hA hAD hD hrow kb
              go_wp2
              go_region
              go_wp2
              go_roundw
              case rel => exact ⟨q + 1, _, by go_num, by omega, by rw [FIN.out.2.2.2]; omega, Lib.hid FIN.out.1, FIN.out.2.1, Lib.hid FIN.out.2.2.1⟩
              case measure => simp [intOf]; omega
            · obtain ⟨A', y1, rfl⟩ : ∃ A' y1, A = A' ++ [y1] := ⟨A.dropLast, A.getLast (by intro e; rw [e] at hA; simp at hA), (List.dropLast_concat_getLast _).symm⟩
              have hA' : A'.length = j := by simpa using hA
              have hat := hrow.at
              have hlen : ((A' ++ [y1]) ++ x :: D).length = L.length + 1 := by rw [← hAD]; simp; omega
              have hx1 : ((A' ++ [y1]) ++ x :: D)[j + 1]? = some x := by rw [List.getElem?_append_right (by simp; omega)]; simp [hA']
              have hy1 : ((A' ++ [y1]) ++ x :: D)[j]? = some y1 := by rw [List.getElem?_append_left (by simp; omega), List.getElem?_append_right (by omega)]; simp [hA']
              obtain ⟨_, e1, -, cx⟩ := hat _ _ hx1
              cases e1
              obtain ⟨_, e1, -, cy⟩ := hat _ _ hy1
              cases e1
              have CX := Lib.hid cx
              have CY := Lib.hid cy
              have hbx : ∀ i v, (itC x)[i]? = some v → ∀ e, (ext wr e).cell? ⟨B, (j + 1) * 7 + i, none⟩ = some v := fun i v hv e => ((ext_below wr e).cell (World.block_lt_of_cell? _ _ (cx i v hv))).trans (cx i v hv)
              have hby : ∀ i v, (itC y1)[i]? = some v → ∀ e, (ext wr e).cell? ⟨B, j * 7 + i, none⟩ = some v := fun i v hv e => ((ext_below wr e).cell (World.block_lt_of_cell? _ _ (cy i v hv))).trans (cy i v hv)
              have a0 := hbx 0 _ rfl
              have a1 := hbx 1 _ rfl
              have a2 := hby 0 _ rfl
              have a3 := hby 1 _ rfl
              simp only [Nat.add_zero] at a0 a2
              have hjb2 : (0 : Int) < (j : Int) + 1 := by omega
              have hjl : j < L.length := by have := congrArg List.length hAD; simp at this; omega
              have hjl2 : (j : Int) < (L.length : Int) := by omega
              have HLE := Lib.hid hlen
              have HRW2 := Lib.hid hrow
              have HAD := Lib.hid hAD
              have HDD := Lib.hid hD
              have HA1 := Lib.hid hA'
              have HKB := Lib.hid kb
              clear cx cy hat hx1 hy1 hA hbx hby hlen hrow hAD hD hA' kb hjl
              by_cases hlt : ltS x.e.k y1.e.k
              · have hlb : decide (cmpS x.e.k.1 x.e.k.2 y1.e.k.1 y1.e.k.2 < 0) = true := decide_eq_true hlt
                have HLT := Lib.hid hlt
                clear hlt
                go_upto_region 8 with fail
                refine region_ext (by kernel_rfl) (by kernel_rfl) ?_
                repeat (go_big_quiet_step ((go_at_call 61; with_reducible exact calls_ext (refCompare_any _ _ _ _ _))))
                refine wpQuiet_nil ?_
                rintro _ ⟨nq, rfl⟩
                have HB2 := Lib.hid (ext_below wr nq)
                have HKB2 := Lib.hid (HKB.out.later HB2.out)
                have HR2 := Lib.hid (HRW2.out.later HB2.out)
                have HPX := Lib.hid (fun i v hv => (HB2.out.cell (World.block_lt_of_cell? _ _ (CX.out i v hv))).trans (CX.out i v hv))
                have HPY := Lib.hid (fun i v hv => (HB2.out.cell (World.block_lt_of_cell? _ _ (CY.out i v hv))).trans (CY.out i v hv))
                clear a0 a1 a2 a3
                clear HB2 HKB HRW2
                generalize ext wr nq = y2 at *
                have c0 := HPX.out 0 _ rfl
                have c1 := HPX.out 1 _ rfl
                have c2 := HPX.out 2 _ rfl
                have c3 := HPX.out 3 _ rfl
                have c4 := HPX.out 4 _ rfl
                have c5 := HPX.out 5 _ rfl
                have c6 := HPX.out 6 _ rfl
                simp only [Nat.add_zero] at c0
                have HZ0 := Lib.hid ((Below.refl y2.heap.size y2).alloc (Nat.le_refl _) (.cells #[.int .i64 x.e.k.1, .int .i64 x.e.k.2, .int .i64 x.e.c, .bool x.e.g, .int .i64 x.par.1, .int .i64 x.par.2, .int .i64 x.side] 92))
                have hzb := blk_new y2 (.cells #[.int .i64 x.e.k.1, .int .i64 x.e.k.2, .int .i64 x.e.c, .bool x.e.g, .int .i64 x.par.1, .int .i64 x.par.2, .int .i64 x.side] 92 (0, 0))
                have hzs : (y2.alloc (.cells #[.int .i64 x.e.k.1, .int .i64 x.e.k.2, .int .i64 x.e.c, .bool x.e.g, .int .i64 x.par.1, .int .i64 x.par.2, .int .i64 x.side] 92)).heap.size = y2.heap.size + 1 := World.size_alloc _ _
                have HZB := Lib.hid hzb
                have HZS := Lib.hid hzs
                clear hzb hzs
                go_upto_region 11 with fail
                clear c0 c1 c2 c3 c4 c5 c6
                have HKZ := Lib.hid (HKB2.out.later HZ0.out)
                have HRZ := Lib.hid (HR2.out.later HZ0.out)
                have HQY := Lib.hid (fun i v hv => (HZ0.out.cell (World.block_lt_of_cell? _ _ (HPY.out i v hv))).trans (HPY.out i v hv))
                generalize y2.alloc (.cells #[.int .i64 x.e.k.1, .int .i64 x.e.k.2, .int .i64 x.e.c, .bool x.e.g, .int .i64 x.par.1, .int .i64 x.par.2, .int .i64 x.side] 92) = z at *
                obtain ⟨cur, hcb, hfit, hset⟩ := HRZ.out.set (j := j + 1) (by rw [HLE.out]; omega) y1
                have HCB := Lib.hid hcb
                have HFI := Lib.hid hfit
                have HSE := Lib.hid hset
                clear hcb hfit hset
                have c0 := HQY.out 0 _ rfl
                have c1 := HQY.out 1 _ rfl
                have c2 := HQY.out 2 _ rfl
                have c3 := HQY.out 3 _ rfl
                have c4 := HQY.out 4 _ rfl
                have c5 := HQY.out 5 _ rfl
                have c6 := HQY.out 6 _ rfl
                simp only [Nat.add_zero] at c0
                go_upto_region 12 with (refine wpList_store_at rfl (.tmp 87) (.tmp 86) 92 rfl B ((j + 1) * 7) #[.int .i64 y1.e.k.1, .int .i64 y1.e.k.2, .int .i64 y1.e.c, .bool y1.e.g, .int .i64 y1.par.1, .int .i64 y1.par.2, .int .i64 y1.side] cur rfl rfl HCB.out HFI.out (by kernel_rfl) (fun v hv => itC_one y1 v hv) ?_; intro z1 hc1 hb1 hs1)
                clear c0 c1 c2 c3 c4 c5 c6
                have hr1 := HSE.out z1 hb1
                have HK1 := Lib.hid (HKZ.out.step hc1 (fun x hx => by subst hx; exact hB) (Nat.le_refl _))
                have hBy : B < y2.heap.size := (World.ownsRow.lt HR2.out B rfl).2
                have hbx := hc1.at HZB.out (by intro e; omega)
                obtain ⟨cur2, hcb, hfit, hset⟩ := hr1.set (j := j) (by rw [List.length_set, HLE.out]; omega) x
                have HCB2 := Lib.hid hcb
                have HFI2 := Lib.hid hfit
                have HSE2 := Lib.hid hset
                have c0 := blk_cell hbx 0
                have c1 := blk_cell hbx 1
                have c2 := blk_cell hbx 2
                have c3 := blk_cell hbx 3
                have c4 := blk_cell hbx 4
                have c5 := blk_cell hbx 5
                have c6 := blk_cell hbx 6
                clear hcb hfit hset hbx hb1 hr1
                go_upto_region 9 with (refine wpList_store_at rfl (.tmp 92) (.tmp 91) 92 rfl B (j * 7) #[.int .i64 x.e.k.1, .int .i64 x.e.k.2, .int .i64 x.e.c, .bool x.e.g, .int .i64 x.par.1, .int .i64 x.par.2, .int .i64 x.side] cur2 rfl rfl HCB2.out HFI2.out (by kernel_rfl) (fun v hv => itC_one x v hv) ?_; intro z2 hc2 hb2 hs2)
                have hr2 := HSE2.out z2 hb2
                have hls : ((A' ++ [y1] ++ x :: D).set (j + 1) y1).set j x = A' ++ x :: y1 :: D := by
                  rw [← HA1.out]
                  simp
                rw [hls] at hr2
                have HR2F := Lib.hid hr2
                have HK2 := Lib.hid (HK1.out.step hc2 (fun x hx => by subst hx; exact hB) (Nat.le_refl _))
                clear hr2 hc2 hb2 hs2 hc1 hs1
                go_wp2
                go_roundw
                case rel => exact ⟨j, by go_num, by have := HJ.out; omega, Lib.hid ⟨HK2.out, A', y1 :: D, HA1.out, by rw [← HAD.out]; simp, fun d hd => (List.mem_cons.1 hd).elim (fun e => e ▸ HLT.out) (HDD.out d), HR2F.out⟩⟩
                case measure => simp [intOf]
              · have hlb : decide (cmpS x.e.k.1 x.e.k.2 y1.e.k.1 y1.e.k.2 < 0) = false := decide_eq_false hlt
                have FIN := Lib.hid (⟨HK.out.put HXI.out HP.out HS.out HAD.out HDD.out (.inr ⟨A', y1, rfl, ltS_total hlt (fun e => HK.out.fresh HR.out.uniq HXI.out y1 (by rw [← HAD.out]; simp) e.symm)⟩), fun z (hz : Below wr.heap.size wr z) => ⟨HRW2.out.later hz, HKB.out.later hz⟩, HLE.out⟩ : KI I p s (q + 1) ((A' ++ [y1]) ++ x :: D) ∧ (∀ z, Below wr.heap.size wr z → RowIt z _ _ ((A' ++ [y1]) ++ x :: D) ∧ KB w p w.heap.size z) ∧ ((A' ++ [y1]) ++ x :: D).length = L.length + 1)
                clear hlt HRW2 HKB CX CY HAD HDD
                go_upto_region 8 with fail
                refine region_ext (by kernel_rfl) (by kernel_rfl) ?_
                repeat (go_big_quiet_step ((go_at_call 61; with_reducible exact calls_ext (refCompare_any _ _ _ _ _))))
                refine wpQuiet_nil ?_
                rintro _ ⟨nq, rfl⟩
                go_wp2
                go_roundw
                case rel => exact ⟨q + 1, _, by go_num, by omega, by rw [FIN.out.2.2]; omega, Lib.hid FIN.out.1, (FIN.out.2.1 _ (ext_below _ _)).1, Lib.hid (FIN.out.2.1 _ (ext_below _ _)).2⟩
                case measure => simp [intOf]; omega
        · have hse : (x.side == s) = false := by simpa using hs
          have HS := Lib.hid hs
          clear c1 hx hp hs
          go_wp2
          go_region
          go_wp2
          go_roundw
          case rel => exact ⟨q + 1, L, by go_num, by omega, by omega, Lib.hid (HK.out.skip HXI.out (fun h => HS.out h.2)), HRW.out.later (Below.refl _ _).drew, Lib.hid HX.out.drew⟩
          case measure => simp [intOf]; omega
      · have heq := fun w => st_eq (a := x.par) (b := p) (decide_eq_false hp) w
        have HP := Lib.hid hp
        clear c1 hx hp
        go_wp2
        go_region
        go_wp2
        go_roundw
        case rel => exact ⟨q + 1, L, by go_num, by omega, by omega, Lib.hid (HK.out.skip HXI.out (fun h => HP.out h.1)), HRW.out.later (Below.refl _ _).drew, Lib.hid HX.out.drew⟩
        case measure => simp [intOf]; omega
    · obtain rfl : q = I.length := by omega
      go_wp2
      go_ret
      exact ⟨_, L, rfl, HK.out, own_le HRW.out (Nat.le_succ _), HX.out.b⟩
end Go.Proofs.Ytohpablkgfkelaa
