/- slices.DeleteFunc OVER THE OPERATIONS THAT WAIT: the late ones go, and their stamps. -/
import Derived.Test.YtiamohfpohjdpaaDoorCAddOne
namespace Go.Proofs.YtiamohfpohjdpaaDoor
open Go.RowKit Go.Joins
set_option linter.unusedSimpArgs false
set_option linter.unusedVariables false
open Classical

theorem cellsL_set : ∀ (l : List OpG) (j : Nat) (x : OpG), j < l.length → cellsL (l.set j x) = (cellsL l).take (j * 26) ++ x.cells.toList ++ (cellsL l).drop (j * 26 + 26)
  | [], j, x, h => by simp at h
  | y :: l, 0, x, h => by
    rw [List.set_cons_zero, cellsL, cellsL, Nat.zero_mul, Nat.zero_add, List.take_zero, List.nil_append]
    rw [List.drop_left' (show y.cells.toList.length = 26 from rfl)]
  | y :: l, j + 1, x, h => by
    have ih := cellsL_set l j x (by simpa using h)
    have e1 : (j + 1) * 26 = y.cells.toList.length + j * 26 := by show _ = 26 + _; omega
    have e2 : (j + 1) * 26 + 26 = y.cells.toList.length + (j * 26 + 26) := by show _ = 26 + _; omega
    rw [List.set_cons_succ, cellsL, ih, cellsL, e2, e1, List.drop_length_add_append, List.take_length_add_append]
    simp only [List.append_assoc]
theorem OwnO.set {w : World} {base B n cap : Nat} {l : List OpG} (h : OwnO w base (.slice (some ⟨B, 0, none⟩) n cap) l) {j : Nat} (hj : j < l.length) (x : OpG) :
    ∃ cur, w.heap[B]? = some (.cells cur 39 (0, 0)) ∧ j * 26 + 26 ≤ cur.size ∧ ∀ w', w'.heap[B]? = some (.cells (splice cur (j * 26) x.cells.toList) 39 (0, 0)) → OwnO w' base (.slice (some ⟨B, 0, none⟩) n cap) (l.set j x) := by
  rcases h.form with ⟨h0, _⟩ | ⟨A, cap', cur, he, hbase, hb, hnc, hc, hs, ht⟩
  · cases h0
  · simp only [Value.slice.injEq, Option.some.injEq, Addr.mk.injEq] at he
    obtain ⟨⟨rfl, -, -⟩, hlen, rfl⟩ := he
    refine ⟨cur, hb, by omega, fun w' hb' => ?_⟩
    have c26 : x.cells.toList.length = 26 := rfl
    have := OwnO.mk (L := l.set j x) (cap := cap) hbase hb' (by rw [List.length_set]; exact hnc) hc (by rw [splice_size _ _ _ (by rw [c26]; omega)]; exact hs) (by
      rw [List.length_set, cellsL_set l j x hj, ← ht]
      unfold splice
      rw [c26]
      simp only [List.take_append, List.length_append, List.length_take, c26, Array.length_toList]
      rw [Nat.min_eq_left (by omega : j * 26 ≤ cur.size)]
      rw [List.take_take, List.take_take, Nat.min_eq_right (by omega : j * 26 ≤ l.length * 26), List.drop_take]
      rw [List.take_of_length_le (by rw [c26]; omega : x.cells.toList.length ≤ l.length * 26 - j * 26)]
      rw [Nat.min_eq_left (by omega : j * 26 ≤ l.length * 26)])
    rw [List.length_set, ← hlen] at this
    exact this
/-- the row's content turned, in its own block -/
theorem StoreG.rowW {z w4 : World} {s tb db B n cap : Nat} {va : Value} {A D W T W' : List OpG} {kv : V8} {G : Nat → Prop} (h : StoreG z s tb db va (.slice (some ⟨B, 0, none⟩) n cap) A D kv W T G) (c : Ch (fun x => x = B) z w4) (ho : OwnO w4 0 (.slice (some ⟨B, 0, none⟩) n cap) W') :
    StoreG w4 s tb db va (.slice (some ⟨B, 0, none⟩) n cap) A D kv W' T G := by
  obtain ⟨k1, k2, k3, k4, k5⟩ := h.nW B rfl
  obtain ⟨m, hd⟩ := h.done
  exact ⟨c.at h.top (fun e => k1 e.symm), h.all.ch c (fun b hb e => k5 (e ▸ hb)), ho, h.there.ch c (fun e => k2 e.symm), ⟨m, hd.ch c (fun e => k3 e.symm)⟩, h.two, h.nA, h.nW, h.fs⟩
/-- a store but for the row of those that wait -/
structure StoreN (w : World) (s tb db : Nat) (va vw : Value) (A D : List OpG) (kv : V8) (T : List OpG) (F : Nat → Prop) : Prop where
  top : w.heap[s]? = some (.cells (stC va vw tb db kv) 55 (0, 0))
  all : OwnO w 0 va A
  there : MapIs w tb encS (thF T) T.length
  done : ∃ n, MapIs w db encS (thF D) n
  two : tb ≠ db ∧ s ≠ tb ∧ s ≠ db
  nA : ∀ b, va.ownBlock = some b → b ≠ s ∧ b ≠ tb ∧ b ≠ db ∧ F b
  nW : ∀ b, vw.ownBlock = some b → b ≠ s ∧ b ≠ tb ∧ b ≠ db ∧ F b ∧ va.ownBlock ≠ some b
  fs : F s ∧ F tb ∧ F db
theorem StoreG.n {w : World} {s tb db : Nat} {va vw : Value} {A D W T : List OpG} {kv : V8} {F : Nat → Prop} (h : StoreG w s tb db va vw A D kv W T F) : StoreN w s tb db va vw A D kv T F := ⟨h.top, h.all, h.there, h.done, h.two, h.nA, h.nW, h.fs⟩
theorem StoreN.ch {w w' : World} {s tb db B n cap : Nat} {va : Value} {A D T : List OpG} {kv : V8} {F : Nat → Prop} (h : StoreN w s tb db va (.slice (some ⟨B, 0, none⟩) n cap) A D kv T F) (c : Ch (fun x => x = B) w w') : StoreN w' s tb db va (.slice (some ⟨B, 0, none⟩) n cap) A D kv T F := by
  obtain ⟨k1, k2, k3, k4, k5⟩ := h.nW B rfl
  obtain ⟨m, hd⟩ := h.done
  exact ⟨c.at h.top (fun e => k1 e.symm), h.all.ch c (fun b hb e => k5 (e ▸ hb)), h.there.ch c (fun e => k2 e.symm), ⟨m, hd.ch c (fun e => k3 e.symm)⟩, h.two, h.nA, h.nW, h.fs⟩
/-- the row of those that wait, put back -/
theorem StoreN.putW {w : World} {s tb db : Nat} {va vw v2 : Value} {A D T W' : List OpG} {kv : V8} {F : Nat → Prop} (h : StoreN w s tb db va vw A D kv T F) (ho : OwnO w 0 v2 W') (hv : ∀ b, v2.ownBlock = some b → vw.ownBlock = some b) (hsl : ∃ ao n c, v2 = .slice ao n c) :
    StoreG (w.setCell ⟨s, 11, none⟩ v2) s tb db va v2 A D kv W' T F ∧ Ch F w (w.setCell ⟨s, 11, none⟩ v2) := by
  obtain ⟨m, hd⟩ := h.done
  have c : Ch (fun x => x = s) w (w.setCell ⟨s, 11, none⟩ v2) := (Ch.refl (fun x => x = s) w).setCell ⟨s, 11, none⟩ v2 (fun _ => rfl)
  refine ⟨⟨by rw [blk_set h.top]; rfl, h.all.ch c (fun b hb => (h.nA b hb).1), ho.ch c (fun b hb => (h.nW b (hv b hb)).1), h.there.ch c (fun e => h.two.2.1 e.symm), ⟨m, hd.ch c (fun e => h.two.2.2 e.symm)⟩, h.two, h.nA, fun b hb => h.nW b (hv b hb), h.fs⟩, c.mono (fun x _ e => e ▸ h.fs.1)⟩
/-- those that stay -/
noncomputable def keepL (A W : List OpG) : List OpG := W.filter fun x => !decide (Cz.Late MO A x)
theorem keepL_snoc_late {A W : List OpG} {x : OpG} (h : Cz.Late MO A x) : keepL A (W ++ [x]) = keepL A W := by unfold keepL; rw [List.filter_append]; simp [h]
theorem keepL_snoc_keep {A W : List OpG} {x : OpG} (h : ¬ Cz.Late MO A x) : keepL A (W ++ [x]) = keepL A W ++ [x] := by unfold keepL; rw [List.filter_append]; simp [h]
theorem keepL_le (A W : List OpG) : (keepL A W).length ≤ W.length := List.length_filter_le _ _
theorem keepL_all {A W : List OpG} (h : ∀ x ∈ W, ¬ Cz.Late MO A x) : keepL A W = W := List.filter_eq_self.2 (fun x hx => by simp [h x hx])
theorem keepL_sub (A W : List OpG) : (keepL A W).Sublist W := List.filter_sublist
theorem split_get {W : List OpG} {q : Nat} {x : OpG} (h : W[q]? = some x) : W = W.take q ++ x :: W.drop (q + 1) := by
  have h1 := List.getElem?_eq_some_iff.1 h
  rw [← h1.2, ← List.drop_eq_getElem_cons h1.1, List.take_append_drop]
theorem split_uniq {W U V : List OpG} {q : Nat} {x : OpG} (hn : (Cz.ids MO W).Nodup) (h : W[q]? = some x) (e : W = U ++ x :: V) : U = W.take q ∧ V = W.drop (q + 1) := by
  have hu : W[U.length]? = some x := by rw [e, List.getElem?_append_right (Nat.le_refl _)]; simp
  have hq : U.length = q := by
    unfold Cz.ids at hn
    refine (List.getElem?_inj (by simp; rw [e]; simp) hn).1 ?_
    rw [List.getElem?_map, List.getElem?_map, hu, h]
  subst hq
  refine ⟨?_, ?_⟩
  · conv => rhs; rw [e]
    simp
  · conv => rhs; rw [e]
    simp
structure DF (z0 : World) (s tb db B n cap : Nat) (va : Value) (A W : List OpG) (G : Nat → Prop) (i j : Nat) (y : World) : Prop where
  ex : ∃ R, StoreG y s tb db va (.slice (some ⟨B, 0, none⟩) n cap) A A (knownV A) R (A ++ (keepL A (W.take j) ++ W.drop j)) G ∧ R.length = n ∧ R.take i = keepL A (W.take j) ∧ R.drop j = W.drop j
  ch : Ch G z0 y
theorem DF.later {z0 y y' : World} {s tb db B n cap i j : Nat} {va : Value} {A W : List OpG} {G : Nat → Prop} (h : DF z0 s tb db B n cap va A W G i j y) (b : Below y.heap.size y y') : DF z0 s tb db B n cap va A W G i j y' := by
  obtain ⟨⟨R, h1, h2⟩, h3⟩ := h
  exact ⟨⟨R, h1.later b, h2⟩, h3.later b⟩
theorem part_nd {A W : List OpG} {j : Nat} {x : OpG} (hn : (Cz.ids MO (A ++ W)).Nodup) (hx : W[j]? = some x) : (Cz.ids MO (A ++ (keepL A (W.take j) ++ x :: W.drop (j + 1)))).Nodup := by
  refine hn.sublist (List.Sublist.map _ (List.Sublist.append_left ?_ A))
  conv => rhs; rw [split_get hx]
  exact List.Sublist.append_right (keepL_sub _ _) _
theorem delf_idx (z0 : World) (bx s tb db B n cap : Nat) (va : Value) (A W : List OpG) (G : Nat → Prop) (hS : StoreG z0 s tb db va (.slice (some ⟨B, 0, none⟩) n cap) A A (knownV A) W (A ++ W) G) (hn : W.length = n) (hrep : ∀ x ∈ W, 0 ≤ x.r ∧ x.r < 8) (hnd : (Cz.ids MO (A ++ W)).Nodup) (hl : n < 4294967296)
    (hb : z0.heap[bx]? = some (.cells #[ptr s] 24 (0, 0))) (hbx : ¬ G bx) (hG : ∀ x, z0.heap.size ≤ x → G x) :
    Calls Tryd.prog 52 #[.slice (some ⟨B, 0, none⟩) n cap, .func (.func 28) #[] #[ptr bx]] z0 fun e z' =>
      ∃ v : Int, e = .returned (.int .i64 v) ∧ ((v = -1 ∧ keepL A W = W ∧ StoreG z' s tb db va (.slice (some ⟨B, 0, none⟩) n cap) A A (knownV A) W (A ++ W) G ∧ Ch G z0 z') ∨ (∃ q : Nat, v = q ∧ q < n ∧ keepL A (W.take (q + 1)) = W.take q ∧ DF z0 s tb db B n cap va A W G q (q + 1) z')) := by
  have hsub : ∀ z z', Ch G z0 z → Ch (fun y => y = tb) z z' → Ch G z0 z' := fun z z' h c => h.trans c (fun x _ e => e ▸ hS.fs.2.1)
  have h := idx_late bx (fun x => decide (Cz.Late MO A x)) (fun z => StoreG z s tb db va (.slice (some ⟨B, 0, none⟩) n cap) A A (knownV A) W (A ++ W) G ∧ Ch G z0 z) (fun x z => ∃ U V, W = U ++ x :: V ∧ StoreG z s tb db va (.slice (some ⟨B, 0, none⟩) n cap) A A (knownV A) W (A ++ (U ++ V)) G ∧ Ch G z0 z) W (some ⟨B, 0, none⟩) cap
    (fun z hz => hz.1.wait.at.2) (fun x hx z hz => by
      obtain ⟨U, V, e⟩ := List.append_of_mem hx
      refine (addone_any z bx s tb db va _ A W (A ++ U) V (A ++ W) G x (hrep x hx).1 (hrep x hx).2 hz.1 (hz.2.at hb hbx) hbx (by rw [e]; simp) hnd _ rfl).mono ?_
      rintro e2 z' ⟨h1, h2, h3⟩
      refine ⟨h1, fun hp => ⟨hz.1.later (h2 hp), hz.2.later (h2 hp)⟩, fun hp => ?_⟩
      obtain ⟨h4, h5⟩ := h3 hp
      rw [List.append_assoc] at h4
      exact ⟨U, V, e, h4, hsub _ _ hz.2 h5⟩) (by rw [hn]; exact hl) z0 ⟨hS, Ch.refl _ _⟩
  rw [hn] at h
  refine h.mono ?_
  rintro e z' (⟨q, x, h1, h2, h3, rfl, U, V, h4, h5, h6⟩ | ⟨h1, rfl, h2, h3⟩)
  · have hnW : (Cz.ids MO W).Nodup := by
      rw [Cz.ids_app, List.nodup_append] at hnd; exact hnd.2.1
    obtain ⟨rfl, rfl⟩ := split_uniq hnW h1 h4
    have hql := (List.getElem?_eq_some_iff.1 h1).1
    have hlate : Cz.Late MO A x := of_decide_eq_true h2
    have hk0 : keepL A (W.take q) = W.take q := keepL_all (fun y hy => by
      obtain ⟨j, hj, he⟩ := List.mem_take_iff_getElem.1 hy
      exact of_decide_eq_false (h3 j y (by omega) (by rw [← he]; exact List.getElem?_eq_getElem _)))
    have hk : keepL A (W.take (q + 1)) = W.take q := by rw [take_snoc h1, keepL_snoc_late hlate, hk0]
    exact ⟨q, rfl, .inr ⟨q, rfl, by omega, hk, ⟨W, by rw [hk]; exact h5, hn, hk.symm, rfl⟩, h6⟩⟩
  · exact ⟨-1, rfl, .inl ⟨rfl, keepL_all (fun x hx => of_decide_eq_false (h1 x hx)), h2, h3⟩⟩
set_option maxHeartbeats 8000000 in
set_option maxRecDepth 100000 in
theorem delf_row (z0 : World) (bx s tb db B n cap : Nat) (va : Value) (A W : List OpG) (G : Nat → Prop) (hS : StoreG z0 s tb db va (.slice (some ⟨B, 0, none⟩) n cap) A A (knownV A) W (A ++ W) G) (hn : W.length = n) (hrep : ∀ x ∈ W, 0 ≤ x.r ∧ x.r < 8) (hnd : (Cz.ids MO (A ++ W)).Nodup) (hl : n < 4294967296)
    (hb : z0.heap[bx]? = some (.cells #[ptr s] 24 (0, 0))) (hbx : ¬ G bx) (hG : ∀ x, z0.heap.size ≤ x → G x) (k : Nat) (hk : k = (keepL A W).length) :
    Calls Tryd.prog 27 #[.slice (some ⟨B, 0, none⟩) n cap, .func (.func 28) #[] #[ptr bx]] z0 fun e z' =>
      e = .returned (.slice (some ⟨B, 0, none⟩) k cap) ∧ StoreN z' s tb db va (.slice (some ⟨B, 0, none⟩) n cap) A A (knownV A) (A ++ keepL A W) G ∧ OwnO z' 0 (.slice (some ⟨B, 0, none⟩) k cap) (keepL A W) ∧ Ch G z0 z' := by
  have hcap : n ≤ cap ∧ cap ≤ maxLen := by
    rcases hS.wait.form with ⟨h0, _⟩ | ⟨B', cap', cur, he, hB, hb, hn2, hc, hs, ht⟩
    · cases h0
    · simp only [Value.slice.injEq, Option.some.injEq, Addr.mk.injEq] at he
      obtain ⟨-, h5, rfl⟩ := he
      omega
  have hc1 := hcap.1
  have hc2 := hcap.2
  unfold maxLen at hc2
  have HIX := Lib.hid (delf_idx z0 bx s tb db B n cap va A W G hS hn hrep hnd hl hb hbx hG)
  have HIN := Lib.hid (And.intro hn (And.intro hrep (And.intro hnd (And.intro hb (And.intro hbx hG)))))
  have HK := Lib.hid hk
  clear hS hn hrep hnd hb hbx hG hk hcap
  go_enter Tryd.func27, Tryd.ntmps27
  go_wp2_with fail
  with_reducible refine HIX.out.mono ?_
  rintro e z1 ⟨v, rfl, hv⟩
  rcases hv with ⟨rfl, hkw, hst, hch⟩ | ⟨q, rfl, hqn, hkq, hdf⟩
  · have HE := Lib.hid (And.intro hkw (And.intro hst hch))
    clear hkw hst hch HIX
    go_wp2
    go_ret
    have hkn : k = n := by rw [HK.out, HE.out.1]; exact HIN.out.1
    rw [HE.out.1, hkn]
    exact ⟨rfl, HE.out.2.1.n, HE.out.2.1.wait, HE.out.2.2⟩
  · have HD := Lib.hid hdf
    have HKQ := Lib.hid hkq
    have dm1 : ((q : Int) == -1) = false := beq_eq_false_iff_ne.2 (by omega)
    clear hdf hkq HIX
    go_wp2_with fail
    go_loopw [5, 6] (fun vi vj wr => ∃ i j : Nat, vi = .int .i64 i ∧ vj = .int .i64 j ∧ j ≤ n ∧ i < j ∧ Hid (i = (keepL A (W.take j)).length) ∧ Hid (DF z0 s tb db B n cap va A W G i j wr)) (fun _ vj _ => n - (intOf vj).toNat)
    case atStart => exact ⟨q, q + 1, rfl, by go_num, by omega, by omega, Lib.hid (by rw [HKQ.out, List.length_take, HIN.out.1]; omega), HD⟩
    case round =>
      obtain ⟨i, j, rfl, rfl, hjn, hij, HI, HDF⟩ := hrel
      obtain ⟨⟨R, hst, hR, htk, hdp⟩, hch⟩ := HDF.out
      have HST := Lib.hid hst
      have HR := Lib.hid (And.intro hR (And.intro htk hdp))
      have HCH := Lib.hid hch
      clear hst hR htk hdp hch
      by_cases hjl : j < n
      · obtain ⟨x, hx⟩ : ∃ x, W[j]? = some x := ⟨_, List.getElem?_eq_getElem (by rw [HIN.out.1]; exact hjl)⟩
        have hRx : R[j]? = some x := by
          have h1 := congrArg (fun l => l[0]?) HR.out.2.2
          simp only [List.getElem?_drop, Nat.add_zero] at h1
          rw [h1, hx]
        obtain ⟨_, _, e, _, hc⟩ := HST.out.wait.at.2 j x hRx
        cases e
        have HX := Lib.hid (And.intro hx hRx)
        have HC := Lib.hid (show ∀ (t : Nat) v, x.cells[t]? = some v → wr.cell? ⟨B, j * 26 + t, none⟩ = some v from fun t v hv => by have := hc t v hv; rwa [Nat.zero_add] at this)
        have b0 : (0 : Int) ≤ (j : Int) := by omega
        have b1 : (j : Int) < (n : Int) := by omega
        clear hx hRx hc
        go_upto_region 8 with (first | refine wpList_load_at (.tmp 24) 39 rfl rfl B (j * 26) x.cells rfl Tryd.underlying39 (by kernel_rfl) HC.out ?_ | refine wpList_store_fresh rfl (.tmp 7) (.tmp 25) 39 rfl (wr.heap.size) _ _ rfl (by simp) rfl (by kernel_rfl) (by kernel_rfl) (by kernel_rfl) ?_)
        refine wp_let' (OpBox x wr) (opBox_new x wr) (fun y1 hy1 => ?_)
        have HY1 := Lib.hid hy1
        clear hy1 HC b0 b1
        have hdj : W.drop j = x :: W.drop (j + 1) := by
          have h1 := List.getElem?_eq_some_iff.1 HX.out.1
          rw [← h1.2]; exact List.drop_eq_getElem_cons h1.1
        have hRd : R.drop (j + 1) = W.drop (j + 1) := by
          have := congrArg (fun l => l.drop 1) HR.out.2.2
          simpa [List.drop_drop] using this
        have hxm : x ∈ W := List.mem_of_getElem? HX.out.1
        have HRD := Lib.hid hRd
        have HAO := Lib.hid (fun g hg => addone_any y1 bx s tb db va _ A R (A ++ keepL A (W.take j)) (W.drop (j + 1)) (A ++ (keepL A (W.take j) ++ W.drop j)) G x (HIN.out.2.1 x hxm).1 (HIN.out.2.1 x hxm).2 (HST.out.later HY1.out.1) (((HCH.out.later HY1.out.1)).at HIN.out.2.2.2.1 HIN.out.2.2.2.2.1) HIN.out.2.2.2.2.1 (by rw [hdj, List.append_assoc]) (by rw [hdj]; exact part_nd HIN.out.2.2.1 HX.out.1) g hg)
        clear hdj hRd hxm
        by_cases hlate : Cz.Late MO A x
        · have HL := Lib.hid (HAO.out true (decide_eq_true hlate).symm)
          have HLT := Lib.hid hlate
          clear hlate HAO
          go_wp2_with (refine wpList_load_whole (.tmp 7) 39 rfl rfl wr.heap.size x.cells rfl Tryd.underlying39 (by kernel_rfl) HY1.out.2 ?_)
          with_reducible refine HL.out.mono ?_
          rintro e z2 ⟨rfl, -, h3⟩
          have h4 := h3 (by trivial)
          rw [List.append_assoc] at h4
          have HZ := Lib.hid h4
          have HKS := Lib.hid (show keepL A (W.take (j + 1)) = keepL A (W.take j) by rw [take_snoc HX.out.1, keepL_snoc_late HLT.out])
          clear h3 h4 HL
          go_wp2
          go_roundw
          case rel => exact ⟨i, j + 1, rfl, by go_num, by omega, by omega, Lib.hid (by rw [HKS.out]; exact HI.out), Lib.hid ⟨⟨R, by rw [HKS.out]; exact HZ.out.1, HR.out.1, by rw [HKS.out]; exact HR.out.2.1, HRD.out⟩, (HCH.out.later HY1.out.1).trans HZ.out.2 (fun y _ e => e ▸ HST.out.fs.2.1)⟩⟩
          case measure => simp [intOf]; omega
        · have HL := Lib.hid (HAO.out false (decide_eq_false hlate).symm)
          have HLT := Lib.hid hlate
          clear hlate HAO
          go_wp2_with (refine wpList_load_whole (.tmp 7) 39 rfl rfl wr.heap.size x.cells rfl Tryd.underlying39 (by kernel_rfl) HY1.out.2 ?_)
          with_reducible refine HL.out.mono ?_
          rintro e z2 ⟨rfl, h2, -⟩
          have hb2 := HY1.out.1.trans ((h2 (by trivial)).mono HY1.out.1.size)
          have hst2 := HST.out.later hb2
          obtain ⟨cur, hB, hfit, hset⟩ := hst2.wait.set (j := i) (by rw [HR.out.1]; omega) x
          have HX2 := Lib.hid (((h2 (by trivial)).block _ (heap_lt HY1.out.2)).trans HY1.out.2)
          have HB := Lib.hid (And.intro hB (And.intro hfit hset))
          have HS2 := Lib.hid (And.intro hst2 (HCH.out.later hb2))
          have HKS := Lib.hid (show keepL A (W.take (j + 1)) = keepL A (W.take j) ++ [x] by rw [take_snoc HX.out.1, keepL_snoc_keep HLT.out])
          have i0 : (0 : Int) ≤ (i : Int) := by omega
          have i1 : (i : Int) < (n : Int) := by omega
          clear h2 hb2 hst2 hB hfit hset HL
          go_wp2_with (first | (refine wpList_load_whole (.tmp 7) 39 rfl rfl wr.heap.size x.cells rfl Tryd.underlying39 (by kernel_rfl) HX2.out ?_) | (refine wpList_store_at rfl (.tmp 33) (.tmp 32) 39 rfl B (i * 26) x.cells cur rfl rfl HB.out.1 HB.out.2.1 (by kernel_rfl) (op_one x) ?_; intro w3 hc3 hb3 hs3; have H3 := Lib.hid (And.intro hc3 hb3); clear hc3 hb3 hs3))
          go_roundw
          case rel =>
            refine ⟨i + 1, j + 1, by go_num, by go_num, by omega, by omega, Lib.hid (by rw [HKS.out, List.length_append, ← HI.out]; rfl), Lib.hid ⟨⟨R.set i x, ?_, by rw [List.length_set]; exact HR.out.1, ?_, ?_⟩, HS2.out.2.trans H3.out.1 (fun y _ e => e ▸ (HST.out.nW B rfl).2.2.2.1)⟩⟩
            · have h5 := HS2.out.1.rowW H3.out.1 (HB.out.2.2 _ H3.out.2)
              have hdj : W.drop j = x :: W.drop (j + 1) := by
                have h1 := List.getElem?_eq_some_iff.1 HX.out.1
                rw [← h1.2]; exact List.drop_eq_getElem_cons h1.1
              rw [hdj] at h5
              rw [HKS.out]
              simpa using h5
            · rw [HKS.out, ← HR.out.2.1]
              have hir : i < R.length := by rw [HR.out.1]; omega
              rw [List.take_add_one, List.take_set_of_le (Nat.le_refl _), List.getElem?_set_self hir]
              rfl
            · rw [List.drop_set_of_lt (by omega), HRD.out]
          case measure => simp [intOf]; omega
      · have hje : j = n := by omega
        subst hje
        have htkW : W.take j = W := by rw [← HIN.out.1, List.take_length]
        have hiK : i = k := by rw [HI.out, htkW, HK.out]
        have hin : i ≤ j := by omega
        have hstk : R.take i = keepL A W := by rw [HR.out.2.1, htkW]
        have hst3 := HST.out
        rw [htkW, show W.drop j = [] by rw [← HIN.out.1]; exact List.drop_length, List.append_nil] at hst3
        have HS3 := Lib.hid hst3
        have HTK := Lib.hid (And.intro hstk hiK)
        obtain ⟨cur, hB, hsz, htk, hbs⟩ : ∃ cur, wr.heap[B]? = some (.cells cur 39 (0, 0)) ∧ cur.size = cap * 26 ∧ cur.toList.take (R.length * 26) = cellsL R ∧ 0 ≤ B := by
          rcases hst3.wait.form with ⟨h0, _⟩ | ⟨B', cap', cur, he, hB, hb, hn2, hc, hs, ht⟩
          · cases h0
          · simp only [Value.slice.injEq, Option.some.injEq, Addr.mk.injEq] at he
            obtain ⟨⟨rfl, -, -⟩, -, rfl⟩ := he
            exact ⟨cur, hb, hs, ht, hB⟩
        have HBK := Lib.hid (And.intro hB (And.intro hsz htk))
        have djn : decide ((j : Int) < (j : Int)) = false := by simp
        have i0 : (0 : Int) ≤ (i : Int) := by omega
        have i1 : (i : Int) ≤ (j : Int) := by omega
        have i2 : (i : Int) ≤ (cap : Int) := by omega
        clear htkW hiK hstk hst3 hB hsz htk hbs HDF HST
        have HIL := Lib.hid (show i ≤ R.length ∧ R.length = j from ⟨by rw [HR.out.1]; omega, HR.out.1⟩)
        have HCH2 := Lib.hid HCH.out
        have hci : ¬ cap = i := by omega
        go_wp2_with (refine wpList_clear_ex _ rfl (.tmp 38) 22 rfl _ rfl (clear_ops _ HBK.out.1 (i * 26) (j - i) _ _ (by rw [HBK.out.2.1]; omega)) ?_; rintro w2 ⟨hc2, cur', hb2, hs2, ht2⟩; have HC2 := Lib.hid hc2; have HB2 := Lib.hid (And.intro hb2 (And.intro hs2 ht2)); clear hc2 hb2 hs2 ht2)
        go_ret
        have hkl : (keepL A W).length = i := by rw [← HTK.out.1, List.length_take]; have := HIL.out.1; omega
        have hrow := OwnO.mk (cap := cap) (L := keepL A W) (Nat.zero_le B) HB2.out.1 (by omega) (by unfold maxLen; omega) (by rw [HB2.out.2.1]; exact HBK.out.2.1) (by
          rw [hkl, HB2.out.2.2, ← HTK.out.1, cellsL_take, ← HBK.out.2.2, List.take_take]
          congr 1
          have := HIL.out.1
          omega)
        rw [hkl, HTK.out.2] at hrow
        exact ⟨by rw [← HTK.out.2]; rfl, HS3.out.n.ch HC2.out, hrow, HCH2.out.trans HC2.out (fun y _ e => e ▸ (HS3.out.nW B rfl).2.2.2.1)⟩
end Go.Proofs.YtiamohfpohjdpaaDoor
