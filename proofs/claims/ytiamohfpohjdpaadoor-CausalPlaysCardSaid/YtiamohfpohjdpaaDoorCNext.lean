/- A STORE OF OPERATIONS: next, the iterator over those that pend and are ready. -/
import Derived.Test.YtiamohfpohjdpaaDoorCDel
import Derived.RangeFuncNested
import Derived.RangeFuncBound
import Derived.RangeFuncCalls
import Derived.RangeFuncLeaves
namespace Go.Proofs.YtiamohfpohjdpaaDoor
open Go.RowKit Go.Joins
set_option linter.unusedSimpArgs false
set_option linter.unusedVariables false
open Classical

/-! ### a plain region inside a fence, operation by operation -/
section
variable {F : Fence} {n : Nat} {P : Program} {ops : Array Oper} {Q : Exit → Act → World → Prop} {rest : List Nat} {a : Act} {w : World} {i : Nat} {o : Oper}
theorem opsIn_value {v : Value} {w' : World} (d : Option Tmp) (ho : ops[i]? = some o) (hdst : o.dst = d) (hg : o.guard = none) (hF : ∀ f, F.fn f) (hd : ∀ f, o.op ≠ .defer f) (h : (execOp a.eval o).run P w = .ok (.value v) w') (hK : wpOpsIn F n P ops Q rest (a.put d v) w') : wpOpsIn F n P ops Q (i :: rest) a w := by
  subst hdst
  simp only [wpOpsIn, ho]
  rw [if_pos (by simp [Region.wanted, hg])]
  refine ⟨fun f _ => hF f, ?_⟩
  rw [Oper.semAt_eq _ _ _ hd, h]
  exact hK
theorem opsIn_skip {w' : World} (d : Option Tmp) (ho : ops[i]? = some o) (hdst : o.dst = d) (hg : o.guard = none) (hF : ∀ f, F.fn f) (hd : ∀ f, o.op ≠ .defer f) (h : (execOp a.eval o).run P w = .ok .skip w') (hK : wpOpsIn F n P ops Q rest (a.put d undef) w') : wpOpsIn F n P ops Q (i :: rest) a w := by
  subst hdst
  simp only [wpOpsIn, ho]
  rw [if_pos (by simp [Region.wanted, hg])]
  refine ⟨fun f _ => hF f, ?_⟩
  rw [Oper.semAt_eq _ _ _ hd, h]
  exact hK
theorem opsIn_call {f : Nat} {vs : Array Value} {R : Ending → World → Prop} (d : Option Tmp) (ho : ops[i]? = some o) (hdst : o.dst = d) (hg : o.guard = none) (hF : ∀ f, F.fn f) (hdp : F.depth = none) (hd : ∀ f, o.op ≠ .defer f) (h : (execOp a.eval o).run P w = .ok (.enter f vs) w) (H : CallsIn F (n - 1) P f vs w R)
    (hK : ∀ e w', R e w' → ∃ v, e = .returned v ∧ wpOpsIn F n P ops Q rest (a.put d v) w') : wpOpsIn F n P ops Q (i :: rest) a w := by
  subst hdst
  simp only [wpOpsIn, ho]
  rw [if_pos (by simp [Region.wanted, hg])]
  refine ⟨fun f _ => hF f, ?_⟩
  rw [Oper.semAt_eq _ _ _ hd, h, Oper.uponIn_enter]
  refine ⟨fun h => (by rw [hdp] at h; cases h), H.mono ?_⟩
  intro e w' h
  obtain ⟨v, rfl, hk⟩ := hK e w' h
  exact hk
theorem opsIn_round {l : Nat} {f : FuncId} {tmps : Array Value} {assign body : Code} {R : Ending → World → Prop} (d : Option Tmp) (ho : ops[i]? = some o) (hdst : o.dst = d) (hg : o.guard = none) (hF : ∀ f, F.fn f) (hdp : F.depth = none) (hd : ∀ f, o.op ≠ .defer f) (h : (execOp a.eval o).run P w = .ok (.round l f tmps assign body) w) (H : RoundIn F (n - 1) P l f tmps assign body w R)
    (hK : ∀ e w', R e w' → ∃ v, e = .returned v ∧ wpOpsIn F n P ops Q rest (a.put d v) w') : wpOpsIn F n P ops Q (i :: rest) a w := by
  subst hdst
  simp only [wpOpsIn, ho]
  rw [if_pos (by simp [Region.wanted, hg])]
  refine ⟨fun f _ => hF f, ?_⟩
  rw [Oper.semAt_eq _ _ _ hd, h, Oper.uponIn_round]
  refine ⟨fun h => (by rw [hdp] at h; cases h), H.mono ?_⟩
  intro e w' h
  obtain ⟨v, rfl, hk⟩ := hK e w' h
  exact hk
end
/-- a function value called: yield -/
theorem exec_yield {P : Program} {e : Operand → Value} {o : Oper} {w : World} {l : Nat} {c : Operand} {args : Array Operand} {ts : Array TypeId} {vs : List Value} {nx : Next} (ho : o.op = .call { callee := .value c, args := args, argTypes := ts }) (hc : e c = .func (.yield l) #[] #[]) (ha : args.toList.map e = vs) (hy : (Instr.yield l vs.toArray).run P w = .ok nx w) : (execOp e o).run P w = .ok nx w := by
  have ha2 : args.map e = vs.toArray := by
    apply Array.ext'
    rw [Array.toList_map, ha]
  simp [execOp, ho, resolve, invoke, hc, Result.andThen, Deferred.ofValue]
  rw [ha2]
  simpa using hy
theorem exec_move {P : Program} {e : Operand → Value} {o : Oper} {w : World} {x : Operand} {v : Value} (ho : o.op = .move x) (hx : e x = v) : (execOp e o).run P w = .ok (.value v) w := by simp [execOp, ho, hx]
theorem exec_not {P : Program} {e : Operand → Value} {o : Oper} {w : World} {t : TypeId} {x : Operand} {b : Bool} (ho : o.op = .unOp .not t x) (hx : e x = .bool b) : (execOp e o).run P w = .ok (.value (.bool !b)) w := by simp [execOp, ho, hx, Op.unary, Result.andThen]
/-- how many wait, read off the store -/
def waitN (s : Nat) (w : World) : Nat := match w.cell? ⟨s, 11, none⟩ with | some (.slice _ n _) => n | _ => 0
theorem waitN_eq {w : World} {s : Nat} {A W T : List OpG} {F : Nat → Prop} (h : StoreT w s A W T F) : waitN s w = W.length := by
  obtain ⟨tb, db, va, vw, h⟩ := h
  obtain ⟨ao, c, rfl, -, -⟩ := h.wait.at'
  unfold waitN
  rw [blk_cell h.top 11]
  rfl
/-- what next needs of a store -/
structure PI (A W : List OpG) : Prop where
  rep : ∀ x ∈ W, 0 ≤ x.r ∧ x.r < 8
  nd : (Cz.ids MO (A ++ W)).Nodup
  len : A.length + W.length < 4294967295
theorem PI.out {A U V : List OpG} {x : OpG} (h : PI A (U ++ x :: V)) : PI (A ++ [x]) (U ++ V) ∧ x.id ∉ Cz.ids MO A ∧ A.length + 1 < 4294967296 := by
  have hp : (A ++ [x] ++ (U ++ V)).Perm (A ++ (U ++ x :: V)) := by
    rw [List.append_assoc]
    refine List.Perm.append_left _ ?_
    simpa using (List.perm_middle (l₁ := U) (l₂ := V) (a := x)).symm
  refine ⟨⟨fun y hy => h.rep y (by simp at hy ⊢; rcases hy with h | h <;> simp [h]), (Cz.ids_perm (M := MO) hp).nodup_iff.2 h.nd, by have := h.len; simp at this ⊢; omega⟩, fun hm => ?_, by have := h.len; simp at this; omega⟩
  have := h.nd
  rw [Cz.ids_app, List.nodup_append] at this
  exact this.2.2 _ hm _ (Cz.mem_ids.2 ⟨x, by simp, rfl⟩) rfl
structure NJ (W1 : World) (G : Nat → Prop) (s : Nat) (T A W : List OpG) (z : World) : Prop where
  st : StoreT z s A W T G
  ch : Ch G W1 z
  pi : PI A W
theorem NJ.later {W1 : World} {G : Nat → Prop} {s : Nat} {T A W : List OpG} {z z' : World} (h : NJ W1 G s T A W z) (b : Below z.heap.size z z') : NJ W1 G s T A W z' := ⟨h.st.later b, h.ch.later b, h.pi⟩
/-- the place of the first that is ready, or -1 -/
def FstP (A W : List OpG) (z : Int) : Prop := (∃ (q : Nat) (x : OpG), z = q ∧ W[q]? = some x ∧ Cz.Ready MO A x ∧ ∀ j y, j < q → W[j]? = some y → ¬ Cz.Ready MO A y) ∨ (z = -1 ∧ ∀ x ∈ W, ¬ Cz.Ready MO A x)
theorem fst_any (z0 : World) (s : Nat) (A W T : List OpG) (G : Nat → Prop) (hS : StoreT z0 s A W T G) (hP : PI A W) (ao : Option Addr) (c : Nat) (hat : OpsAt z0 ao W) :
    Calls Tryd.prog 52 #[.slice ao W.length c, .func (.func 23) #[ptr s] #[]] z0 fun e w' => ∃ z, e = .returned (.int .i64 z) ∧ FstP A W z ∧ Below z0.heap.size z0 w' := by
  refine (idx_ready s (fun x => decide (Cz.Ready MO A x)) (fun z => Below z0.heap.size z0 z) (fun x z => Below z0.heap.size z0 z) W ao c (fun z hz => hat.below hz) (fun x hx z hz => (ready_any z s A W T G (hS.later hz) x (hP.rep x hx).1 (hP.rep x hx).2 _ rfl).mono (fun e z' ⟨h1, h2⟩ => ⟨h1, fun _ => hz.trans (h2.mono hz.size), fun _ => hz.trans (h2.mono hz.size)⟩)) (by have := hP.len; omega) z0 (Below.refl _ _)).mono ?_
  rintro e w' (⟨q, x, h1, h2, h3, rfl, h4⟩ | ⟨h1, rfl, h2⟩)
  · exact ⟨q, rfl, .inl ⟨q, x, rfl, h1, of_decide_eq_true h2, fun j y hj hy => of_decide_eq_false (h3 j y hj hy)⟩, h4⟩
  · exact ⟨-1, rfl, .inr ⟨rfl, fun x hx => of_decide_eq_false (h1 x hx)⟩, h2⟩
/-- one taken out of those that wait -/
theorem NJ.takes {W1 y z y2 : World} {G : Nat → Prop} {s tb db B n n2 cap : Nat} {va : Value} {T A W W' : List OpG} (h : NJ W1 G s T A W y) (hS : StoreG y s tb db va (.slice (some ⟨B, 0, none⟩) n cap) A A (knownV A) W T G) (hG : ∀ x, W1.heap.size ≤ x → G x) (hb : Below y.heap.size y z)
    (ho : OwnO y2 0 (.slice (some ⟨B, 0, none⟩) n2 cap) W') (hc : Ch (fun x => x = B) z y2) (hp : PI A W') : NJ W1 G s T A W' (y2.setCell ⟨s, 11, none⟩ (.slice (some ⟨B, 0, none⟩) n2 cap)) := by
  have hz := hS.later hb
  have hBs : B ≠ s := (hS.nW B rfl).1
  have h2 := hc.at hz.top (fun e => hBs e.symm)
  have cs : Ch (fun x => x = s) y2 (y2.setCell ⟨s, 11, none⟩ (.slice (some ⟨B, 0, none⟩) n2 cap)) := (Ch.refl (fun x => x = s) y2).setCell ⟨s, 11, none⟩ _ (fun _ => rfl)
  have c2 : Ch (fun x => some x = (Value.slice (some ⟨B, 0, none⟩) n cap).ownBlock ∨ x = s) z (y2.setCell ⟨s, 11, none⟩ (.slice (some ⟨B, 0, none⟩) n2 cap)) := (hc.mono (fun x _ e => Or.inl (by rw [e]; rfl))).trans cs (fun x _ e => .inr e)
  have hp2 := hz.putW (w := z) (Below.refl _ _) c2 (v2 := .slice (some ⟨B, 0, none⟩) n2 cap) (W' := W') (by rw [blk_set h2]; rfl) (ho.ch cs (fun b hb' e => by simp [Value.ownBlock] at hb'; exact hBs (hb'.trans e))) (fun b hb' => .inl hb')
  have hsz := h.ch.size
  have hsz2 := hb.size
  exact ⟨⟨tb, db, va, _, hp2.1.mono (fun x hx => hx.elim id (fun e => hG x (by omega)))⟩, (h.ch.later hb).trans hp2.2 (fun x _ e => e), hp⟩
set_option maxHeartbeats 8000000 in
set_option maxRecDepth 100000 in
theorem next_any (n l bx s : Nat) (hn : 1 ≤ n) (T A0 W0 : List OpG) (G : Nat → Prop) (W1 : World) (hbx : ¬ G bx) (hbc : W1.heap[bx]? = some (.cells #[ptr s] 24 (0, 0))) (hG : ∀ x, W1.heap.size ≤ x → G x)
    (hY : ∀ A U V x z, NJ W1 G s T A (U ++ V) z → PI A (U ++ x :: V) → YieldAt Fence.wide (n - 1) Tryd.prog l #[x.val] z fun e z' => e = .returned (.bool true) ∧ NJ W1 G s T (A ++ [x]) (U ++ V) z')
    (z0 : World) (h0 : NJ W1 G s T A0 W0 z0) :
    CallsIn Fence.wide n Tryd.prog 51 #[.func (.yield l) #[] #[], ptr bx] z0 fun e z' => (∃ v, e = .returned v) ∧ ∃ A1 W2, Cz.Drain MO A0 W0 A1 W2 ∧ NJ W1 G s T A1 W2 z' := by
  have HY := Lib.hid hY
  have HG := Lib.hid hG
  have HBC := Lib.hid hbc
  have HBX := Lib.hid hbx
  have H0 := Lib.hid h0
  clear hY hG hbc hbx h0
  refine callsIn_wide.2 ?_
  go_enter Tryd.func51, Tryd.ntmps51
  go_wp2_with fail
  go_loopw [3] (fun v wr => ∃ A W, (∀ A1 W2, Cz.Drain MO A W A1 W2 → Cz.Drain MO A0 W0 A1 W2) ∧ NJ W1 G s T A W wr) (fun v wr => waitN s wr)
  case atStart => exact ⟨A0, W0, fun _ _ h => h, H0.out⟩
  case round =>
    obtain ⟨A, W, hD, hJ⟩ := hrel
    have HD := Lib.hid hD
    have HJ := Lib.hid hJ
    have hJd := hJ.later (Below.refl _ _).drew
    obtain ⟨tb, db, va, vw, hS⟩ := hJd.st
    obtain ⟨ao, c, hvw, -, hat⟩ := hS.wait.at'
    have htop := hS.top
    rw [hvw] at htop
    have b1 := blk_cell (hJd.ch.at HBC.out HBX.out) 0
    have t11 := blk_cell htop 11
    have HTOP := Lib.hid htop
    have HIX := Lib.hid (fst_any wr.drew s A W T G hJd.st hJ.pi ao c hat)
    have hbs : Below wr.heap.size wr wr.drew := (Below.refl _ _).drew
    clear hD hJ hJd hS hat htop
    go_upto_region 0 with fail
    go_cut [3] (fun v y => ∃ z, v = .int .i64 z ∧ FstP A W z ∧ Below wr.heap.size wr y)
    case first =>
      go_region_held3 (fun w' => w'.cell? ⟨bx, 0, none⟩ = some (ptr s) ∧ w'.cell? ⟨s, 11, none⟩ = some (.slice ao W.length c)) (first | exact ⟨b1, t11⟩ | exact ⟨l1, l2⟩) (first | (go_at_call 52; (with_reducible refine HIX.out.mono ?_); rintro e y ⟨z, rfl, hz, hb⟩; have HF := Lib.hid (And.intro hz hb); have l1 := (hb.cell (World.block_lt_of_cell? _ _ b1)).trans b1; have l2 := (hb.cell (World.block_lt_of_cell? _ _ t11)).trans t11; clear hz hb))
      go_wp2_with fail
      go_meet
      exact ⟨_, rfl, HF.out.1, hbs.trans HF.out.2⟩
    case rest =>
      obtain ⟨z, rfl, hF, hb⟩ := hcut
      generalize wc = y at *
      have HB := Lib.hid hb
      clear b1 t11 hb hbs HIX HTOP
      rcases hF with ⟨q, x, rfl, hx, hrd, hnr⟩ | ⟨rfl, hnr⟩
      · have HX := Lib.hid (And.intro hx (And.intro hrd hnr))
        clear hx hrd hnr
        have hJy := HJ.out.later HB.out
        obtain ⟨tb, db, va, vw, hS⟩ := hJy.st
        have hql := (List.getElem?_eq_some_iff.1 HX.out.1).1
        obtain ⟨B, cap, hvw, hat⟩ : ∃ B cap, vw = .slice (some ⟨B, 0, none⟩) W.length cap ∧ OpsAt y (some ⟨B, 0, none⟩) W := by
          rcases hS.wait.form with ⟨_, h0⟩ | ⟨B, cap, cur, h1, h2, h3, h4, h5, h6, h7⟩
          · rw [h0] at hql; simp at hql
          · exact ⟨B, cap, h1, blk_opsAt h3 h7⟩
        subst hvw
        have HWL := Lib.hid (show W.length < 4294967296 by have := HJ.out.pi.len; omega)
        obtain ⟨N, hN⟩ : ∃ N, W.length = N := ⟨_, rfl⟩
        have htop := hS.top
        have hwt := hS.wait
        rw [hN] at htop hql
        have HSY := Lib.hid hS
        have HNN := Lib.hid hN
        obtain ⟨_, _, e, _, hc⟩ := hat q x HX.out.1
        cases e
        have HC := Lib.hid (show ∀ (j : Nat) v, x.cells[j]? = some v → y.cell? ⟨B, q * 26 + j, none⟩ = some v from fun j v hv => by have := hc j v hv; rwa [Nat.zero_add] at this)
        have b1 := blk_cell (hJy.ch.at HBC.out HBX.out) 0
        have t11 := blk_cell htop 11
        have q0 : (0 : Int) ≤ (q : Int) := by omega
        have q1 : (q : Int) < (N : Int) := by omega
        have dq : decide ((q : Int) < 0) = false := decide_eq_false (by omega)
        have HBY := Lib.hid (hJy.ch.at HBC.out HBX.out)
        have HTY := Lib.hid htop
        have HJY := Lib.hid hJy
        clear hJy hS hat htop hwt hc hN
        go_upto_region 3 with (first | refine wpList_load_at (.tmp 19) 39 rfl rfl B (q * 26) x.cells rfl Tryd.underlying39 (by kernel_rfl) HC.out ?_ | refine wpList_store_fresh rfl (.tmp 4) (.tmp 20) 39 rfl (y.heap.size) _ _ rfl (by simp) rfl (by kernel_rfl) (by kernel_rfl) (by kernel_rfl) ?_)
        refine wp_let' (OpBox x y) (opBox_new x y) (fun y1 hy1 => ?_)
        have HX1 := Lib.hid hy1
        clear hy1 b1 t11 HC
        have hb1 : Below y.heap.size y y1.drew := HX1.out.1.trans (Below.refl _ _).drew
        have hS1 := HSY.out.later hb1
        have b1 := blk_cell ((HJY.out.later hb1).ch.at HBC.out HBX.out) 0
        have ht1 := (hb1.block _ (heap_lt HTY.out)).trans HTY.out
        have t11 := blk_cell ht1 11
        have HDL := Lib.hid (del_any y1.drew 0 B cap N q W (by have := hS1.wait; rw [HNN.out] at this; exact this) HNN.out hql (by rw [← HNN.out]; exact HWL.out))
        have hsum : IntKind.i64.wrap ((q : Int) + 1) = (q : Int) + 1 := by rw [IntKind.wrap_i64]; have := HWL.out; rw [HNN.out] at this; omega
        have HT1 := Lib.hid ht1
        have HBX1 := Lib.hid ((HJY.out.later hb1).ch.at HBC.out HBX.out)
        have HS1 := Lib.hid hS1
        have HB1 := Lib.hid hb1
        have HNB := Lib.hid (show B ≠ s ∧ B ≠ bx ∧ B < y.heap.size ∧ bx < y.heap.size ∧ y.heap.size ≠ s from ⟨(HSY.out.nW B rfl).1, fun e => HBX.out (e ▸ (HSY.out.nW B rfl).2.2.2.1), own_lt HSY.out.wait rfl, heap_lt HBY.out, fun e => by have := heap_lt HTY.out; omega⟩)
        have HX1D := Lib.hid (show y1.drew.heap[y.heap.size]? = some (.cells x.cells 39 (0, 0)) from HX1.out.2)
        have HSYN := Lib.hid (show StoreG y s tb db va (.slice (some ⟨B, 0, none⟩) N cap) A A (knownV A) W T G by have := HSY.out; rwa [HNN.out] at this)
        have HPE := Lib.hid (show PI A (W.eraseIdx q) from ⟨fun z hz => HJ.out.pi.rep z (List.mem_of_mem_eraseIdx hz), Cz.nodup_sub HJ.out.pi.nd (List.eraseIdx_sublist _ _), by have := HJ.out.pi.len; have := (List.eraseIdx_sublist W q).length_le; omega⟩)
        clear hb1 hS1 ht1
        simp only [Act.put, List.setIfInBounds_toArray, List.set_cons_zero, List.set_cons_succ]
        go_cut [] (fun y3 => NJ W1 G s T A (W.eraseIdx q) y3 ∧ y3.heap[y.heap.size]? = some (.cells x.cells 39 (0, 0)))
        case first =>
          go_region_law (first | (go_loud (go_simp; go_at_call 53; (with_reducible refine HDL.out.mono ?_); rintro e y2 ⟨rfl, ho, hc⟩; have HO2 := Lib.hid (And.intro ho hc); have k1 := blk_cell (hc.at HT1.out (fun e => HNB.out.1 e.symm)) 11; have k2 := blk_free (hc.at HT1.out (fun e => HNB.out.1 e.symm)) 11; have k3 := blk_cell (hc.at HBX1.out (fun e => HNB.out.2.1 e.symm)) 0; clear ho hc)))
          all_goals
            have HFIN := Lib.hid (NJ.takes HJY.out HSYN.out HG.out HB1.out HO2.out.1 HO2.out.2 HPE.out)
            have HBXX := Lib.hid (blk_other (p := ⟨s, 11, none⟩) (v := .slice (some ⟨B, 0, none⟩) (N - 1) cap) (HO2.out.2.at HX1D.out (fun e => by have := HNB.out.2.2.1; omega)) HNB.out.2.2.2.2)
            clear k1 k2 k3
            go_wp2
            go_meet
            exact ⟨HFIN.out, HBXX.out⟩
        case rest =>
          have HC3 := Lib.hid hcut
          generalize wc = y3 at *
          clear hcut b1 t11 HDL hsum HT1 HBX1 HX1D HPE HSYN
          go_upto_region 4 with fail
          have hW : W = W.take q ++ x :: W.drop (q + 1) := by
            have h1 := List.getElem?_eq_some_iff.1 HX.out.1
            rw [← h1.2, ← List.drop_eq_getElem_cons h1.1, List.take_append_drop]
          have hE : W.eraseIdx q = W.take q ++ W.drop (q + 1) := List.eraseIdx_eq_take_drop_succ W q
          have HWE := Lib.hid (And.intro hW hE)
          have hnj := HC3.out.1
          rw [hE] at hnj
          obtain ⟨fn, tm, asg, bd, hy, hR⟩ := HY.out A (W.take q) (W.drop (q + 1)) x y3 hnj (by rw [← hW]; exact HJ.out.pi)
          clear hnj hW hE
          refine (wpIn_wide (n := n)).1 (wpIn_region ?_)
          show wpOpsIn _ _ _ _ _ [0, 1, 2, 3] _ _
          refine opsIn_value (some 32) rfl rfl rfl (fun _ => trivial) (fun _ h => by cases h) (exec_move rfl rfl) ?_
          refine opsIn_value (some 33) rfl rfl rfl (fun _ => trivial) (fun _ h => by cases h) (exec_load_at y3 (.tmp 4) 39 rfl (b := y.heap.size) (off := 0) (cs := x.cells) rfl Tryd.underlying39 (by kernel_rfl) (blk_load HC3.out.2)) ?_
          refine opsIn_round (some 34) rfl rfl rfl (fun _ => trivial) rfl (fun _ h => by cases h) (exec_yield rfl rfl rfl hy) hR ?_
          rintro e z ⟨rfl, hz⟩
          refine ⟨_, rfl, ?_⟩
          refine opsIn_value (some 35) rfl rfl rfl (fun _ => trivial) (fun _ h => by cases h) (exec_not rfl (b := true) rfl) ?_
          have HZ := Lib.hid hz
          clear hz hy hR
          show Exit.then _ _ .normal _ _
          dsimp only [Act.put]
          simp only [ List.setIfInBounds_toArray, List.set_cons_zero, List.set_cons_succ, Bool.not_true]
          go_wp2_with fail
          go_roundw
          case rel =>
            refine ⟨A ++ [x], W.take q ++ W.drop (q + 1), fun A1 W2 h => HD.out _ _ ?_, HZ.out⟩
            rw [HWE.out.1]
            refine .step (fun u hu => ?_) HX.out.2.1 h
            obtain ⟨j, hj, he⟩ := List.mem_take_iff_getElem.1 hu
            exact HX.out.2.2 j u (by omega) (by rw [← he]; exact List.getElem?_eq_getElem _)
          case measure =>
            rw [waitN_eq HZ.out.st, waitN_eq HJ.out.st]
            have h1 := (List.getElem?_eq_some_iff.1 HX.out.1).1
            simp
            omega
      · have HN := Lib.hid (Cz.Drain.stop (M := MO) hnr)
        clear hnr
        go_wp2
        refine bodyPost_ret (results_none rfl _ _ _) rfl ?_
        exact ⟨⟨_, rfl⟩, A, W, HD.out _ _ HN.out, HJ.out.later HB.out⟩
end Go.Proofs.YtiamohfpohjdpaaDoor
