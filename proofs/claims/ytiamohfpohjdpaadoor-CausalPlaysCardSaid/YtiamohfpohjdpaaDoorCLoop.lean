/- A STORE OF OPERATIONS: Add's loop over next. -/
import Derived.Test.YtiamohfpohjdpaaDoorCDelF
namespace Go.Proofs.YtiamohfpohjdpaaDoor
open Go.RowKit Go.Joins
set_option linter.unusedSimpArgs false
set_option linter.unusedVariables false
open Classical

theorem marks_ret {P : Program} {fn : Func} {R : Ending → World → Prop} {n : Nat} {a : Act} {w : World} {v : Value} (hr : (results fn a.tmps).run P w = .ok v w) (hd : a.defers = []) (hR : R (.returned v) w) : bodyPostM Fence.wide n P fn R .ret a w := by
  show LeavesInM Fence.wide n P fn a.tmps R a.defers .returning w
  rw [hd]
  exact ⟨v, hr, hR⟩
theorem marks_ret1 {P : Program} {fn : Func} {R : Ending → World → Prop} {n D : Nat} {a : Act} {w w' : World} {v : Value} (hd : a.defers = [{ target := .collected D, args := #[] }]) (hk : (Instr.takeDeferred D).run P w = .ok [] w') (hr : (results fn a.tmps).run P w' = .ok v w') (hR : R (.returned v) w') : bodyPostM Fence.wide n P fn R .ret a w := by
  show LeavesInM Fence.wide n P fn a.tmps R a.defers .returning w
  rw [hd]
  exact ⟨by simp, .inl ⟨D, w', rfl, hk, v, hr, hR⟩⟩
theorem Ch.putObj {F : Nat → Prop} {a w : World} (h : Ch F a w) (l : Nat) (o : Obj) (hl : l < a.heap.size → F l) : Ch F a (w.putObj l o) :=
  ⟨h.os, h.tape, h.output, by rw [World.putObj_size]; exact h.size, fun k hk hn => by
    have hkl : k ≠ l := fun e => hn (e ▸ hl (e ▸ hk))
    exact (World.putObj_heap_other hkl).trans (h.block k hk hn)⟩
theorem loop_any {n : Nat} {Q : Exit → Act → World → Prop} {a : Act} {w : World} {g : Operand} {p : Tmp} {assign body : Code} (s bx ab : Nat) (A0 W0 T : List OpG) (F : Nat → Prop)
    (hn : 2 ≤ n) (hg : a.eval g = .func (.func 51) #[] #[ptr bx]) (hS : StoreT w s A0 W0 T F) (hP : PI A0 W0) (hbx : ¬ F bx) (hbc : w.heap[bx]? = some (.cells #[ptr s] 24 (0, 0))) (hab : ¬ F ab) (hac : w.heap[ab]? = some (.cells #[ptr s] 24 (0, 0)))
    (mk : OpG → Nat → Act)
    (hassign : ∀ (l : Nat) (x : OpG) (W : World) (K : Act → World → Prop), (∀ W', W'.heap[W.heap.size]? = some (.cells x.cells 39 (0, 0)) → Below W.heap.size W W' → K (mk x W.heap.size) W') → assign.wpIn (Fence.wide.inRound l) (n - 1 - 1) Tryd.prog (Exit.then K (fun _ _ _ => False)) { tmps := a.tmps.setIfInBounds p x.val, defers := [] } W)
    (hbody : ∀ (l q : Nat) (x : OpG) (z : World) (A W : List OpG) (G : Nat → Prop), z.heap[q]? = some (.cells x.cells 39 (0, 0)) → z.heap[ab]? = some (.cells #[ptr s] 24 (0, 0)) → StoreT z s A W T G → x.id ∉ Cz.ids MO A → A.length + 1 < 4294967296 →
      body.wpIn (Fence.wide.inRound l) (n - 1 - 1) Tryd.prog (fun e _ z' => e = .normal ∧ StoreT z' s (A ++ [x]) W T (fun y => G y ∨ z.heap.size ≤ y) ∧ Ch G z z') (mk x q) z)
    (hdone : ∀ A1 W1 z, Cz.Drain MO A0 W0 A1 W1 → StoreT z s A1 W1 T (fun x => F x ∨ w.heap.size + 2 ≤ x) → PI A1 W1 → Ch F w z → w.heap.size + 2 ≤ z.heap.size → z.heap[w.heap.size]? = some (.deferred (some [])) → Q .normal { a with defers := { target := .collected w.heap.size, args := #[] } :: a.defers } z) :
    (Code.rangeFunc g #[p] assign body).wpIn Fence.wide n Tryd.prog Q a w := by
  refine wpIn_rangeFunc ?_
  intro fn hfn
  show ∃ l mark w₁ d w₁' f args w₂, (Instr.enterLoop fn a.tmps #[p] assign body none).run Tryd.prog w = _ ∧ _
  obtain ⟨rec, hrec⟩ : ∃ rec : LoopState → Option Code → Loop, rec = fun st pe => { state := st, pending := pe, fn, tmps := a.tmps, params := #[p], assign, body, defers := w.heap.size } := ⟨_, rfl⟩
  obtain ⟨W1, hW1⟩ : ∃ W1, (w.alloc (.deferred (some []))).alloc (.loop (rec .ready none)) = W1 := ⟨_, rfl⟩
  have hL1 : W1.heap[w.heap.size + 1]? = some (.loop (rec .ready none)) := by
    rw [← hW1]; have := World.alloc_heap_new (w.alloc (.deferred (some []))) (.loop (rec .ready none)); rwa [World.size_alloc] at this
  have hK1 : W1.heap[w.heap.size]? = some (.deferred (some [])) := by
    rw [← hW1]; exact (Below.heap_alloc _ _ _ (by simp)).trans (World.alloc_heap_new w _)
  have hsz : W1.heap.size = w.heap.size + 2 := by rw [← hW1]; simp
  have hb1 : Below w.heap.size w W1 := by
    rw [← hW1]; exact ((Below.refl _ w).alloc (Nat.le_refl _) _).alloc (by simp) _
  have hSb := hS.bnd
  obtain ⟨G, hG⟩ : ∃ G : Nat → Prop, G = fun x => (F x ∧ x < w.heap.size) ∨ w.heap.size + 2 ≤ x := ⟨_, rfl⟩
  have hGl : ¬ G (w.heap.size + 1) := by rw [hG]; rintro (h | h) <;> omega
  have hGd : ¬ G w.heap.size := by rw [hG]; rintro (h | h) <;> omega
  have hGb : ¬ G bx := by rw [hG]; have := heap_lt hbc; rintro (h | h); exact hbx h.1; omega
  have hGa : ¬ G ab := by rw [hG]; have := heap_lt hac; rintro (h | h); exact hab h.1; omega
  have hGu : ∀ x, W1.heap.size ≤ x → G x := fun x hx => by rw [hG]; exact .inr (by omega)
  have hJ1 : NJ W1 G s T A0 W0 W1 := ⟨(hSb.later hb1).mono (fun x hx => by rw [hG]; exact .inl hx), Ch.refl _ _, hP⟩
  refine ⟨w.heap.size + 1, [{ target := .collected w.heap.size, args := #[] }], W1, { target := .fn (.func 51) #[ptr bx], args := #[.func (.yield (w.heap.size + 1)) #[] #[]] }, W1, 51,
    #[.func (.yield (w.heap.size + 1)) #[] #[]] ++ #[ptr bx], W1, ?_, ?_, ?_, ?_, fun h => (by cases h), ?_⟩
  · rw [← hW1, hrec]; exact run_enterLoop_outer _ _ _ _ _
  · simp only [resolve, hg]
    simp [go_sem]
  · intro f' hf'; trivial
  · have eg := enters_of Tryd.func51 (by kernel_rfl) rfl
    simp [invoke, go_sem, eg]
  · have hN := next_any (n - 1) (w.heap.size + 1) bx s (by omega) T A0 W0 G W1 hGb ((hb1.block _ (heap_lt hbc)).trans hbc) hGu ?_ W1 hJ1
    · refine hN.mono ?_
      rintro e z ⟨⟨v, rfl⟩, A1, W2, hD, hz⟩
      have hl := hz.ch.at hL1 hGl
      have cl : Ch (fun x => x = w.heap.size + 1) z (z.putObj (w.heap.size + 1) (.loop { rec .ready none with state := .exhausted })) := (Ch.refl _ _).putObj _ _ (fun _ => rfl)
      refine ⟨none, _, by have := run_endLoop (P := Tryd.prog) hl (by rw [hrec]; simp); rw [hrec] at this ⊢; exact this, hdone A1 W2 _ hD ((hz.st.ch cl (fun x hx e => hGl (e ▸ hx))).mono (fun x hx => by rw [hG] at hx; exact hx.elim (fun h => .inl h.1) .inr)) hz.pi ?_ (by rw [World.putObj_size, ← hsz]; exact hz.ch.size) ?_⟩
      · refine (((Ch.of_below (F := F) hb1).trans hz.ch (fun x hx e => ?_))).trans cl (fun x hx e => by omega)
        rw [hG] at e
        rcases e with e | e
        · exact e.1
        · omega
      · exact cl.at (hz.ch.at hK1 hGd) (by omega)
    · intro A U V x z hz hPI
      have hl := hz.ch.at hL1 hGl
      have hy := run_yield (P := Tryd.prog) (args := #[x.val]) hl (by rw [hrec]; rfl)
      rw [hrec] at hy
      refine ⟨fn, _, assign, body, hy, roundIn_of_wpIn hfn ?_⟩
      clear hy
      have et : ((#[p].zip #[x.val]).foldl (fun t (q, v) => t.setIfInBounds q v) a.tmps) = a.tmps.setIfInBounds p x.val := by simp
      show assign.wpIn _ _ _ _ { tmps := (#[p].zip #[x.val]).foldl (fun t (q, v) => t.setIfInBounds q v) a.tmps, defers := [] } z
      rw [et]
      refine hassign _ x z _ (fun z2 hbox hbz => ?_)
      have hl2 := (hbz.block _ (heap_lt hl)).trans hl
      refine ⟨_, run_beginRound hl2 (by rw [hrec]), ?_⟩
      have cl : Ch (fun y => y = w.heap.size + 1) z2 (z2.putObj (w.heap.size + 1) (.loop { rec .ready none with state := .busy })) := (Ch.refl _ _).putObj _ _ (fun _ => rfl)
      have hl3 : (z2.putObj (w.heap.size + 1) (.loop { rec .ready none with state := .busy })).heap[w.heap.size + 1]? = some (.loop { rec .ready none with state := .busy }) := World.putObj_heap_same (heap_lt hl2)
      have hz2 := hz.later hbz
      have hst := hz2.st.ch cl (fun y hy e => hGl (e ▸ hy))
      have hq : z.heap.size ≠ w.heap.size + 1 := fun e => by have := heap_lt hl; omega
      obtain ⟨hpo, hno, hle⟩ := hPI.out
      refine wpIn_mono (hbody _ z.heap.size x _ A (U ++ V) G (cl.at hbox hq) (cl.at (hz2.ch.at ((hb1.block _ (heap_lt hac)).trans hac) hGa) (fun e => by have := heap_lt hac; omega)) hst hno hle) ?_
      rintro e a3 z3 ⟨rfl, hs3, hc3⟩
      have hl4 := hc3.at hl3 hGl
      have hr := run_endRound (P := Tryd.prog) none hl4
      rw [hrec] at hr
      refine ⟨_, _, hr, rfl, ?_⟩
      have cl2 : Ch (fun y => y = w.heap.size + 1) z3 (z3.putObj (w.heap.size + 1) (.loop (rec .ready none))) := (Ch.refl _ _).putObj _ _ (fun _ => rfl)
      have hl5 : (z3.putObj (w.heap.size + 1) (.loop (rec .ready none))).heap[w.heap.size + 1]? = some (.loop (rec .ready none)) := World.putObj_heap_same (heap_lt hl4)
      rw [hrec] at cl2 hl5
      refine ⟨(hs3.ch cl2 (fun y hy e => ?_)).mono (fun y hy => ?_), ?_, hpo⟩
      · subst e
        rcases hy with hy | hy
        · exact hGl hy
        · rw [World.putObj_size] at hy
          have := heap_lt hl2; omega
      · rcases hy with hy | hy
        · exact hy
        · have h1 := hz2.ch.size
          rw [World.putObj_size] at hy
          exact hGu _ (by omega)
      · have c : Ch (fun y => G y ∨ y = w.heap.size + 1) W1 _ := (((hz2.ch.mono (fun y _ h => .inl h)).trans cl (fun y _ e => .inr e)).trans hc3 (fun y _ e => .inl e)).trans cl2 (fun y _ e => .inr e)
        refine ⟨c.os, c.tape, c.output, c.size, fun k hk hn => ?_⟩
        by_cases hkl : k = w.heap.size + 1
        · rw [hkl, hL1, hrec]; exact hl5
        · exact c.block k hk (fun h => h.elim hn hkl)
/-- a drawn region in which k alone turns the world ahead of the store, N; d is done ahead of k, N - 2 ahead of N - 1 -/
structure RM (vals : Nat → Value) (N k d : Nat) (P0 : World → Prop) (PA : Value → World → Prop) (Pf : World → Prop) (D : Nat → Bool) (x : Nat → Value) (y : World) : Prop where
  v : ∀ i, i < N → i ≠ k → D i = true → x i = vals i
  p : D k = false → P0 y
  a : D k = true → D N = false → PA (x k) y
  f : D N = true → Pf y
  n : D N = true → ∀ i, i < N → D i = true
  q : D k = true → D d = true
  m : D (N - 1) = true → D (N - 2) = true
section
variable {vals : Nat → Value} {N k d : Nat} {P0 : World → Prop} {PA : Value → World → Prop} {Pf : World → Prop} {D : Nat → Bool} {x : Nat → Value} {y z : World} {u : Value}
theorem done_mono {i j : Nat} (h : D j = true) : done D i j = true := by
  unfold done
  split
  · rfl
  · exact h
theorem RM.off (h : RM vals N k d P0 PA Pf D x y) {i : Nat} (hi : i < N) (hD : D i = false) : D N = false := by
  cases e : D N with
  | false => rfl
  | true => have := h.n e i hi; rw [hD] at this; cases this
theorem RM.before (h : RM vals N k d P0 PA Pf D x y) (hD : D d = false) : D k = false := by
  cases e : D k with
  | false => rfl
  | true => have := h.q e; rw [hD] at this; cases this
theorem RM.keep (h : RM vals N k d P0 PA Pf D x y) {i : Nat} (hi : i < N) (hik : k ≠ i) (hD : D i = false) (hm : i = N - 1 → D (N - 2) = true) : RM vals N k d P0 PA Pf (done D i) (setX x i (vals i)) y := by
  have hN := h.off hi hD
  refine ⟨fun j hj hk hd => ?_, fun hd => ?_, fun h1 h2 => ?_, fun hd => ?_, fun hd => ?_, fun hd => ?_, fun hd => ?_⟩
  · by_cases e : j = i
    · subst e; rw [setX_eq]
    · rw [done_ne e] at hd; rw [setX_ne e]; exact h.v j hj hk hd
  · rw [done_ne hik] at hd; exact h.p hd
  · rw [done_ne hik] at h1; rw [setX_ne hik]; exact h.a h1 hN
  · rw [done_ne (by omega), hN] at hd; cases hd
  · rw [done_ne (by omega), hN] at hd; cases hd
  · rw [done_ne hik] at hd; exact done_mono (h.q hd)
  · by_cases e : i = N - 1
    · exact done_mono (hm e)
    · rw [done_ne (fun h => e h.symm)] at hd; exact done_mono (h.m hd)
theorem RM.call (h : RM vals N k d P0 PA Pf D x y) (hk : k < N) (hD : D k = false) (hd : D d = true) (hkm : k ≠ N - 1) (hA : PA u z) : RM vals N k d P0 PA Pf (done D k) (setX x k u) z := by
  have hN := h.off hk hD
  refine ⟨fun j hj hjk hd => ?_, fun hd => ?_, fun h1 h2 => ?_, fun hd => ?_, fun hd => ?_, fun _ => done_mono hd, fun hd => ?_⟩
  · rw [done_ne hjk] at hd; rw [setX_ne hjk]; exact h.v j hj hjk hd
  · rw [done_eq] at hd; cases hd
  · rw [setX_eq]; exact hA
  · rw [done_ne (by omega), hN] at hd; cases hd
  · rw [done_ne (by omega), hN] at hd; cases hd
  · rw [done_ne (fun h => hkm h.symm)] at hd; exact done_mono (h.m hd)
theorem RM.last (h : RM vals N k d P0 PA Pf D x y) (hk : k < N) (h2 : 2 ≤ N) (hA : ∀ i, i < N - 2 → D i = true) (h1 : D (N - 1) = true) (hP : Pf z) : RM vals N k d P0 PA Pf (done D N) (setX x N u) z := by
  have hall : ∀ i, i < N → D i = true := fun i hi => by
    by_cases e1 : i = N - 1
    · rw [e1]; exact h1
    · by_cases e2 : i = N - 2
      · rw [e2]; exact h.m h1
      · exact hA i (by omega)
  refine ⟨fun j hj hjk hd => ?_, fun hd => ?_, fun h1 h2 => ?_, fun hd => hP, fun hd j hj => ?_, fun hd => ?_, fun hd => done_mono (h.m h1)⟩
  · rw [done_ne (by omega)] at hd; rw [setX_ne (by omega)]; exact h.v j hj hjk hd
  · rw [done_ne (by omega), hall k hk] at hd; cases hd
  · rw [done_eq] at h2; cases h2
  · rw [done_ne (by omega)]; exact hall j hj
  · exact done_mono (h.q (hall k hk))
end
theorem run_loadAB {w : World} {b s : Nat} (h : w.heap[b]? = some (.cells #[ptr s] 24 (0, 0))) : (Instr.loadAt 24 (ptr b)).run Tryd.prog w = .ok (ptr s) w := by
  have := blk_cell h 0
  simp [go_sem, this]
theorem run_mk {a : Act} {w : World} {o : Oper} {b : Nat} (ho : o.op = .makeFunc (.func 28) #[] #[.tmp 2]) (h : a.eval (.tmp 2) = ptr b) : (execOp a.eval o).run Tryd.prog w = .ok (.value (.func (.func 28) #[] #[ptr b])) w := by
  simp [execOp, ho, h]
  kernel_rfl
theorem nextf_any (w : World) (s : Nat) : Calls Tryd.prog 26 #[ptr s] w fun e w' => e = .returned (.func (.func 51) #[] #[ptr w.heap.size]) ∧ w' = w.alloc (.cells #[ptr s] 24) := by
  go_enter Tryd.func26, Tryd.ntmps26
  go_wp2
  go_ret
  exact ⟨rfl, rfl⟩
set_option maxHeartbeats 1000000 in
theorem delf_nil (z0 : World) (bx s : Nat) (A T : List OpG) (G : Nat → Prop) : Calls Tryd.prog 27 #[.slice none 0 0, .func (.func 28) #[] #[ptr bx]] z0 fun e z' => e = .returned (.slice none 0 0) ∧ Below z0.heap.size z0 z' := by
  have HIX := Lib.hid (idx_late bx (fun _ => false) (fun z => Below z0.heap.size z0 z) (fun _ z => Below z0.heap.size z0 z) [] none 0 (fun z hz i x h => by simp at h) (fun x hx => by cases hx) (by simp) z0 (Below.refl _ _))
  simp only [List.length_nil] at HIX
  go_enter Tryd.func27, Tryd.ntmps27
  go_wp2_with fail
  with_reducible refine HIX.out.mono ?_
  rintro e z1 (⟨q, x, h1, -⟩ | ⟨-, rfl, hb⟩)
  · simp at h1
  · have HB := Lib.hid hb
    clear hb HIX
    go_wp2
    go_ret
    exact ⟨rfl, HB.out⟩
/-- slices.DeleteFunc over a store's row of those that wait -/
theorem delf_any (z0 : World) (bx s tb db : Nat) (va vw : Value) (A W : List OpG) (G : Nat → Prop) (hS : StoreG z0 s tb db va vw A A (knownV A) W (A ++ W) G) (hrep : ∀ x ∈ W, 0 ≤ x.r ∧ x.r < 8) (hnd : (Cz.ids MO (A ++ W)).Nodup) (hl : W.length < 4294967296)
    (hb : z0.heap[bx]? = some (.cells #[ptr s] 24 (0, 0))) (hbx : ¬ G bx) (hG : ∀ x, z0.heap.size ≤ x → G x) :
    Calls Tryd.prog 27 #[vw, .func (.func 28) #[] #[ptr bx]] z0 fun e z' =>
      ∃ ao n c, e = .returned (.slice ao n c) ∧ StoreN z' s tb db va vw A A (knownV A) (A ++ keepL A W) G ∧ OwnO z' 0 (.slice ao n c) (keepL A W) ∧ Ch G z0 z' ∧ (∀ b, (Value.slice ao n c).ownBlock = some b → vw.ownBlock = some b) := by
  rcases hS.wait.form with ⟨rfl, h0⟩ | ⟨B, cap, cur, rfl, h2, h3, h4, h5, h6, h7⟩
  · subst h0
    refine (delf_nil z0 bx s A [] G).mono ?_
    rintro e z' ⟨rfl, hb'⟩
    exact ⟨_, _, _, rfl, (hS.later hb').n, OwnO.nil _ _, Ch.of_below hb', fun b h => h⟩
  · refine (delf_row z0 bx s tb db B W.length cap va A W G hS rfl hrep hnd hl hb hbx hG _ rfl).mono ?_
    rintro e z' ⟨rfl, h8, h9, h10⟩
    exact ⟨_, _, _, rfl, h8, h9, h10, fun b h => h⟩
end Go.Proofs.YtiamohfpohjdpaaDoor
