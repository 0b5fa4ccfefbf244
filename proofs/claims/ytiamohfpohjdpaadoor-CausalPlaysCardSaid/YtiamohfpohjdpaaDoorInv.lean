/- A REGION THAT DRAWS ITS ORDER, SHOWN ONCE AN OPERATION: general, of whatever program: a relation of what has been done so far, of the values and of the world; each operation is shown once, whatever came ahead of it. -/
import Derived.Test.YtiamohfpohjdpaaDoorHeap
import Derived.Orders
namespace Go.Proofs.YtiamohfpohjdpaaDoor
open Go.RowKit
set_option linter.unusedSimpArgs false
set_option linter.unusedVariables false
section
variable {P : Program} {Q : Exit → Act → World → Prop}
def done (L : Nat → Bool) (i : Nat) : Nat → Bool := fun j => if j = i then true else L j
def setX (x : Nat → Value) (i : Nat) (v : Value) : Nat → Value := fun j => if j = i then v else x j
/-- the frame: the values of the operations from k on, each in its slot -/
def puts (x : Nat → Value) : List Oper → Nat → Act → Act
  | [], _, a => a
  | o :: r, k, a => puts x r (k + 1) (a.put o.dst (x k))
theorem put_same (a : Act) (d : Option Tmp) (u v : Value) : (a.put d u).put d v = a.put d v := by
  cases d with
  | none => rfl
  | some t => simp [Act.put]
theorem puts_comm (x : Nat → Value) (d : Option Tmp) (v : Value) : ∀ (l : List Oper) (k : Nat) (a : Act), (∀ o ∈ l, ∀ t, d = some t → o.dst ≠ some t) → (puts x l k a).put d v = puts x l k (a.put d v)
  | [], _, _, _ => rfl
  | o :: r, k, a, h => by
    rw [puts, puts, puts_comm x d v r (k + 1) _ (fun o ho => h o (List.mem_cons_of_mem _ ho)), Act.put_comm a v (x k) (h o (by simp))]
theorem puts_ext {x y : Nat → Value} : ∀ (l : List Oper) (k : Nat) (a : Act), (∀ i, k ≤ i → x i = y i) → puts x l k a = puts y l k a
  | [], _, _, _ => rfl
  | o :: r, k, a, h => by rw [puts, puts, h k (Nat.le_refl _), puts_ext r (k + 1) _ (fun i hi => h i (by omega))]
/-- no two write one slot -/
def apartD : List Oper → Bool
  | [] => true
  | o :: r => (match o.dst with | none => true | some t => r.all (fun p => p.dst != some t)) && apartD r
theorem apartD_cons {o : Oper} {r : List Oper} (h : apartD (o :: r) = true) : (∀ p ∈ r, ∀ t, o.dst = some t → p.dst ≠ some t) ∧ apartD r = true := by
  unfold apartD at h
  rw [Bool.and_eq_true] at h
  refine ⟨fun p hp t ht => ?_, h.2⟩
  have := h.1
  rw [ht] at this
  simp only [List.all_eq_true] at this
  simpa using this p hp
theorem puts_set (x : Nat → Value) (v : Value) : ∀ (l : List Oper) (k : Nat) (a : Act) (j : Nat) (o : Oper), apartD l = true → l[j]? = some o → (puts x l k a).put o.dst v = puts (setX x (k + j) v) l k a
  | [], _, _, _, _, _, h => by simp at h
  | p :: r, k, a, 0, o, hd, h => by
    simp at h
    subst h
    obtain ⟨h1, h2⟩ := apartD_cons hd
    rw [puts, puts, puts_comm x _ v r (k + 1) _ h1, put_same]
    simp only [Nat.add_zero]
    rw [show setX x k v k = v by simp [setX]]
    exact puts_ext r (k + 1) _ (fun i hi => by simp [setX]; omega)
  | p :: r, k, a, j + 1, o, hd, h => by
    obtain ⟨h1, h2⟩ := apartD_cons hd
    rw [puts, puts, puts_set x v r (k + 1) _ j o h2 (by simpa using h), show k + 1 + j = k + (j + 1) by omega, show setX x (k + (j + 1)) v k = x k by simp [setX]]
theorem put_self (a : Act) (d : Option Tmp) : a.put d (match d with | some t => a.tmps.getD t undef | none => undef) = a := by
  cases d with
  | none => rfl
  | some t =>
    obtain ⟨ts, ds⟩ := a
    simp only [Act.put, Act.mk.injEq, and_true]
    apply Array.ext
    · simp
    · intro i h1 h2
      rw [Array.getElem_setIfInBounds]
      by_cases h : t = i
      · subst h; simp [Array.getD, h2]
      · rw [if_neg h]
def nowX (l : List Oper) (a : Act) : Nat → Value := fun i => match (l[i]?).bind (·.dst) with | some t => a.tmps.getD t undef | none => undef
theorem puts_now : ∀ (l : List Oper) (k : Nat) (a : Act) (x : Nat → Value), (∀ j o, l[j]? = some o → x (k + j) = match o.dst with | some t => a.tmps.getD t undef | none => undef) → puts x l k a = a
  | [], _, _, _, _ => rfl
  | o :: r, k, a, x, h => by
    have h0 := h 0 o rfl
    rw [Nat.add_zero] at h0
    rw [puts, h0, put_self]
    exact puts_now r (k + 1) a x (fun j p hj => by have := h (j + 1) p (by simpa using hj); rwa [show k + (j + 1) = k + 1 + j by omega] at this)
/-- which operation writes a slot -/
def writes (t : Tmp) : List Oper → Nat → Option Nat
  | [], _ => none
  | o :: r, k => if o.dst = some t then some k else writes t r (k + 1)
theorem getD_put {a : Act} {d : Option Tmp} {v : Value} {t : Tmp} (h : d ≠ some t) : (a.put d v).tmps.getD t undef = a.tmps.getD t undef := by
  cases d with
  | none => rfl
  | some s =>
    have hs : s ≠ t := fun e => h (by rw [e])
    simp [Act.put, Array.getD_eq_getD_getElem?, Array.getElem?_setIfInBounds, hs]
theorem puts_far (x : Nat → Value) (t : Tmp) : ∀ (l : List Oper) (k : Nat) (a : Act), (∀ o ∈ l, o.dst ≠ some t) → (puts x l k a).tmps.getD t undef = a.tmps.getD t undef
  | [], _, _, _ => rfl
  | o :: r, k, a, h => by rw [puts, puts_far x t r (k + 1) _ (fun p hp => h p (List.mem_cons_of_mem _ hp)), getD_put (h o (by simp))]
theorem size_put (a : Act) (d : Option Tmp) (v : Value) : (a.put d v).tmps.size = a.tmps.size := by cases d <;> simp [Act.put]
theorem puts_at (x : Nat → Value) (t : Tmp) : ∀ (l : List Oper) (k : Nat) (a : Act), apartD l = true → t < a.tmps.size → (puts x l k a).tmps.getD t undef = match writes t l k with | some i => x i | none => a.tmps.getD t undef
  | [], _, _, _, _ => rfl
  | o :: r, k, a, hd, ht => by
    obtain ⟨h1, h2⟩ := apartD_cons hd
    rw [puts, writes]
    by_cases h : o.dst = some t
    · rw [if_pos h, puts_far x t r (k + 1) _ (fun p hp => h1 p hp t h), h]
      simp [Act.put, Array.getD_eq_getD_getElem?, Array.getElem?_setIfInBounds, ht]
    · rw [if_neg h, puts_at x t r (k + 1) _ h2 (by rw [size_put]; exact ht), getD_put h]
/-- what an operand has -/
theorem puts_eval (x : Nat → Value) (t : Tmp) (l : List Oper) (a : Act) (hd : apartD l = true) (ht : t < a.tmps.size) {i : Nat} (hw : writes t l 0 = some i) : (puts x l 0 a).eval (.tmp t) = x i := by
  show (puts x l 0 a).tmps.getD t undef = x i
  rw [puts_at x t l 0 a hd ht, hw]
theorem puts_eval0 (x : Nat → Value) (t : Tmp) (l : List Oper) (a : Act) {v : Value} (hv : a.tmps.getD t undef = v) (hw : writes t l 0 = none) : (puts x l 0 a).eval (.tmp t) = v := by
  subst hv
  show (puts x l 0 a).tmps.getD t undef = _
  have key : ∀ (l : List Oper) (k : Nat), writes t l k = none → ∀ o ∈ l, o.dst ≠ some t := by
    intro l
    induction l with
    | nil => intro k _ o ho; cases ho
    | cons p r ih =>
      intro k h o ho
      unfold writes at h
      split at h
      · cases h
      · rename_i hp
        rcases List.mem_cons.1 ho with rfl | ho
        · exact hp
        · exact ih _ h o ho
  exact puts_far x t l 0 a (key l 0 hw)
/-- one operation of the region -/
structure stepWp (P : Program) (Q : Exit → Act → World → Prop) (ops : Array Oper) (o : Oper) (a : Act) (w : World) (K : Act → World → Prop) : Prop where
  out : if Region.wanted o (yielded ops a.tmps) = true then o.wp P a w K Q else K (a.put o.dst undef) w
/-- each edge leads back -/
def backs (ops : Array Oper) : Bool := (List.range ops.size).all fun i => match ops[i]? with | some o => o.after.all (fun e => decide (e.on < i)) | none => true
theorem backs_spec {ops : Array Oper} (h : backs ops = true) {i : Nat} {o : Oper} (ho : ops[i]? = some o) {e : Edge} (he : e ∈ o.after) : e.on < i := by
  unfold backs at h
  have hi : i < ops.size := (Array.getElem?_eq_some_iff.1 ho).1
  have := (List.all_eq_true.1 h) i (List.mem_range.2 hi)
  rw [ho] at this
  have := Array.all_eq_true_iff_forall_mem.1 this e he
  simpa using this
def left (l : List Bool) : Nat := l.countP (!·)
theorem left_set : ∀ (l : List Bool) (i : Nat), l[i]? = some false → left (l.set i true) + 1 = left l
  | [], _, h => by simp at h
  | b :: l, 0, h => by simp at h; subst h; simp [left]
  | b :: l, i + 1, h => by
    have := left_set l i (by simpa using h)
    unfold left at *
    rw [List.set_cons_succ, List.countP_cons, List.countP_cons]
    omega
theorem left_none {l : List Bool} (h : left l = 0) (i : Nat) (b : Bool) (hb : l[i]? = some b) : b = true := by
  unfold left at h
  rw [List.countP_eq_zero] at h
  have := h b (List.mem_of_getElem? hb)
  simpa using this
theorem least (p : Nat → Bool) : ∀ n, (∃ i, i < n ∧ p i = true) → ∃ i, i < n ∧ p i = true ∧ ∀ j, j < i → p j = false := by
  intro n
  induction n with
  | zero => rintro ⟨i, h, _⟩; omega
  | succ n ih =>
    intro h
    by_cases hn : ∃ i, i < n ∧ p i = true
    · obtain ⟨i, h1, h2, h3⟩ := ih hn
      exact ⟨i, by omega, h2, h3⟩
    · obtain ⟨i, h1, h2⟩ := h
      have e : i = n := by
        by_cases hh : i < n
        · exact absurd ⟨i, hh, h2⟩ hn
        · omega
      subst e
      exact ⟨i, by omega, h2, fun j hj => by
        cases hp : p j with
        | false => rfl
        | true => exact absurd ⟨j, hj, hp⟩ hn⟩
theorem wpAny_inv {ops : Array Oper} {a : Act} (hb : backs ops = true) (hd : apartD ops.toList = true) (R : (Nat → Bool) → (Nat → Value) → World → Prop)
    (hs : ∀ i o, ops[i]? = some o → ∀ L x y, L i = false → (∀ e ∈ o.after, Region.binds .any e = true → L e.on = true) → R L x y → ∀ K : Act → World → Prop, (∀ v z, R (done L i) (setX x i v) z → K ((puts x ops.toList 0 a).put o.dst v) z) → stepWp P Q ops o (puts x ops.toList 0 a) y K)
    (he : ∀ L x y, (∀ i, i < ops.size → L i = true) → R L x y → Q .normal (puts x ops.toList 0 a) y) :
    ∀ (fuel : Nat) (listed : Array Bool) (x : Nat → Value) (y : World), listed.size = ops.size → left listed.toList ≤ fuel → R (fun i => listed.getD i false) x y → wpAny P .any ops Q fuel listed (puts x ops.toList 0 a) y := by
  have hall : ∀ (listed : Array Bool), listed.size = ops.size → left listed.toList = 0 → ∀ i, i < ops.size → listed.getD i false = true := by
    intro listed hsz h0 i hi
    have hi' : i < listed.size := by omega
    rw [Array.getD_eq_getD_getElem?, Array.getElem?_eq_getElem hi', Option.getD_some]
    exact left_none h0 i _ (by rw [Array.getElem?_toList, Array.getElem?_eq_getElem hi'])
  have hmore : ∀ (listed : Array Bool), listed.size = ops.size → Region.ready .any ops listed = [] → left listed.toList = 0 := by
    intro listed hsz hr
    rcases Nat.eq_zero_or_pos (left listed.toList) with h | h
    · exact h
    · exfalso
      unfold left at h
      obtain ⟨b, hb1, hb2⟩ := List.countP_pos_iff.1 h
      obtain ⟨i, hi⟩ := List.mem_iff_getElem?.1 hb1
      have hb3 : b = false := by simpa using hb2
      subst hb3
      rw [Array.getElem?_toList] at hi
      have hil : i < listed.size := (Array.getElem?_eq_some_iff.1 hi).1
      obtain ⟨j, hj1, hj2, hj3⟩ := least (fun i => !listed.getD i true) ops.size ⟨i, by omega, by simp [Array.getD_eq_getD_getElem?, hi]⟩
      have hjs : j < ops.size := hj1
      have hm : j ∈ Region.ready .any ops listed := by
        rw [mem_ready]
        refine ⟨by simpa using hj2, ops[j], Array.getElem?_eq_getElem hjs, fun e he hbd => ?_⟩
        have hlt := backs_spec hb (Array.getElem?_eq_getElem hjs) he
        have := hj3 e.on hlt
        have hl : e.on < listed.size := by omega
        simp [Array.getD_eq_getD_getElem?, hl] at this ⊢
        exact this
      rw [hr] at hm
      cases hm
  intro fuel
  induction fuel with
  | zero =>
    intro listed x y hsz hl hR
    have h0 : left listed.toList = 0 := by omega
    refine ⟨?_, he _ x y (hall listed hsz h0) hR⟩
    apply List.eq_nil_iff_forall_not_mem.2
    intro i hi
    rw [mem_ready] at hi
    obtain ⟨h1, o, ho, -⟩ := hi
    have his : i < ops.size := (Array.getElem?_eq_some_iff.1 ho).1
    have := hall listed hsz h0 i his
    have hil : i < listed.size := by omega
    simp [Array.getD_eq_getD_getElem?, hil] at h1 this
    rw [h1] at this
    cases this
  | succ fuel ih =>
    intro listed x y hsz hl hR
    refine ⟨fun hr => he _ x y (hall listed hsz (hmore listed hsz hr)) hR, fun i hi => ?_⟩
    rw [mem_ready] at hi
    obtain ⟨h1, o, ho, hdep⟩ := hi
    have his : i < ops.size := (Array.getElem?_eq_some_iff.1 ho).1
    have hil : i < listed.size := by omega
    have hLi : listed.getD i false = false := by
      simp [Array.getD_eq_getD_getElem?, hil] at h1 ⊢
      exact h1
    have hget : listed.toList[i]? = some false := by
      rw [Array.getElem?_toList, Array.getElem?_eq_getElem hil]
      simp [Array.getD_eq_getD_getElem?, hil] at h1
      rw [h1]
    have hlf := left_set listed.toList i hget
    have step := hs i o ho (fun i => listed.getD i false) x y hLi (fun e he hbd => hdep e he hbd) hR (wpAny P .any ops Q fuel (listed.setIfInBounds i true)) (fun v z hz => by
      rw [puts_set x v ops.toList 0 a i o hd (by simpa using ho), Nat.zero_add]
      refine ih _ _ _ (by simpa using hsz) ?_ ?_
      · rw [Array.toList_setIfInBounds]; omega
      · have e : (fun j => (listed.setIfInBounds i true).getD j false) = done (fun i => listed.getD i false) i := by
          funext j
          unfold done
          by_cases h : j = i
          · subst h; simp [Array.getD_eq_getD_getElem?, hil]
          · have h' : i ≠ j := fun e => h e.symm
            simp [Array.getD_eq_getD_getElem?, Array.getElem?_setIfInBounds, h, h']
        rw [e]; exact hz)
    have step := step.out
    unfold wpOp
    rw [ho]
    show if Region.wanted o (yielded ops (puts x ops.toList 0 a).tmps) = true then _ else _
    split
    · rename_i hw; rw [if_pos hw] at step; exact .inl step
    · rename_i hw; rw [if_neg hw] at step; exact step
theorem left_start (n : Nat) : left (Array.replicate n false).toList ≤ n := by
  unfold left
  have := List.countP_le_length (p := (!·)) (l := (Array.replicate n false).toList)
  simpa using this
theorem wp_region_inv {id : Nat} {ops : Array Oper} {a : Act} {w : World} (hm : P.follows .mixedOrders = true) (hb : backs ops = true) (hd : apartD ops.toList = true) (R : (Nat → Bool) → (Nat → Value) → World → Prop)
    (h0 : R (fun _ => false) (nowX ops.toList a) w.drew)
    (hs : ∀ i o, ops[i]? = some o → ∀ L x y, L i = false → (∀ e ∈ o.after, Region.binds .any e = true → L e.on = true) → R L x y → ∀ K : Act → World → Prop, (∀ v z, R (done L i) (setX x i v) z → K ((puts x ops.toList 0 a).put o.dst v) z) → stepWp P Q ops o (puts x ops.toList 0 a) y K)
    (he : ∀ L x y, (∀ i, i < ops.size → L i = true) → R L x y → Q .normal (puts x ops.toList 0 a) y) : (Code.region id ops true).wp P Q a w := by
  refine wp_region_any hm ?_
  have hp : puts (nowX ops.toList a) ops.toList 0 a = a := puts_now _ _ _ _ (fun j o hj => by rw [Nat.zero_add]; unfold nowX; rw [hj]; rfl)
  have := wpAny_inv (P := P) (Q := Q) hb hd R hs he ops.size (Array.replicate ops.size false) (nowX ops.toList a) w.drew (by simp) (left_start _) (by
    have e : (fun i => (Array.replicate ops.size false).getD i false) = fun _ => false := by
      funext i
      rw [Array.getD_eq_getD_getElem?, Array.getElem?_replicate]
      split <;> rfl
    rw [e]; exact h0)
  rw [hp] at this
  exact this
theorem wp_act {c : Code} {a : Act} {w : World} (h : ∀ b, b = a → c.wp P Q b w) : c.wp P Q a w := h a rfl
/-! ### the steps -/
theorem step_run {ops : Array Oper} {o : Oper} {a : Act} {w w' : World} {K : Act → World → Prop} {v : Value} (hg : o.guard = none) (h : (execOp a.eval o).run P w = .ok (.value v) w') (hK : K (a.put o.dst v) w') : stepWp P Q ops o a w K := by
  refine ⟨?_⟩
  rw [if_pos (by simp [Region.wanted, hg])]
  unfold Oper.wp
  rw [h]
  exact hK
theorem run_of_value {m : Sem Value} {w w' : World} {v : Value} (h : m.run P w = .ok v w') : (Next.value <$> m).run P w = .ok (.value v) w' := by
  simp [h, Result.andThen]
theorem step_wp {ops : Array Oper} {o : Oper} {a : Act} {w : World} {K : Act → World → Prop} (hg : o.guard = none) (h : o.wp P a w K Q) : stepWp P Q ops o a w K := by
  refine ⟨?_⟩
  rw [if_pos (by simp [Region.wanted, hg])]
  exact h
theorem step_bs {ops : Array Oper} {o : Oper} {a : Act} {w w' : World} {K : Act → World → Prop} {v : Value} {t : TypeId} {n : Nat} (hg : o.guard = none) (ps : Array (Nat × Operand)) (ho : o.op = .buildSlice t n ps) (qs : Array (Nat × Value)) (hq : ps.toList.map (fun p => (p.1, a.eval p.2)) = qs.toList) (h : (Instr.buildSlice t n qs).run P w = .ok v w') (hK : K (a.put o.dst v) w') : stepWp P Q ops o a w K := by
  have hq : ps.map (fun p => (p.1, a.eval p.2)) = qs := by
    apply Array.ext'
    rw [Array.toList_map]; exact hq
  subst hq
  refine step_wp hg ?_
  unfold Oper.wp
  have e : ((execOp a.eval o).run P w) = .ok (.value v) w' := by
    simp [execOp, ho, h, Result.andThen]
  rw [e]
  exact hK
theorem step_load {ops : Array Oper} {o : Oper} {a : Act} {w : World} {K : Act → World → Prop} {v ad : Value} {t : TypeId} (hg : o.guard = none) (p : Operand) (ho : o.op = .load t p) (hp : a.eval p = ad) (h : (Instr.loadAt t ad).run P w = .ok v w) (hK : K (a.put o.dst v) w) : stepWp P Q ops o a w K := by
  subst hp
  refine step_wp hg ?_
  unfold Oper.wp
  have e : ((execOp a.eval o).run P w) = .ok (.value v) w := by
    simp [execOp, ho, h, Result.andThen]
  rw [e]
  exact hK
theorem step_move {ops : Array Oper} {o : Oper} {a : Act} {w : World} {K : Act → World → Prop} {v : Value} (hg : o.guard = none) (x : Operand) (ho : o.op = .move x) (hx : a.eval x = v) (hK : K (a.put o.dst v) w) : stepWp P Q ops o a w K := by
  subst hx
  refine step_wp hg ?_
  unfold Oper.wp
  simp [execOp, ho]
  exact hK
theorem step_assign {ops : Array Oper} {o : Oper} {a : Act} {w : World} {K : Act → World → Prop} {v : Value} (hg : o.guard = none) (x : Operand) (ho : o.op = .assign x) (hx : a.eval x = v) (hK : K (a.put o.dst v) w) : stepWp P Q ops o a w K := by
  subst hx
  refine step_wp hg ?_
  unfold Oper.wp
  simp [execOp, ho]
  exact hK
end
end Go.Proofs.YtiamohfpohjdpaaDoor
