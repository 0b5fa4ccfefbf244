/- GENERAL LAWS, of whatever program: a world that only grew ('ext'), regions that read it and call what only makes memory, arrays of integers held against each other, arguments opened. -/
import Derived.Test.YtplnpgmchibnlaaRows
import Derived.Handy
import Derived.BigQuiet
import Derived.WalkLawsBesides
import Derived.WalkSpells
import Derived.ChangeKeysEq
import Derived.Lib.SmallJoins
namespace Go.Proofs.Ytplnpgmchibnlaa
open Go.RowKit

theorem own : ownKnob Try.prog.godebug = none := by kernel_rfl
theorem laidOut : laidOutB Try.prog = true := by kernel_rfl

/-- the world w, or a later one in which nothing of w's has turned -/
noncomputable def ext (w e : World) : World := open Classical in if Below w.heap.size w e then e else w
theorem ext_below (w e : World) : Below w.heap.size w (ext w e) := by
  unfold ext
  split
  · assumption
  · exact Below.refl _ _
theorem ext_of {w e : World} (h : Below w.heap.size w e) : ∃ e', e = ext w e' := ⟨e, by unfold ext; rw [if_pos h]⟩
theorem ext_cell (w e : World) (p : Addr) (h : p.block < w.heap.size) : (ext w e).cell? p = w.cell? p := (ext_below w e).cell h
theorem ext_frozen (w e : World) (p : Addr) (h : p.block < w.heap.size) : (ext w e).frozen? p = w.frozen? p := (ext_below w e).frozen h
theorem ext_size (w e : World) : w.heap.size ≤ (ext w e).heap.size := (ext_below w e).size
theorem below_ext {B : Nat} {a w e : World} (h : Below B a w) (hB : B ≤ w.heap.size) : Below B a (ext w e) := h.trans ((ext_below w e).mono hB)

theorem region_ext {P : Program} {id : Nat} {Q : Exit → Act → World → Prop} {a : Act} {w : World} {l : List Oper} (hm : P.follows .mixedOrders = true) (hB : Region.lexB .any l.toArray = true)
    (h : wpQuiet P l.toArray (fun w' => ∃ n, w' = ext w n) (fun a' => ∀ w', (∃ n, w' = ext w n) → Q .normal a' w') l a) : (Code.region id l.toArray true).wp P Q a w :=
  wp_region_quiet (C := fun w' => ∃ n, w' = ext w n) hm hB (ext_of ((Below.refl _ _).drew)) (by simpa using h)

theorem calls_ext {P : Program} {f : FuncId} {args : Array Value} {w n : World} {v : Value}
    (h : Calls P f args (ext w n) fun e w' => e = .returned v ∧ Below (ext w n).heap.size (ext w n) w') : Calls P f args (ext w n) fun e w'' => e = .returned v ∧ ∃ m, w'' = ext w m :=
  h.mono fun _ _ ⟨he, hm⟩ => ⟨he, ext_of ((ext_below w n).trans (hm.mono (ext_below w n).size))⟩

theorem calls_ext0 {P : Program} {f : FuncId} {args : Array Value} {w : World} {v : Value}
    (h : Calls P f args w fun e w' => e = .returned v ∧ Below w.heap.size w w') : Calls P f args w fun e w'' => e = .returned v ∧ ∃ m, w'' = ext w m :=
  h.mono fun _ _ ⟨he, hm⟩ => ⟨he, ext_of hm⟩

/-! ### arrays of integers, held against each other -/
theorem forIn_eqv {P : Program} {w : World} {d : Nat} {e : TypeId} (he : P.plainKey e = true) (hu : P.underlying e = some (.int .i64)) (xs ys : List Int) (m : Nat) : ∀ (s : Nat), s + m ≤ xs.length → s + m ≤ ys.length →
    (forIn (List.range' s m) ((none : Option Bool), ()) (fun i __s => do
            let __do_lift ← part e (xs.map (Value.int .i64)).toArray (i * 1)
            let __do_lift_1 ← part e (ys.map (Value.int .i64)).toArray (i * 1)
            let __do_lift ← Op.equalIn (d + 1) e __do_lift __do_lift_1
            if (!__do_lift) = true then pure (ForInStep.done (some false, ())) else pure (ForInStep.yield (none, ())))).run P w
      = .ok (if (xs.drop s).take m == (ys.drop s).take m then none else some false, ()) w := by
  induction m with
  | zero => intro s _ _; simp [List.range', Sem.run_pure]
  | succ m ih =>
    intro s hx hy
    have h1 : (xs.map (Value.int .i64)).toArray[s * 1]? = some (Value.int .i64 (xs[s]'(by omega))) := by
      simp [List.getElem?_eq_getElem (show s < xs.length by omega)]
    have h2 : (ys.map (Value.int .i64)).toArray[s * 1]? = some (Value.int .i64 (ys[s]'(by omega))) := by
      simp [List.getElem?_eq_getElem (show s < ys.length by omega)]
    rw [List.range'_succ, List.forIn_cons]
    simp only [Sem.run_bind, run_part_plain _ he h1, run_part_plain _ he h2, Result.andThen_ok, run_equalIn_int (P := P) _ d e .i64 .i64 _ _ hu]
    rw [List.drop_eq_getElem_cons (show s < xs.length by omega), List.drop_eq_getElem_cons (show s < ys.length by omega), List.take_succ_cons, List.take_succ_cons]
    by_cases hc : xs[s]'(by omega) = ys[s]'(by omega)
    · have hc' : (xs[s]'(by omega) == ys[s]'(by omega)) = true := by simpa using hc
      simp only [hc', Bool.not_true, Bool.false_eq_true, if_false, Sem.run_pure, Result.andThen_ok]
      have h3 := ih (s + 1) (by omega) (by omega)
      refine (congrArg (fun r => r) h3).trans ?_
      simp [hc]
    · have hc' : (xs[s]'(by omega) == ys[s]'(by omega)) = false := by simpa using hc
      simp [hc', Sem.run_pure]
theorem run_equal_ints {P : Program} {t e : TypeId} {n : Nat} {i : TypeInfo} (ht : P.underlying t = some (.array n e)) (hi : P.info? e = some i) (hs : P.cellsOf e = 1) (he : P.plainKey e = true) (hu : P.underlying e = some (.int .i64)) (xs ys : List Int) (hx : xs.length = n) (hy : ys.length = n) (w : World) :
    (Op.equal t (.agg (xs.map (Value.int .i64)).toArray) (.agg (ys.map (Value.int .i64)).toArray)).run P w = .ok (xs == ys) w := by
  show (Op.equalIn (9998 + 1 + 1) t _ _).run P w = _
  generalize 9998 = d
  have h3 := forIn_eqv (w := w) (d := d) he hu xs ys n 0 (by omega) (by omega)
  rw [Op.equalIn]
  simp only [Sem.run_bind, run_underlying ht, run_sizeOf _ hi, hs, Result.andThen_ok, Std.Legacy.Range.forIn_eq_forIn_range', Std.Legacy.Range.size]
  have hn : (n - 0 + 1 - 1) / 1 = n := by simp
  rw [hn, h3]
  have e1 : xs.take n = xs := by rw [← hx]; exact List.take_length
  have e2 : ys.take n = ys := by rw [← hy]; exact List.take_length
  simp only [List.drop_zero, e1, e2, Result.andThen_ok]
  by_cases hc : xs = ys
  · simp [hc, Sem.run_pure]
  · simp [hc, Sem.run_pure]

/-! ### arguments opened by what their types allow -/
theorem cell_int {P : Program} {w : World} {r : Reach} {base : Nat} {t : TypeId} {k : IntKind} {v : Value} (ht : P.underlying t = some (.int k)) (h : Cell.okWide P w r base t v) : ∃ n, v = .int k n ∧ k.has n := by
  simp only [Cell.okWide, ht] at h
  cases v <;> simp_all [Cell.ok]
theorem cell_bool {P : Program} {w : World} {r : Reach} {base : Nat} {t : TypeId} {v : Value} (ht : P.underlying t = some .bool) (h : Cell.okWide P w r base t v) : ∃ b, v = .bool b := by
  simp only [Cell.okWide, ht] at h
  cases v <;> simp_all [Cell.ok]
theorem cell_string {P : Program} {w : World} {r : Reach} {base : Nat} {t : TypeId} {v : Value} (ht : P.underlying t = some .string) (h : Cell.okWide P w r base t v) : ∃ s, v = .string s ∧ (s.size : Int) ≤ IntKind.i64.max := by
  simp only [Cell.okWide, ht] at h
  cases v <;> simp_all [Cell.ok]
theorem row_cell {P : Program} {w : World} {r : Reach} {base : Nat} {t : TypeId} {ts : List TypeId} {cs : Array Value} (hc : P.cellTypes P.depth t = some ts) (h : Row.okWide P w r base t cs) (i : Nat) (v : Value) (hv : cs[i]? = some v) : ∃ u, ts[i % ts.length]? = some u ∧ Cell.okWide P w r base u v := by
  obtain ⟨ts', h1, _, h3⟩ := h
  rw [hc] at h1
  obtain rfl := Option.some.inj h1
  exact h3 i v hv
theorem agg_array {P : Program} {w : World} {r : Reach} {base : Nat} {t : TypeId} {n : Nat} {e : TypeId} {v : Value} (ht : P.underlying t = some (.array n e)) (h : Value.okWide P w r base t v) : ∃ cs, v = .agg cs ∧ cs.size = P.cellsOf t ∧ Row.okWide P w r base t cs := by
  simpa only [Value.okWide, ht] using h
theorem agg_struct {P : Program} {w : World} {r : Reach} {base : Nat} {t : TypeId} {fs : Array Field} {v : Value} (ht : P.underlying t = some (.struct fs)) (h : Value.okWide P w r base t v) : ∃ cs, v = .agg cs ∧ cs.size = P.cellsOf t ∧ Row.okWide P w r base t cs := by
  simpa only [Value.okWide, ht] using h
theorem list2 {α : Type} {cs : Array α} (h : cs.size = 2) : ∃ c0 c1, cs = #[c0, c1] := by
  obtain ⟨l⟩ := cs
  match l, h with
  | [c0, c1], _ => exact ⟨c0, c1, rfl⟩
theorem list8 {α : Type} {cs : Array α} (h : cs.size = 8) : ∃ c0 c1 c2 c3 c4 c5 c6 c7, cs = #[c0, c1, c2, c3, c4, c5, c6, c7] := by
  obtain ⟨l⟩ := cs
  match l, h with
  | [c0, c1, c2, c3, c4, c5, c6, c7], _ => exact ⟨c0, c1, c2, c3, c4, c5, c6, c7, rfl⟩
end Go.Proofs.Ytplnpgmchibnlaa
