/- STRUCTS HELD AGAINST EACH OTHER: general laws, of whatever program. -/
import Derived.Test.YtiamohfpohjdpaaDoorBase
import Derived.Laws.StructEq
namespace Go.Proofs.YtiamohfpohjdpaaDoor
open Go.RowKit
set_option linter.unusedSimpArgs false
set_option linter.unusedVariables false

theorem ba_beq (a b : ByteArray) : (a == b) = true ↔ a = b := by
  obtain ⟨⟨x⟩⟩ := a
  obtain ⟨⟨y⟩⟩ := b
  show ((⟨x⟩ : Array UInt8) == ⟨y⟩) = true ↔ _
  simp
section
variable {P : Program} {w : World} {d : Nat}
/-- one field: what it holds, and the answer -/
def FieldEq (P : Program) (w : World) (d : Nat) (xs ys : Array Value) (f : Field) (b : Bool) : Prop :=
  f.name ≠ "_" ∧ ∃ x y, (part f.type xs f.offset).run P w = .ok x w ∧ (part f.type ys f.offset).run P w = .ok y w ∧ (Op.equalIn d f.type x y).run P w = .ok b w
inductive FieldsEq (P : Program) (w : World) (d : Nat) (xs ys : Array Value) : List Field → List Bool → Prop
  | nil : FieldsEq P w d xs ys [] []
  | cons {f : Field} {b : Bool} {fs : List Field} {bs : List Bool} : FieldEq P w d xs ys f b → FieldsEq P w d xs ys fs bs → FieldsEq P w d xs ys (f :: fs) (b :: bs)
theorem eqF_run (xs ys : Array Value) : ∀ (fs : List Field) (bs : List Bool), FieldsEq P w d xs ys fs bs → (Op.eqFields d xs ys fs).run P w = .ok (bs.all id) w
  | [], _, h => by
    cases h
    simp [Op.eqFields, Sem.run_pure]
  | f :: fs, _, h => by
    cases h with
    | cons h1 h2 =>
      rename_i b bs
      obtain ⟨hn, x, y, p1, p2, p3⟩ := h1
      have ih := eqF_run xs ys fs bs h2
      rw [Op.eqFields, if_pos hn]
      simp only [Sem.run_bind, p1, p2, p3, Result.andThen_ok]
      cases b
      · simp [Sem.run_pure]
      · simp [ih]
theorem eqS_run {t : TypeId} {fs : Array Field} {xs ys : Array Value} (ht : P.underlying t = some (.struct fs)) (hp : P.stoodInHeld t = false) {bs : List Bool} (h : FieldsEq P w d xs ys fs.toList bs) :
    (Op.equalIn (d + 1) t (.agg xs) (.agg ys)).run P w = .ok (bs.all id) w := by
  have hf : P.fieldsOf t = fs := by simp [Program.fieldsOf, ht]
  rw [run_equalIn_struct w d t xs ys (by rw [hf]; exact ht) hp, hf]
  exact eqF_run xs ys _ _ h
theorem eqI_run {t : TypeId} (ht : P.underlying t = some (.int .i64)) (x y : Int) : (Op.equalIn (d + 1) t (.int .i64 x) (.int .i64 y)).run P w = .ok (x == y) w := by
  simp [Op.equalIn, Sem.run_bind, run_underlying ht, Sem.run_pure, Result.andThen]
theorem eqB_run {t : TypeId} (ht : P.underlying t = some .bool) (x y : Bool) : (Op.equalIn (d + 1) t (.bool x) (.bool y)).run P w = .ok (x == y) w := by
  simp [Op.equalIn, Sem.run_bind, run_underlying ht, Sem.run_pure, Result.andThen]
theorem eqStr_run {t : TypeId} (ht : P.underlying t = some .string) (x y : ByteArray) : (Op.equalIn (d + 1) t (.string x) (.string y)).run P w = .ok (x == y) w := by
  simp [Op.equalIn, Sem.run_bind, run_underlying ht, Sem.run_pure, Result.andThen]
theorem eqInts_run {t e : TypeId} {n : Nat} {i : TypeInfo} (ht : P.underlying t = some (.array n e)) (hi : P.info? e = some i) (hs : P.cellsOf e = 1) (he : P.plainKey e = true) (hu : P.underlying e = some (.int .i64)) (xs ys : List Int) (hx : xs.length = n) (hy : ys.length = n) :
    (Op.equalIn (d + 1 + 1) t (.agg (xs.map (Value.int .i64)).toArray) (.agg (ys.map (Value.int .i64)).toArray)).run P w = .ok (xs == ys) w := by
  have h3 := forIn_eqv (w := w) (d := d) he hu xs ys n 0 (by omega) (by omega)
  rw [Op.equalIn]
  simp only [Sem.run_bind, run_underlying ht, run_sizeOf _ hi, hs, Result.andThen_ok, Std.Legacy.Range.forIn_eq_forIn_range', Std.Legacy.Range.size]
  have hn : (n - 0 + 1 - 1) / 1 = n := by simp
  rw [hn, h3]
  have e1 : xs.take n = xs := by rw [← hx]; exact List.take_length
  have e2 : ys.take n = ys := by rw [← hy]; exact List.take_length
  simp only [List.drop_zero, e1, e2, Result.andThen_ok]
  by_cases hc : xs = ys
  · simp [hc, Sem.run_pure]
  · simp [hc, Sem.run_pure]
end
end Go.Proofs.YtiamohfpohjdpaaDoor
