/- KEYS THAT ARE STRUCTS: of whatever program: how a map's keys of a struct's type are met. -/
import Derived.Test.YtiamohfpohjdpaaDoorMap
import Derived.Test.YtiamohfpohjdpaaDoorOp
namespace Go.Proofs.YtiamohfpohjdpaaDoor
open Go.RowKit Go.Joins
set_option linter.unusedSimpArgs false
set_option linter.unusedVariables false
section
variable {K : Type} [DecidableEq K] {P : Program} {t : TypeId} {enc : K → Value} {fs : Array Field}
theorem asking (he : ∀ (a b : K) (w : World), (Op.equal t (enc a) (enc b)).run P w = .ok (decide (a = b)) w) (k : K) (w : World) : ∀ (es : List MapEntry) (L : List (K × Value)) (i : Nat), es.map (fun e => (e.key, e.val)) = L.map (fun p => (enc p.1, p.2)) →
    (Instr.findAsking t (enc k) es i).run P w = .ok (pos k L i) w
  | [], [], i, _ => by simp [Instr.findAsking, Sem.run_pure, pos]
  | [], p :: L, i, h => by simp at h
  | e :: es, [], i, h => by simp at h
  | e :: es, p :: L, i, h => by
    simp only [List.map_cons, List.cons.injEq, Prod.mk.injEq] at h
    obtain ⟨⟨h1, h2⟩, h3⟩ := h
    rw [Instr.findAsking, pos]
    simp only [Sem.run_bind, h1, he, Result.andThen_ok]
    by_cases hk : k = p.1
    · simp [hk, h2, Sem.run_pure]
    · simp [hk, asking he k w es L (i + 1) h3]
theorem keyIs_struct (hu : P.underlying t = some (.struct fs)) (hc : ∀ (k : K) (e : Bool) (w : World), (Instr.checkKey e 10000 t (enc k)).run P w = .ok () w)
    (he : ∀ (a b : K) (w : World), (Op.equal t (enc a) (enc b)).run P w = .ok (decide (a = b)) w) (hs : ∀ k, Instr.sameBits 10000 (enc k) (enc k) = true) : KeyIs P t enc where
  check := hc
  find := fun k w es L h => by
    unfold Instr.findKey
    simp only [Sem.run_bind, run_underlying hu, Result.andThen_ok]
    cases es with
    | nil =>
      cases L with
      | nil => simp [Instr.findNow, Sem.run_pure, pos]
      | cons p L => simp at h
    | cons e es =>
      have hn : Instr.findNow (.struct fs) (enc k) (e :: es) 0 = none := by simp [Instr.findNow, Instr.sameNow]
      rw [hn]
      exact asking he k w _ L 0 h
  same := hs
end
/-! ### keys that are stamps -/
abbrev encS (k : Int × Int) : Value := .agg #[.int .i64 k.1, .int .i64 k.2]
theorem keyIs_stamp : KeyIs Tryd.prog 31 encS :=
  keyIs_struct Tryd.underlying31 (fun k e w => by kernel_rfl) (fun a b w => by
    refine (eqSt_run 9998 a.1 a.2 b.1 b.2 w).trans ?_
    congr 1
    rw [Bool.eq_iff_iff]
    simp [Prod.ext_iff]) (fun k => by
    show Instr.sameBits (9998 + 1 + 1) (.agg #[.int .i64 k.1, .int .i64 k.2]) (.agg #[.int .i64 k.1, .int .i64 k.2]) = true
    generalize 9998 = d
    simp [Instr.sameBits])
end Go.Proofs.YtiamohfpohjdpaaDoor
