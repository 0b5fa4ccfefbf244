/-
  No cell of these rows narrows 'for every input' (looked for: loops, veiled, ifaces, maps, wideKeys, modest, calm, conditions, laid).
  DERIVED. THE GIVEN ROWS OF THIS SEAT. 6 by the template 'for every input the law returns true; each argument reads behind the call as it read before'; 0 by the template 'total and deterministic' (their statements: YtplnpgmchibnlaaTotals.lean).
  GIVEN WITH THE SEED: the statements are not yours to turn. If you find one false, say at which input.
  Laid BY PROGRAM, IN A SANDBOX (cutbox-rows.mjs): the forced cells as the released guide's own fill.sh prints them over the translation 44b4f11233ed2c79… (all of the seat's roots in one cut). By AI agents, Wed Nov 11 2026. No macro, syntax, notation, axiom, sorry.
-/
import Derived.Test.YtplnpgmchibnlaaChecked
import GoSem.Claim
import GoSem.ClaimJoined
import GoSem.ClaimMapViews
import Derived.JoinedTies
import Derived.KernelRfl
namespace Go.Proofs.Ytplnpgmchibnlaa
/- THE CELL 'sum', in the pinned program and in every row, IS THE sha256 OF THE DUMP (.gsa) THAT YtplnpgmchibnlaaProg.lean LOADS. Nothing in Lean hashes anything: it is a label: what it is worth is what the hold of that sum in a sandbox is worth. -/
noncomputable def Try.pinned : Pinned := { name := "ytplnpgmchibnlaa", sum := "44b4f11233ed2c799da4f5e6357aa37f9aa3824e18b115eb0f8a34de0e8493f8", checked := Try.checked }
namespace Rows
def none {H : Type} : Left H := { results := [], args := [] }

/-- 'stemmalaw02.VectorOrder': WHATEVER THE INPUT: true; the input reads as it did. -/
def vectorOrderSpec : ChangeSpec := { name := "vectorOrder", fn := fun _ => fun
  | [d1, d2, d3] => { results := [.lit (.bool true)], args := [d1, d2, d3] }
  | _ => none }
def vectorOrderRow : OpenClaim := { program := "ytplnpgmchibnlaa", sum := "44b4f11233ed2c799da4f5e6357aa37f9aa3824e18b115eb0f8a34de0e8493f8", func := "stemma/stemmalaw02.VectorOrder", spec := "vectorOrder", apart := false }
def VectorOrderSaid : Prop := vectorOrderRow.holds Try.pinned (OpenSpec.ofChange vectorOrderSpec)

/-- ITS FALSE NEIGHBOUR: 'it returns false'. Refute it at one input. -/
def vectorOrderWrong : ChangeSpec := { name := "vectorOrder", fn := fun _ => fun
  | [d1, d2, d3] => { results := [.lit (.bool false)], args := [d1, d2, d3] }
  | _ => none }
def VectorOrderWrongFalsely : Prop := vectorOrderRow.holds Try.pinned (OpenSpec.ofChange vectorOrderWrong)

/-- 'stemmalaw02.VectorStamps': WHATEVER THE INPUT: true; the input reads as it did. -/
def vectorStampsSpec : ChangeSpec := { name := "vectorStamps", fn := fun _ => fun
  | [d1, d2] => { results := [.lit (.bool true)], args := [d1, d2] }
  | _ => none }
def vectorStampsRow : OpenClaim := { program := "ytplnpgmchibnlaa", sum := "44b4f11233ed2c799da4f5e6357aa37f9aa3824e18b115eb0f8a34de0e8493f8", func := "stemma/stemmalaw02.VectorStamps", spec := "vectorStamps", apart := false }
def VectorStampsSaid : Prop := vectorStampsRow.holds Try.pinned (OpenSpec.ofChange vectorStampsSpec)

/-- ITS FALSE NEIGHBOUR: 'it returns false'. Refute it at one input. -/
def vectorStampsWrong : ChangeSpec := { name := "vectorStamps", fn := fun _ => fun
  | [d1, d2] => { results := [.lit (.bool false)], args := [d1, d2] }
  | _ => none }
def VectorStampsWrongFalsely : Prop := vectorStampsRow.holds Try.pinned (OpenSpec.ofChange vectorStampsWrong)

/-- 'stemmalaw02.VectorHolds': WHATEVER THE INPUT: true; the input reads as it did. -/
def vectorHoldsSpec : ChangeSpec := { name := "vectorHolds", fn := fun _ => fun
  | [d1, d2, d3] => { results := [.lit (.bool true)], args := [d1, d2, d3] }
  | _ => none }
def vectorHoldsRow : OpenClaim := { program := "ytplnpgmchibnlaa", sum := "44b4f11233ed2c799da4f5e6357aa37f9aa3824e18b115eb0f8a34de0e8493f8", func := "stemma/stemmalaw02.VectorHolds", spec := "vectorHolds", apart := false }
def VectorHoldsSaid : Prop := vectorHoldsRow.holds Try.pinned (OpenSpec.ofChange vectorHoldsSpec)

/-- ITS FALSE NEIGHBOUR: 'it returns false'. Refute it at one input. -/
def vectorHoldsWrong : ChangeSpec := { name := "vectorHolds", fn := fun _ => fun
  | [d1, d2, d3] => { results := [.lit (.bool false)], args := [d1, d2, d3] }
  | _ => none }
def VectorHoldsWrongFalsely : Prop := vectorHoldsRow.holds Try.pinned (OpenSpec.ofChange vectorHoldsWrong)

/-- 'stemmalaw02.VectorPairs': WHATEVER THE INPUT: true; the input reads as it did. -/
def vectorPairsSpec : ChangeSpec := { name := "vectorPairs", fn := fun _ => fun
  | [d1, d2] => { results := [.lit (.bool true)], args := [d1, d2] }
  | _ => none }
def vectorPairsRow : OpenClaim := { program := "ytplnpgmchibnlaa", sum := "44b4f11233ed2c799da4f5e6357aa37f9aa3824e18b115eb0f8a34de0e8493f8", func := "stemma/stemmalaw02.VectorPairs", spec := "vectorPairs", apart := false }
def VectorPairsSaid : Prop := vectorPairsRow.holds Try.pinned (OpenSpec.ofChange vectorPairsSpec)

/-- ITS FALSE NEIGHBOUR: 'it returns false'. Refute it at one input. -/
def vectorPairsWrong : ChangeSpec := { name := "vectorPairs", fn := fun _ => fun
  | [d1, d2] => { results := [.lit (.bool false)], args := [d1, d2] }
  | _ => none }
def VectorPairsWrongFalsely : Prop := vectorPairsRow.holds Try.pinned (OpenSpec.ofChange vectorPairsWrong)

/-- 'stemmalaw02.VectorLeast': WHATEVER THE INPUT: true; the input reads as it did. -/
def vectorLeastSpec : ChangeSpec := { name := "vectorLeast", fn := fun _ => fun
  | [d1, d2, d3] => { results := [.lit (.bool true)], args := [d1, d2, d3] }
  | _ => none }
def vectorLeastRow : OpenClaim := { program := "ytplnpgmchibnlaa", sum := "44b4f11233ed2c799da4f5e6357aa37f9aa3824e18b115eb0f8a34de0e8493f8", func := "stemma/stemmalaw02.VectorLeast", spec := "vectorLeast", apart := false }
def VectorLeastSaid : Prop := vectorLeastRow.holds Try.pinned (OpenSpec.ofChange vectorLeastSpec)

/-- ITS FALSE NEIGHBOUR: 'it returns false'. Refute it at one input. -/
def vectorLeastWrong : ChangeSpec := { name := "vectorLeast", fn := fun _ => fun
  | [d1, d2, d3] => { results := [.lit (.bool false)], args := [d1, d2, d3] }
  | _ => none }
def VectorLeastWrongFalsely : Prop := vectorLeastRow.holds Try.pinned (OpenSpec.ofChange vectorLeastWrong)

/-- 'stemmalaw02.VectorEither': WHATEVER THE INPUT: true; the input reads as it did. -/
def vectorEitherSpec : ChangeSpec := { name := "vectorEither", fn := fun _ => fun
  | [d1, d2, d3] => { results := [.lit (.bool true)], args := [d1, d2, d3] }
  | _ => none }
def vectorEitherRow : OpenClaim := { program := "ytplnpgmchibnlaa", sum := "44b4f11233ed2c799da4f5e6357aa37f9aa3824e18b115eb0f8a34de0e8493f8", func := "stemma/stemmalaw02.VectorEither", spec := "vectorEither", apart := false }
def VectorEitherSaid : Prop := vectorEitherRow.holds Try.pinned (OpenSpec.ofChange vectorEitherSpec)

/-- ITS FALSE NEIGHBOUR: 'it returns false'. Refute it at one input. -/
def vectorEitherWrong : ChangeSpec := { name := "vectorEither", fn := fun _ => fun
  | [d1, d2, d3] => { results := [.lit (.bool false)], args := [d1, d2, d3] }
  | _ => none }
def VectorEitherWrongFalsely : Prop := vectorEitherRow.holds Try.pinned (OpenSpec.ofChange vectorEitherWrong)

/- THE SECOND FORM. 'bulk': how many values and letters a reading holds, each counted each time it is reached (what is shared counts as often as it is met; a slice's spare places count too). A statement '..UptoSaid' is the law's where the arguments, and the package variables that the reading takes, are together of bulk at most 1048576: NARROWER than '..Said'. Prove '..Said' where nothing that the law and all that it calls make is longer than what came in: it says more and counts as full. Else prove '..UptoSaid'. A law counts once. -/
mutual
def uptoBulk {H : Type} : DataW H → Nat
  | .lit (.string bytes) => bytes.length + 1
  | .lit _ => 1
  | .nil => 1
  | .ptr d => uptoBulk d + 1
  | .slice elems spare => uptoBulkAll elems + uptoBulkAll spare + 1
  | .agg parts => uptoBulkAll parts + 1
  | .iface _ d => uptoBulk d + 1
  | .map entries => uptoBulkEntries entries + 1
  | .held _ => 1
def uptoBulkAll {H : Type} : List (DataW H) → Nat
  | [] => 0
  | d :: r => uptoBulk d + uptoBulkAll r
def uptoBulkEntries {H : Type} : List (Lit × DataW H) → Nat
  | [] => 0
  | x :: r => uptoBulkEntry x + uptoBulkEntries r
def uptoBulkEntry {H : Type} : Lit × DataW H → Nat
  | (.string bytes, d) => bytes.length + uptoBulk d + 1
  | (_, d) => uptoBulk d + 1
 end
def uptoSmall : (H : Type) → List (DataW H) → Bool := fun _ ds => decide (uptoBulkAll ds ≤ 1048576)
def OpenSpec.upto (s : _root_.Go.ChangeSpec) : _root_.Go.OpenSpec := { _root_.Go.OpenSpec.ofChange s with cond := some uptoSmall }

/-- 'stemmalaw02.VectorOrder', WHERE WHAT IT READS IS OF BULK AT MOST 1048576: true; the input reads as it did. -/
def vectorOrderUptoRow : OpenClaim := { program := "ytplnpgmchibnlaa", sum := "44b4f11233ed2c799da4f5e6357aa37f9aa3824e18b115eb0f8a34de0e8493f8", func := "stemma/stemmalaw02.VectorOrder", spec := "vectorOrder", apart := false, narrowed := true }
def VectorOrderUptoSaid : Prop := vectorOrderUptoRow.holds Try.pinned (OpenSpec.upto vectorOrderSpec)

/-- 'stemmalaw02.VectorStamps', WHERE WHAT IT READS IS OF BULK AT MOST 1048576: true; the input reads as it did. -/
def vectorStampsUptoRow : OpenClaim := { program := "ytplnpgmchibnlaa", sum := "44b4f11233ed2c799da4f5e6357aa37f9aa3824e18b115eb0f8a34de0e8493f8", func := "stemma/stemmalaw02.VectorStamps", spec := "vectorStamps", apart := false, narrowed := true }
def VectorStampsUptoSaid : Prop := vectorStampsUptoRow.holds Try.pinned (OpenSpec.upto vectorStampsSpec)

/-- 'stemmalaw02.VectorHolds', WHERE WHAT IT READS IS OF BULK AT MOST 1048576: true; the input reads as it did. -/
def vectorHoldsUptoRow : OpenClaim := { program := "ytplnpgmchibnlaa", sum := "44b4f11233ed2c799da4f5e6357aa37f9aa3824e18b115eb0f8a34de0e8493f8", func := "stemma/stemmalaw02.VectorHolds", spec := "vectorHolds", apart := false, narrowed := true }
def VectorHoldsUptoSaid : Prop := vectorHoldsUptoRow.holds Try.pinned (OpenSpec.upto vectorHoldsSpec)

/-- 'stemmalaw02.VectorPairs', WHERE WHAT IT READS IS OF BULK AT MOST 1048576: true; the input reads as it did. -/
def vectorPairsUptoRow : OpenClaim := { program := "ytplnpgmchibnlaa", sum := "44b4f11233ed2c799da4f5e6357aa37f9aa3824e18b115eb0f8a34de0e8493f8", func := "stemma/stemmalaw02.VectorPairs", spec := "vectorPairs", apart := false, narrowed := true }
def VectorPairsUptoSaid : Prop := vectorPairsUptoRow.holds Try.pinned (OpenSpec.upto vectorPairsSpec)

/-- 'stemmalaw02.VectorLeast', WHERE WHAT IT READS IS OF BULK AT MOST 1048576: true; the input reads as it did. -/
def vectorLeastUptoRow : OpenClaim := { program := "ytplnpgmchibnlaa", sum := "44b4f11233ed2c799da4f5e6357aa37f9aa3824e18b115eb0f8a34de0e8493f8", func := "stemma/stemmalaw02.VectorLeast", spec := "vectorLeast", apart := false, narrowed := true }
def VectorLeastUptoSaid : Prop := vectorLeastUptoRow.holds Try.pinned (OpenSpec.upto vectorLeastSpec)

/-- 'stemmalaw02.VectorEither', WHERE WHAT IT READS IS OF BULK AT MOST 1048576: true; the input reads as it did. -/
def vectorEitherUptoRow : OpenClaim := { program := "ytplnpgmchibnlaa", sum := "44b4f11233ed2c799da4f5e6357aa37f9aa3824e18b115eb0f8a34de0e8493f8", func := "stemma/stemmalaw02.VectorEither", spec := "vectorEither", apart := false, narrowed := true }
def VectorEitherUptoSaid : Prop := vectorEitherUptoRow.holds Try.pinned (OpenSpec.upto vectorEitherSpec)

end Rows
end Go.Proofs.Ytplnpgmchibnlaa
