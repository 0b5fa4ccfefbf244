/-
  No cell of these rows narrows 'for every input' (looked for: loops, veiled, ifaces, maps, wideKeys, modest, calm, conditions, laid).
  DERIVED. THE GIVEN ROWS OF THIS SEAT. 3 by the template 'for every input the law returns true; each argument reads behind the call as it read before'; 0 by the template 'total and deterministic' (their statements: YtdhhjojfakkjoaaTotals.lean).
  GIVEN WITH THE SEED: the statements are not yours to turn. If you find one false, say at which input.
  Laid BY PROGRAM, IN A SANDBOX (cutbox-rows.mjs): the forced cells as the released guide's own fill.sh prints them over the translation 7c313f8a076e0362… (all of the seat's roots in one cut). By AI agents, Wed Nov 11 2026. No macro, syntax, notation, axiom, sorry.
-/
import Derived.Test.YtdhhjojfakkjoaaChecked
import GoSem.Claim
import GoSem.ClaimJoined
import GoSem.ClaimMapViews
import Derived.JoinedTies
import Derived.KernelRfl
namespace Go.Proofs.Ytdhhjojfakkjoaa
/- THE CELL 'sum', in the pinned program and in every row, IS THE sha256 OF THE DUMP (.gsa) THAT YtdhhjojfakkjoaaProg.lean LOADS. Nothing in Lean hashes anything: it is a label: what it is worth is what the hold of that sum in a sandbox is worth. -/
noncomputable def Try.pinned : Pinned := { name := "ytdhhjojfakkjoaa", sum := "7c313f8a076e03625dc6acd7088e83b9f3b233736b8fe96f08d146b6eeb1e9b0", checked := Try.checked }
namespace Rows
def none {H : Type} : Left H := { results := [], args := [] }

/-- 'stemmalaw13.KeysRight': WHATEVER THE INPUT: true; the input reads as it did. -/
def keysRightSpec : ChangeSpec := { name := "keysRight", fn := fun _ => fun
  | [d] => { results := [.lit (.bool true)], args := [d] }
  | _ => none }
def keysRightRow : OpenClaim := { program := "ytdhhjojfakkjoaa", sum := "7c313f8a076e03625dc6acd7088e83b9f3b233736b8fe96f08d146b6eeb1e9b0", func := "stemma/stemmalaw13.KeysRight", spec := "keysRight", inPlace := ["internal/bytealg.IndexByteString"], apart := false }
def KeysRightSaid : Prop := keysRightRow.holds Try.pinned (OpenSpec.ofChange keysRightSpec)

/-- ITS FALSE NEIGHBOUR: 'it returns false'. Refute it at one input. -/
def keysRightWrong : ChangeSpec := { name := "keysRight", fn := fun _ => fun
  | [d] => { results := [.lit (.bool false)], args := [d] }
  | _ => none }
def KeysRightWrongFalsely : Prop := keysRightRow.holds Try.pinned (OpenSpec.ofChange keysRightWrong)

/-- 'stemmalaw13.KeysBetween': WHATEVER THE INPUT: true; the input reads as it did. -/
def keysBetweenSpec : ChangeSpec := { name := "keysBetween", fn := fun _ => fun
  | [d1, d2] => { results := [.lit (.bool true)], args := [d1, d2] }
  | _ => none }
def keysBetweenRow : OpenClaim := { program := "ytdhhjojfakkjoaa", sum := "7c313f8a076e03625dc6acd7088e83b9f3b233736b8fe96f08d146b6eeb1e9b0", func := "stemma/stemmalaw13.KeysBetween", spec := "keysBetween", inPlace := ["internal/bytealg.IndexByteString"], apart := false }
def KeysBetweenSaid : Prop := keysBetweenRow.holds Try.pinned (OpenSpec.ofChange keysBetweenSpec)

/-- ITS FALSE NEIGHBOUR: 'it returns false'. Refute it at one input. -/
def keysBetweenWrong : ChangeSpec := { name := "keysBetween", fn := fun _ => fun
  | [d1, d2] => { results := [.lit (.bool false)], args := [d1, d2] }
  | _ => none }
def KeysBetweenWrongFalsely : Prop := keysBetweenRow.holds Try.pinned (OpenSpec.ofChange keysBetweenWrong)

/-- 'stemmalaw13.KeysAgain': WHATEVER THE INPUT: true; the input reads as it did. -/
def keysAgainSpec : ChangeSpec := { name := "keysAgain", fn := fun _ => fun
  | [d] => { results := [.lit (.bool true)], args := [d] }
  | _ => none }
def keysAgainRow : OpenClaim := { program := "ytdhhjojfakkjoaa", sum := "7c313f8a076e03625dc6acd7088e83b9f3b233736b8fe96f08d146b6eeb1e9b0", func := "stemma/stemmalaw13.KeysAgain", spec := "keysAgain", inPlace := ["internal/bytealg.IndexByteString"], apart := false }
def KeysAgainSaid : Prop := keysAgainRow.holds Try.pinned (OpenSpec.ofChange keysAgainSpec)

/-- ITS FALSE NEIGHBOUR: 'it returns false'. Refute it at one input. -/
def keysAgainWrong : ChangeSpec := { name := "keysAgain", fn := fun _ => fun
  | [d] => { results := [.lit (.bool false)], args := [d] }
  | _ => none }
def KeysAgainWrongFalsely : Prop := keysAgainRow.holds Try.pinned (OpenSpec.ofChange keysAgainWrong)

/- THE SECOND FORM. 'bulk': how many values and letters a reading holds, each counted each time it is reached (what is shared counts as often as it is met; a slice's spare places count too). A statement '..UptoSaid' is the law's where the arguments, and the package variables that the reading takes, are together of bulk at most 1048576: NARROWER than '..Said'. Prove '..Said' where nothing that the law and all that it calls make is longer than what came in: it says more and counts as full. Else prove '..UptoSaid'. A law counts once. -/
mutual
def uptoBulk {H : Type} : DataW H → Nat
  | .lit (.string bytes) => bytes.length + 1
  | .lit _ => 1
  | .nil => 1
  | .ptr d => uptoBulk d + 1
  | .slice elems spare => uptoBulkAll elems + uptoBulkAll spare + 1
  | .agg parts => uptoBulkAll parts + 1
  | .iface _ d => uptoBulk d + 1
  | .map entries => uptoBulkEntries entries + 1
  | .held _ => 1
def uptoBulkAll {H : Type} : List (DataW H) → Nat
  | [] => 0
  | d :: r => uptoBulk d + uptoBulkAll r
def uptoBulkEntries {H : Type} : List (Lit × DataW H) → Nat
  | [] => 0
  | x :: r => uptoBulkEntry x + uptoBulkEntries r
def uptoBulkEntry {H : Type} : Lit × DataW H → Nat
  | (.string bytes, d) => bytes.length + uptoBulk d + 1
  | (_, d) => uptoBulk d + 1
 end
def uptoSmall : (H : Type) → List (DataW H) → Bool := fun _ ds => decide (uptoBulkAll ds ≤ 1048576)
def OpenSpec.upto (s : _root_.Go.ChangeSpec) : _root_.Go.OpenSpec := { _root_.Go.OpenSpec.ofChange s with cond := some uptoSmall }

/-- 'stemmalaw13.KeysRight', WHERE WHAT IT READS IS OF BULK AT MOST 1048576: true; the input reads as it did. -/
def keysRightUptoRow : OpenClaim := { program := "ytdhhjojfakkjoaa", sum := "7c313f8a076e03625dc6acd7088e83b9f3b233736b8fe96f08d146b6eeb1e9b0", func := "stemma/stemmalaw13.KeysRight", spec := "keysRight", inPlace := ["internal/bytealg.IndexByteString"], apart := false, narrowed := true }
def KeysRightUptoSaid : Prop := keysRightUptoRow.holds Try.pinned (OpenSpec.upto keysRightSpec)

/-- 'stemmalaw13.KeysBetween', WHERE WHAT IT READS IS OF BULK AT MOST 1048576: true; the input reads as it did. -/
def keysBetweenUptoRow : OpenClaim := { program := "ytdhhjojfakkjoaa", sum := "7c313f8a076e03625dc6acd7088e83b9f3b233736b8fe96f08d146b6eeb1e9b0", func := "stemma/stemmalaw13.KeysBetween", spec := "keysBetween", inPlace := ["internal/bytealg.IndexByteString"], apart := false, narrowed := true }
def KeysBetweenUptoSaid : Prop := keysBetweenUptoRow.holds Try.pinned (OpenSpec.upto keysBetweenSpec)

/-- 'stemmalaw13.KeysAgain', WHERE WHAT IT READS IS OF BULK AT MOST 1048576: true; the input reads as it did. -/
def keysAgainUptoRow : OpenClaim := { program := "ytdhhjojfakkjoaa", sum := "7c313f8a076e03625dc6acd7088e83b9f3b233736b8fe96f08d146b6eeb1e9b0", func := "stemma/stemmalaw13.KeysAgain", spec := "keysAgain", inPlace := ["internal/bytealg.IndexByteString"], apart := false, narrowed := true }
def KeysAgainUptoSaid : Prop := keysAgainUptoRow.holds Try.pinned (OpenSpec.upto keysAgainSpec)

end Rows
end Go.Proofs.Ytdhhjojfakkjoaa
