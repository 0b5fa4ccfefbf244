/-
  No cell of these rows narrows 'for every input' (looked for: loops, veiled, ifaces, maps, wideKeys, modest, calm, conditions, laid).
  DERIVED. THE GIVEN ROWS OF THIS SEAT. 4 by the template 'for every input the law returns true; each argument reads behind the call as it read before'; 0 by the template 'total and deterministic' (their statements: YtpkbkcjegbpifaaTotals.lean).
  GIVEN WITH THE SEED: the statements are not yours to turn. If you find one false, say at which input.
  Laid BY PROGRAM, IN A SANDBOX (cutbox-rows.mjs): the forced cells as the released guide's own fill.sh prints them over the translation e01d485001547025… (all of the seat's roots in one cut). By AI agents, Wed Nov 11 2026. No macro, syntax, notation, axiom, sorry.
-/
import Derived.Test.YtpkbkcjegbpifaaChecked
import GoSem.Claim
import GoSem.ClaimJoined
import GoSem.ClaimMapViews
import Derived.JoinedTies
import Derived.KernelRfl
namespace Go.Proofs.Ytpkbkcjegbpifaa
/- THE CELL 'sum', in the pinned program and in every row, IS THE sha256 OF THE DUMP (.gsa) THAT YtpkbkcjegbpifaaProg.lean LOADS. Nothing in Lean hashes anything: it is a label: what it is worth is what the hold of that sum in a sandbox is worth. -/
noncomputable def Try.pinned : Pinned := { name := "ytpkbkcjegbpifaa", sum := "e01d4850015470252b8dd43699cdaa685520acbe14a68f6d60b369216044389d", checked := Try.checked }
namespace Rows
def none {H : Type} : Left H := { results := [], args := [] }

/-- 'stemmalaw01.StampNext': WHATEVER THE INPUT: true; the input reads as it did. -/
def stampNextSpec : ChangeSpec := { name := "stampNext", fn := fun _ => fun
  | [d1, d2] => { results := [.lit (.bool true)], args := [d1, d2] }
  | _ => none }
def stampNextRow : OpenClaim := { program := "ytpkbkcjegbpifaa", sum := "e01d4850015470252b8dd43699cdaa685520acbe14a68f6d60b369216044389d", func := "stemma/stemmalaw01.StampNext", spec := "stampNext", apart := false }
def StampNextSaid : Prop := stampNextRow.holds Try.pinned (OpenSpec.ofChange stampNextSpec)

/-- ITS FALSE NEIGHBOUR: 'it returns false'. Refute it at one input. -/
def stampNextWrong : ChangeSpec := { name := "stampNext", fn := fun _ => fun
  | [d1, d2] => { results := [.lit (.bool false)], args := [d1, d2] }
  | _ => none }
def StampNextWrongFalsely : Prop := stampNextRow.holds Try.pinned (OpenSpec.ofChange stampNextWrong)

/-- 'stemmalaw01.StampLine': WHATEVER THE INPUT: true; the input reads as it did. -/
def stampLineSpec : ChangeSpec := { name := "stampLine", fn := fun _ => fun
  | [d1, d2, d3] => { results := [.lit (.bool true)], args := [d1, d2, d3] }
  | _ => none }
def stampLineRow : OpenClaim := { program := "ytpkbkcjegbpifaa", sum := "e01d4850015470252b8dd43699cdaa685520acbe14a68f6d60b369216044389d", func := "stemma/stemmalaw01.StampLine", spec := "stampLine", apart := false }
def StampLineSaid : Prop := stampLineRow.holds Try.pinned (OpenSpec.ofChange stampLineSpec)

/-- ITS FALSE NEIGHBOUR: 'it returns false'. Refute it at one input. -/
def stampLineWrong : ChangeSpec := { name := "stampLine", fn := fun _ => fun
  | [d1, d2, d3] => { results := [.lit (.bool false)], args := [d1, d2, d3] }
  | _ => none }
def StampLineWrongFalsely : Prop := stampLineRow.holds Try.pinned (OpenSpec.ofChange stampLineWrong)

/-- 'stemmalaw01.StampRight': WHATEVER THE INPUT: true; the input reads as it did. -/
def stampRightSpec : ChangeSpec := { name := "stampRight", fn := fun _ => fun
  | [d1, d2] => { results := [.lit (.bool true)], args := [d1, d2] }
  | _ => none }
def stampRightRow : OpenClaim := { program := "ytpkbkcjegbpifaa", sum := "e01d4850015470252b8dd43699cdaa685520acbe14a68f6d60b369216044389d", func := "stemma/stemmalaw01.StampRight", spec := "stampRight", apart := false }
def StampRightSaid : Prop := stampRightRow.holds Try.pinned (OpenSpec.ofChange stampRightSpec)

/-- ITS FALSE NEIGHBOUR: 'it returns false'. Refute it at one input. -/
def stampRightWrong : ChangeSpec := { name := "stampRight", fn := fun _ => fun
  | [d1, d2] => { results := [.lit (.bool false)], args := [d1, d2] }
  | _ => none }
def StampRightWrongFalsely : Prop := stampRightRow.holds Try.pinned (OpenSpec.ofChange stampRightWrong)

/-- 'stemmalaw01.StampAfter': WHATEVER THE INPUT: true; the input reads as it did. -/
def stampAfterSpec : ChangeSpec := { name := "stampAfter", fn := fun _ => fun
  | [d1, d2, d3] => { results := [.lit (.bool true)], args := [d1, d2, d3] }
  | _ => none }
def stampAfterRow : OpenClaim := { program := "ytpkbkcjegbpifaa", sum := "e01d4850015470252b8dd43699cdaa685520acbe14a68f6d60b369216044389d", func := "stemma/stemmalaw01.StampAfter", spec := "stampAfter", apart := false }
def StampAfterSaid : Prop := stampAfterRow.holds Try.pinned (OpenSpec.ofChange stampAfterSpec)

/-- ITS FALSE NEIGHBOUR: 'it returns false'. Refute it at one input. -/
def stampAfterWrong : ChangeSpec := { name := "stampAfter", fn := fun _ => fun
  | [d1, d2, d3] => { results := [.lit (.bool false)], args := [d1, d2, d3] }
  | _ => none }
def StampAfterWrongFalsely : Prop := stampAfterRow.holds Try.pinned (OpenSpec.ofChange stampAfterWrong)

/- THE SECOND FORM. 'bulk': how many values and letters a reading holds, each counted each time it is reached (what is shared counts as often as it is met; a slice's spare places count too). A statement '..UptoSaid' is the law's where the arguments, and the package variables that the reading takes, are together of bulk at most 1048576: NARROWER than '..Said'. Prove '..Said' where nothing that the law and all that it calls make is longer than what came in: it says more and counts as full. Else prove '..UptoSaid'. A law counts once. -/
mutual
def uptoBulk {H : Type} : DataW H → Nat
  | .lit (.string bytes) => bytes.length + 1
  | .lit _ => 1
  | .nil => 1
  | .ptr d => uptoBulk d + 1
  | .slice elems spare => uptoBulkAll elems + uptoBulkAll spare + 1
  | .agg parts => uptoBulkAll parts + 1
  | .iface _ d => uptoBulk d + 1
  | .map entries => uptoBulkEntries entries + 1
  | .held _ => 1
def uptoBulkAll {H : Type} : List (DataW H) → Nat
  | [] => 0
  | d :: r => uptoBulk d + uptoBulkAll r
def uptoBulkEntries {H : Type} : List (Lit × DataW H) → Nat
  | [] => 0
  | x :: r => uptoBulkEntry x + uptoBulkEntries r
def uptoBulkEntry {H : Type} : Lit × DataW H → Nat
  | (.string bytes, d) => bytes.length + uptoBulk d + 1
  | (_, d) => uptoBulk d + 1
 end
def uptoSmall : (H : Type) → List (DataW H) → Bool := fun _ ds => decide (uptoBulkAll ds ≤ 1048576)
def OpenSpec.upto (s : _root_.Go.ChangeSpec) : _root_.Go.OpenSpec := { _root_.Go.OpenSpec.ofChange s with cond := some uptoSmall }

/-- 'stemmalaw01.StampNext', WHERE WHAT IT READS IS OF BULK AT MOST 1048576: true; the input reads as it did. -/
def stampNextUptoRow : OpenClaim := { program := "ytpkbkcjegbpifaa", sum := "e01d4850015470252b8dd43699cdaa685520acbe14a68f6d60b369216044389d", func := "stemma/stemmalaw01.StampNext", spec := "stampNext", apart := false, narrowed := true }
def StampNextUptoSaid : Prop := stampNextUptoRow.holds Try.pinned (OpenSpec.upto stampNextSpec)

/-- 'stemmalaw01.StampLine', WHERE WHAT IT READS IS OF BULK AT MOST 1048576: true; the input reads as it did. -/
def stampLineUptoRow : OpenClaim := { program := "ytpkbkcjegbpifaa", sum := "e01d4850015470252b8dd43699cdaa685520acbe14a68f6d60b369216044389d", func := "stemma/stemmalaw01.StampLine", spec := "stampLine", apart := false, narrowed := true }
def StampLineUptoSaid : Prop := stampLineUptoRow.holds Try.pinned (OpenSpec.upto stampLineSpec)

/-- 'stemmalaw01.StampRight', WHERE WHAT IT READS IS OF BULK AT MOST 1048576: true; the input reads as it did. -/
def stampRightUptoRow : OpenClaim := { program := "ytpkbkcjegbpifaa", sum := "e01d4850015470252b8dd43699cdaa685520acbe14a68f6d60b369216044389d", func := "stemma/stemmalaw01.StampRight", spec := "stampRight", apart := false, narrowed := true }
def StampRightUptoSaid : Prop := stampRightUptoRow.holds Try.pinned (OpenSpec.upto stampRightSpec)

/-- 'stemmalaw01.StampAfter', WHERE WHAT IT READS IS OF BULK AT MOST 1048576: true; the input reads as it did. -/
def stampAfterUptoRow : OpenClaim := { program := "ytpkbkcjegbpifaa", sum := "e01d4850015470252b8dd43699cdaa685520acbe14a68f6d60b369216044389d", func := "stemma/stemmalaw01.StampAfter", spec := "stampAfter", apart := false, narrowed := true }
def StampAfterUptoSaid : Prop := stampAfterUptoRow.holds Try.pinned (OpenSpec.upto stampAfterSpec)

end Rows
end Go.Proofs.Ytpkbkcjegbpifaa
