/-
  No cell of these rows narrows 'for every input' (looked for: loops, veiled, ifaces, maps, wideKeys, modest, calm, conditions, laid).
  DERIVED. THE GIVEN ROWS OF THIS SEAT. 7 by the template 'for every input the law returns true; each argument reads behind the call as it read before'; 0 by the template 'total and deterministic' (their statements: YtohpablkgfkelaaTotals.lean).
  GIVEN WITH THE SEED: the statements are not yours to turn. If you find one false, say at which input.
  Laid BY PROGRAM, IN A SANDBOX (cutbox-rows.mjs): the forced cells as the released guide's own fill.sh prints them over the translation 53e508ca719b6ffa… (all of the seat's roots in one cut). By AI agents, Wed Nov 11 2026. No macro, syntax, notation, axiom, sorry.
-/
import Derived.Test.YtohpablkgfkelaaChecked
import GoSem.Claim
import GoSem.ClaimJoined
import GoSem.ClaimMapViews
import Derived.JoinedTies
import Derived.KernelRfl
namespace Go.Proofs.Ytohpablkgfkelaa
/- THE CELL 'sum', in the pinned program and in every row, IS THE sha256 OF THE DUMP (.gsa) THAT YtohpablkgfkelaaProg.lean LOADS. Nothing in Lean hashes anything: it is a label: what it is worth is what the hold of that sum in a sandbox is worth. -/
noncomputable def Try.pinned : Pinned := { name := "ytohpablkgfkelaa", sum := "53e508ca719b6ffa50a1a0891d59f2125c8e93ba43b05a9a1f73125357eda2b1", checked := Try.checked }
namespace Rows
def none {H : Type} : Left H := { results := [], args := [] }

/-- 'stemmalaw12.FugueOrder': WHATEVER THE INPUT: true; the input reads as it did. -/
def fugueOrderSpec : ChangeSpec := { name := "fugueOrder", fn := fun _ => fun
  | [d1, d2] => { results := [.lit (.bool true)], args := [d1, d2] }
  | _ => none }
def fugueOrderRow : OpenClaim := { program := "ytohpablkgfkelaa", sum := "53e508ca719b6ffa50a1a0891d59f2125c8e93ba43b05a9a1f73125357eda2b1", func := "stemma/stemmalaw12.FugueOrder", spec := "fugueOrder", inPlace := ["slices.overlaps[stemma/api.Stamp]", "slices.overlaps[*stemma/rope.run[stemma/api.Stamp]]"], unfollowed := true, recurses := true, plainKeys := false, apart := false }
def FugueOrderSaid : Prop := fugueOrderRow.holds Try.pinned (OpenSpec.ofChange fugueOrderSpec)

/-- ITS FALSE NEIGHBOUR: 'it returns false'. Refute it at one input. -/
def fugueOrderWrong : ChangeSpec := { name := "fugueOrder", fn := fun _ => fun
  | [d1, d2] => { results := [.lit (.bool false)], args := [d1, d2] }
  | _ => none }
def FugueOrderWrongFalsely : Prop := fugueOrderRow.holds Try.pinned (OpenSpec.ofChange fugueOrderWrong)

/-- 'stemmalaw12.FugueStays': WHATEVER THE INPUT: true; the input reads as it did. -/
def fugueStaysSpec : ChangeSpec := { name := "fugueStays", fn := fun _ => fun
  | [d1, d2] => { results := [.lit (.bool true)], args := [d1, d2] }
  | _ => none }
def fugueStaysRow : OpenClaim := { program := "ytohpablkgfkelaa", sum := "53e508ca719b6ffa50a1a0891d59f2125c8e93ba43b05a9a1f73125357eda2b1", func := "stemma/stemmalaw12.FugueStays", spec := "fugueStays", inPlace := ["slices.overlaps[stemma/api.Stamp]", "slices.overlaps[*stemma/rope.run[stemma/api.Stamp]]"], unfollowed := true, recurses := true, plainKeys := false, apart := false }
def FugueStaysSaid : Prop := fugueStaysRow.holds Try.pinned (OpenSpec.ofChange fugueStaysSpec)

/-- ITS FALSE NEIGHBOUR: 'it returns false'. Refute it at one input. -/
def fugueStaysWrong : ChangeSpec := { name := "fugueStays", fn := fun _ => fun
  | [d1, d2] => { results := [.lit (.bool false)], args := [d1, d2] }
  | _ => none }
def FugueStaysWrongFalsely : Prop := fugueStaysRow.holds Try.pinned (OpenSpec.ofChange fugueStaysWrong)

/-- 'stemmalaw12.FugueSubtree': WHATEVER THE INPUT: true; the input reads as it did. -/
def fugueSubtreeSpec : ChangeSpec := { name := "fugueSubtree", fn := fun _ => fun
  | [d1, d2] => { results := [.lit (.bool true)], args := [d1, d2] }
  | _ => none }
def fugueSubtreeRow : OpenClaim := { program := "ytohpablkgfkelaa", sum := "53e508ca719b6ffa50a1a0891d59f2125c8e93ba43b05a9a1f73125357eda2b1", func := "stemma/stemmalaw12.FugueSubtree", spec := "fugueSubtree", inPlace := ["slices.overlaps[stemma/api.Stamp]", "slices.overlaps[*stemma/rope.run[stemma/api.Stamp]]"], unfollowed := true, recurses := true, plainKeys := false, apart := false }
def FugueSubtreeSaid : Prop := fugueSubtreeRow.holds Try.pinned (OpenSpec.ofChange fugueSubtreeSpec)

/-- ITS FALSE NEIGHBOUR: 'it returns false'. Refute it at one input. -/
def fugueSubtreeWrong : ChangeSpec := { name := "fugueSubtree", fn := fun _ => fun
  | [d1, d2] => { results := [.lit (.bool false)], args := [d1, d2] }
  | _ => none }
def FugueSubtreeWrongFalsely : Prop := fugueSubtreeRow.holds Try.pinned (OpenSpec.ofChange fugueSubtreeWrong)

/-- 'stemmalaw12.FugueRuns': WHATEVER THE INPUT: true; the input reads as it did. -/
def fugueRunsSpec : ChangeSpec := { name := "fugueRuns", fn := fun _ => fun
  | [d1, d2, d3] => { results := [.lit (.bool true)], args := [d1, d2, d3] }
  | _ => none }
def fugueRunsRow : OpenClaim := { program := "ytohpablkgfkelaa", sum := "53e508ca719b6ffa50a1a0891d59f2125c8e93ba43b05a9a1f73125357eda2b1", func := "stemma/stemmalaw12.FugueRuns", spec := "fugueRuns", inPlace := ["slices.overlaps[stemma/api.Stamp]", "slices.overlaps[*stemma/rope.run[stemma/api.Stamp]]"], unfollowed := true, recurses := true, plainKeys := false, apart := false }
def FugueRunsSaid : Prop := fugueRunsRow.holds Try.pinned (OpenSpec.ofChange fugueRunsSpec)

/-- ITS FALSE NEIGHBOUR: 'it returns false'. Refute it at one input. -/
def fugueRunsWrong : ChangeSpec := { name := "fugueRuns", fn := fun _ => fun
  | [d1, d2, d3] => { results := [.lit (.bool false)], args := [d1, d2, d3] }
  | _ => none }
def FugueRunsWrongFalsely : Prop := fugueRunsRow.holds Try.pinned (OpenSpec.ofChange fugueRunsWrong)

/-- 'stemmalaw12.FuguePlays': WHATEVER THE INPUT: true; the input reads as it did. -/
def fuguePlaysSpec : ChangeSpec := { name := "fuguePlays", fn := fun _ => fun
  | [d] => { results := [.lit (.bool true)], args := [d] }
  | _ => none }
def fuguePlaysRow : OpenClaim := { program := "ytohpablkgfkelaa", sum := "53e508ca719b6ffa50a1a0891d59f2125c8e93ba43b05a9a1f73125357eda2b1", func := "stemma/stemmalaw12.FuguePlays", spec := "fuguePlays", inPlace := ["slices.overlaps[stemma/api.Stamp]", "slices.overlaps[*stemma/rope.run[stemma/api.Stamp]]"], unfollowed := true, recurses := true, plainKeys := false, apart := false }
def FuguePlaysSaid : Prop := fuguePlaysRow.holds Try.pinned (OpenSpec.ofChange fuguePlaysSpec)

/-- ITS FALSE NEIGHBOUR: 'it returns false'. Refute it at one input. -/
def fuguePlaysWrong : ChangeSpec := { name := "fuguePlays", fn := fun _ => fun
  | [d] => { results := [.lit (.bool false)], args := [d] }
  | _ => none }
def FuguePlaysWrongFalsely : Prop := fuguePlaysRow.holds Try.pinned (OpenSpec.ofChange fuguePlaysWrong)

/-- 'stemmalaw12.FugueLands': WHATEVER THE INPUT: true; the input reads as it did. -/
def fugueLandsSpec : ChangeSpec := { name := "fugueLands", fn := fun _ => fun
  | [d1, d2, d3] => { results := [.lit (.bool true)], args := [d1, d2, d3] }
  | _ => none }
def fugueLandsRow : OpenClaim := { program := "ytohpablkgfkelaa", sum := "53e508ca719b6ffa50a1a0891d59f2125c8e93ba43b05a9a1f73125357eda2b1", func := "stemma/stemmalaw12.FugueLands", spec := "fugueLands", inPlace := ["slices.overlaps[stemma/api.Stamp]", "slices.overlaps[*stemma/rope.run[stemma/api.Stamp]]"], unfollowed := true, recurses := true, plainKeys := false, apart := false }
def FugueLandsSaid : Prop := fugueLandsRow.holds Try.pinned (OpenSpec.ofChange fugueLandsSpec)

/-- ITS FALSE NEIGHBOUR: 'it returns false'. Refute it at one input. -/
def fugueLandsWrong : ChangeSpec := { name := "fugueLands", fn := fun _ => fun
  | [d1, d2, d3] => { results := [.lit (.bool false)], args := [d1, d2, d3] }
  | _ => none }
def FugueLandsWrongFalsely : Prop := fugueLandsRow.holds Try.pinned (OpenSpec.ofChange fugueLandsWrong)

/-- 'stemmalaw12.FugueNil': WHATEVER THE INPUT: true; the input reads as it did. -/
def fugueNilSpec : ChangeSpec := { name := "fugueNil", fn := fun _ => fun
  | [d] => { results := [.lit (.bool true)], args := [d] }
  | _ => none }
def fugueNilRow : OpenClaim := { program := "ytohpablkgfkelaa", sum := "53e508ca719b6ffa50a1a0891d59f2125c8e93ba43b05a9a1f73125357eda2b1", func := "stemma/stemmalaw12.FugueNil", spec := "fugueNil", inPlace := ["slices.overlaps[stemma/api.Stamp]", "slices.overlaps[*stemma/rope.run[stemma/api.Stamp]]"], unfollowed := true, recurses := true, plainKeys := false, apart := false }
def FugueNilSaid : Prop := fugueNilRow.holds Try.pinned (OpenSpec.ofChange fugueNilSpec)

/-- ITS FALSE NEIGHBOUR: 'it returns false'. Refute it at one input. -/
def fugueNilWrong : ChangeSpec := { name := "fugueNil", fn := fun _ => fun
  | [d] => { results := [.lit (.bool false)], args := [d] }
  | _ => none }
def FugueNilWrongFalsely : Prop := fugueNilRow.holds Try.pinned (OpenSpec.ofChange fugueNilWrong)

/- THE SECOND FORM. 'bulk': how many values and letters a reading holds, each counted each time it is reached (what is shared counts as often as it is met; a slice's spare places count too). A statement '..UptoSaid' is the law's where the arguments, and the package variables that the reading takes, are together of bulk at most 1048576: NARROWER than '..Said'. Prove '..Said' where nothing that the law and all that it calls make is longer than what came in: it says more and counts as full. Else prove '..UptoSaid'. A law counts once. -/
mutual
def uptoBulk {H : Type} : DataW H → Nat
  | .lit (.string bytes) => bytes.length + 1
  | .lit _ => 1
  | .nil => 1
  | .ptr d => uptoBulk d + 1
  | .slice elems spare => uptoBulkAll elems + uptoBulkAll spare + 1
  | .agg parts => uptoBulkAll parts + 1
  | .iface _ d => uptoBulk d + 1
  | .map entries => uptoBulkEntries entries + 1
  | .held _ => 1
def uptoBulkAll {H : Type} : List (DataW H) → Nat
  | [] => 0
  | d :: r => uptoBulk d + uptoBulkAll r
def uptoBulkEntries {H : Type} : List (Lit × DataW H) → Nat
  | [] => 0
  | x :: r => uptoBulkEntry x + uptoBulkEntries r
def uptoBulkEntry {H : Type} : Lit × DataW H → Nat
  | (.string bytes, d) => bytes.length + uptoBulk d + 1
  | (_, d) => uptoBulk d + 1
 end
def uptoSmall : (H : Type) → List (DataW H) → Bool := fun _ ds => decide (uptoBulkAll ds ≤ 1048576)
def OpenSpec.upto (s : _root_.Go.ChangeSpec) : _root_.Go.OpenSpec := { _root_.Go.OpenSpec.ofChange s with cond := some uptoSmall }

/-- 'stemmalaw12.FugueOrder', WHERE WHAT IT READS IS OF BULK AT MOST 1048576: true; the input reads as it did. -/
def fugueOrderUptoRow : OpenClaim := { program := "ytohpablkgfkelaa", sum := "53e508ca719b6ffa50a1a0891d59f2125c8e93ba43b05a9a1f73125357eda2b1", func := "stemma/stemmalaw12.FugueOrder", spec := "fugueOrder", inPlace := ["slices.overlaps[stemma/api.Stamp]", "slices.overlaps[*stemma/rope.run[stemma/api.Stamp]]"], unfollowed := true, recurses := true, plainKeys := false, apart := false, narrowed := true }
def FugueOrderUptoSaid : Prop := fugueOrderUptoRow.holds Try.pinned (OpenSpec.upto fugueOrderSpec)

/-- 'stemmalaw12.FugueStays', WHERE WHAT IT READS IS OF BULK AT MOST 1048576: true; the input reads as it did. -/
def fugueStaysUptoRow : OpenClaim := { program := "ytohpablkgfkelaa", sum := "53e508ca719b6ffa50a1a0891d59f2125c8e93ba43b05a9a1f73125357eda2b1", func := "stemma/stemmalaw12.FugueStays", spec := "fugueStays", inPlace := ["slices.overlaps[stemma/api.Stamp]", "slices.overlaps[*stemma/rope.run[stemma/api.Stamp]]"], unfollowed := true, recurses := true, plainKeys := false, apart := false, narrowed := true }
def FugueStaysUptoSaid : Prop := fugueStaysUptoRow.holds Try.pinned (OpenSpec.upto fugueStaysSpec)

/-- 'stemmalaw12.FugueSubtree', WHERE WHAT IT READS IS OF BULK AT MOST 1048576: true; the input reads as it did. -/
def fugueSubtreeUptoRow : OpenClaim := { program := "ytohpablkgfkelaa", sum := "53e508ca719b6ffa50a1a0891d59f2125c8e93ba43b05a9a1f73125357eda2b1", func := "stemma/stemmalaw12.FugueSubtree", spec := "fugueSubtree", inPlace := ["slices.overlaps[stemma/api.Stamp]", "slices.overlaps[*stemma/rope.run[stemma/api.Stamp]]"], unfollowed := true, recurses := true, plainKeys := false, apart := false, narrowed := true }
def FugueSubtreeUptoSaid : Prop := fugueSubtreeUptoRow.holds Try.pinned (OpenSpec.upto fugueSubtreeSpec)

/-- 'stemmalaw12.FugueRuns', WHERE WHAT IT READS IS OF BULK AT MOST 1048576: true; the input reads as it did. -/
def fugueRunsUptoRow : OpenClaim := { program := "ytohpablkgfkelaa", sum := "53e508ca719b6ffa50a1a0891d59f2125c8e93ba43b05a9a1f73125357eda2b1", func := "stemma/stemmalaw12.FugueRuns", spec := "fugueRuns", inPlace := ["slices.overlaps[stemma/api.Stamp]", "slices.overlaps[*stemma/rope.run[stemma/api.Stamp]]"], unfollowed := true, recurses := true, plainKeys := false, apart := false, narrowed := true }
def FugueRunsUptoSaid : Prop := fugueRunsUptoRow.holds Try.pinned (OpenSpec.upto fugueRunsSpec)

/-- 'stemmalaw12.FuguePlays', WHERE WHAT IT READS IS OF BULK AT MOST 1048576: true; the input reads as it did. -/
def fuguePlaysUptoRow : OpenClaim := { program := "ytohpablkgfkelaa", sum := "53e508ca719b6ffa50a1a0891d59f2125c8e93ba43b05a9a1f73125357eda2b1", func := "stemma/stemmalaw12.FuguePlays", spec := "fuguePlays", inPlace := ["slices.overlaps[stemma/api.Stamp]", "slices.overlaps[*stemma/rope.run[stemma/api.Stamp]]"], unfollowed := true, recurses := true, plainKeys := false, apart := false, narrowed := true }
def FuguePlaysUptoSaid : Prop := fuguePlaysUptoRow.holds Try.pinned (OpenSpec.upto fuguePlaysSpec)

/-- 'stemmalaw12.FugueLands', WHERE WHAT IT READS IS OF BULK AT MOST 1048576: true; the input reads as it did. -/
def fugueLandsUptoRow : OpenClaim := { program := "ytohpablkgfkelaa", sum := "53e508ca719b6ffa50a1a0891d59f2125c8e93ba43b05a9a1f73125357eda2b1", func := "stemma/stemmalaw12.FugueLands", spec := "fugueLands", inPlace := ["slices.overlaps[stemma/api.Stamp]", "slices.overlaps[*stemma/rope.run[stemma/api.Stamp]]"], unfollowed := true, recurses := true, plainKeys := false, apart := false, narrowed := true }
def FugueLandsUptoSaid : Prop := fugueLandsUptoRow.holds Try.pinned (OpenSpec.upto fugueLandsSpec)

/-- 'stemmalaw12.FugueNil', WHERE WHAT IT READS IS OF BULK AT MOST 1048576: true; the input reads as it did. -/
def fugueNilUptoRow : OpenClaim := { program := "ytohpablkgfkelaa", sum := "53e508ca719b6ffa50a1a0891d59f2125c8e93ba43b05a9a1f73125357eda2b1", func := "stemma/stemmalaw12.FugueNil", spec := "fugueNil", inPlace := ["slices.overlaps[stemma/api.Stamp]", "slices.overlaps[*stemma/rope.run[stemma/api.Stamp]]"], unfollowed := true, recurses := true, plainKeys := false, apart := false, narrowed := true }
def FugueNilUptoSaid : Prop := fugueNilUptoRow.holds Try.pinned (OpenSpec.upto fugueNilSpec)

end Rows
end Go.Proofs.Ytohpablkgfkelaa
