/-
  No cell of these rows narrows 'for every input' (looked for: loops, veiled, ifaces, maps, wideKeys, modest, calm, conditions, laid).
  DERIVED. THE GIVEN ROWS OF THIS SEAT. 5 by the template 'for every input the law returns true; each argument reads behind the call as it read before'; 0 by the template 'total and deterministic' (their statements: YtfmmgijffneodaaTotals.lean).
  GIVEN WITH THE SEED: the statements are not yours to turn. If you find one false, say at which input.
  Laid BY PROGRAM, IN A SANDBOX (cutbox-rows.mjs): the forced cells as the released guide's own fill.sh prints them over the translation 289427e07b8b41d2… (all of the seat's roots in one cut). By AI agents, Wed Nov 11 2026. No macro, syntax, notation, axiom, sorry.
-/
import Derived.Test.YtfmmgijffneodaaChecked
import GoSem.Claim
import GoSem.ClaimJoined
import GoSem.ClaimMapViews
import Derived.JoinedTies
import Derived.KernelRfl
namespace Go.Proofs.Ytfmmgijffneodaa
/- THE CELL 'sum', in the pinned program and in every row, IS THE sha256 OF THE DUMP (.gsa) THAT YtfmmgijffneodaaProg.lean LOADS. Nothing in Lean hashes anything: it is a label: what it is worth is what the hold of that sum in a sandbox is worth. -/
noncomputable def Try.pinned : Pinned := { name := "ytfmmgijffneodaa", sum := "289427e07b8b41d2a51a303a595b7e0495f198fcab17b00809f1bd750c7db80b", checked := Try.checked }
namespace Rows
def none {H : Type} : Left H := { results := [], args := [] }

/-- 'stemmalaw11.RopeStays': WHATEVER THE INPUT: true; the input reads as it did. -/
def ropeStaysSpec : ChangeSpec := { name := "ropeStays", fn := fun _ => fun
  | [d1, d2] => { results := [.lit (.bool true)], args := [d1, d2] }
  | _ => none }
def ropeStaysRow : OpenClaim := { program := "ytfmmgijffneodaa", sum := "289427e07b8b41d2a51a303a595b7e0495f198fcab17b00809f1bd750c7db80b", func := "stemma/stemmalaw11.RopeStays", spec := "ropeStays", inPlace := ["slices.overlaps[int]", "slices.overlaps[*stemma/rope.run[int]]"], apart := false }
def RopeStaysSaid : Prop := ropeStaysRow.holds Try.pinned (OpenSpec.ofChange ropeStaysSpec)

/-- ITS FALSE NEIGHBOUR: 'it returns false'. Refute it at one input. -/
def ropeStaysWrong : ChangeSpec := { name := "ropeStays", fn := fun _ => fun
  | [d1, d2] => { results := [.lit (.bool false)], args := [d1, d2] }
  | _ => none }
def RopeStaysWrongFalsely : Prop := ropeStaysRow.holds Try.pinned (OpenSpec.ofChange ropeStaysWrong)

/-- 'stemmalaw11.RopeShows': WHATEVER THE INPUT: true; the input reads as it did. -/
def ropeShowsSpec : ChangeSpec := { name := "ropeShows", fn := fun _ => fun
  | [d1, d2] => { results := [.lit (.bool true)], args := [d1, d2] }
  | _ => none }
def ropeShowsRow : OpenClaim := { program := "ytfmmgijffneodaa", sum := "289427e07b8b41d2a51a303a595b7e0495f198fcab17b00809f1bd750c7db80b", func := "stemma/stemmalaw11.RopeShows", spec := "ropeShows", inPlace := ["slices.overlaps[int]", "slices.overlaps[*stemma/rope.run[int]]"], apart := false }
def RopeShowsSaid : Prop := ropeShowsRow.holds Try.pinned (OpenSpec.ofChange ropeShowsSpec)

/-- ITS FALSE NEIGHBOUR: 'it returns false'. Refute it at one input. -/
def ropeShowsWrong : ChangeSpec := { name := "ropeShows", fn := fun _ => fun
  | [d1, d2] => { results := [.lit (.bool false)], args := [d1, d2] }
  | _ => none }
def RopeShowsWrongFalsely : Prop := ropeShowsRow.holds Try.pinned (OpenSpec.ofChange ropeShowsWrong)

/-- 'stemmalaw11.RopePlays': WHATEVER THE INPUT: true; the input reads as it did. -/
def ropePlaysSpec : ChangeSpec := { name := "ropePlays", fn := fun _ => fun
  | [d] => { results := [.lit (.bool true)], args := [d] }
  | _ => none }
def ropePlaysRow : OpenClaim := { program := "ytfmmgijffneodaa", sum := "289427e07b8b41d2a51a303a595b7e0495f198fcab17b00809f1bd750c7db80b", func := "stemma/stemmalaw11.RopePlays", spec := "ropePlays", inPlace := ["slices.overlaps[int]", "slices.overlaps[*stemma/rope.run[int]]"], apart := false }
def RopePlaysSaid : Prop := ropePlaysRow.holds Try.pinned (OpenSpec.ofChange ropePlaysSpec)

/-- ITS FALSE NEIGHBOUR: 'it returns false'. Refute it at one input. -/
def ropePlaysWrong : ChangeSpec := { name := "ropePlays", fn := fun _ => fun
  | [d] => { results := [.lit (.bool false)], args := [d] }
  | _ => none }
def RopePlaysWrongFalsely : Prop := ropePlaysRow.holds Try.pinned (OpenSpec.ofChange ropePlaysWrong)

/-- 'stemmalaw11.RopeBack': WHATEVER THE INPUT: true; the input reads as it did. -/
def ropeBackSpec : ChangeSpec := { name := "ropeBack", fn := fun _ => fun
  | [d] => { results := [.lit (.bool true)], args := [d] }
  | _ => none }
def ropeBackRow : OpenClaim := { program := "ytfmmgijffneodaa", sum := "289427e07b8b41d2a51a303a595b7e0495f198fcab17b00809f1bd750c7db80b", func := "stemma/stemmalaw11.RopeBack", spec := "ropeBack", inPlace := ["slices.overlaps[int]", "slices.overlaps[*stemma/rope.run[int]]"], apart := false }
def RopeBackSaid : Prop := ropeBackRow.holds Try.pinned (OpenSpec.ofChange ropeBackSpec)

/-- ITS FALSE NEIGHBOUR: 'it returns false'. Refute it at one input. -/
def ropeBackWrong : ChangeSpec := { name := "ropeBack", fn := fun _ => fun
  | [d] => { results := [.lit (.bool false)], args := [d] }
  | _ => none }
def RopeBackWrongFalsely : Prop := ropeBackRow.holds Try.pinned (OpenSpec.ofChange ropeBackWrong)

/-- 'stemmalaw11.RopeNil': WHATEVER THE INPUT: true; the input reads as it did. -/
def ropeNilSpec : ChangeSpec := { name := "ropeNil", fn := fun _ => fun
  | [d1, d2] => { results := [.lit (.bool true)], args := [d1, d2] }
  | _ => none }
def ropeNilRow : OpenClaim := { program := "ytfmmgijffneodaa", sum := "289427e07b8b41d2a51a303a595b7e0495f198fcab17b00809f1bd750c7db80b", func := "stemma/stemmalaw11.RopeNil", spec := "ropeNil", inPlace := ["slices.overlaps[int]", "slices.overlaps[*stemma/rope.run[int]]"], apart := false }
def RopeNilSaid : Prop := ropeNilRow.holds Try.pinned (OpenSpec.ofChange ropeNilSpec)

/-- ITS FALSE NEIGHBOUR: 'it returns false'. Refute it at one input. -/
def ropeNilWrong : ChangeSpec := { name := "ropeNil", fn := fun _ => fun
  | [d1, d2] => { results := [.lit (.bool false)], args := [d1, d2] }
  | _ => none }
def RopeNilWrongFalsely : Prop := ropeNilRow.holds Try.pinned (OpenSpec.ofChange ropeNilWrong)

/- THE SECOND FORM. 'bulk': how many values and letters a reading holds, each counted each time it is reached (what is shared counts as often as it is met; a slice's spare places count too). A statement '..UptoSaid' is the law's where the arguments, and the package variables that the reading takes, are together of bulk at most 1048576: NARROWER than '..Said'. Prove '..Said' where nothing that the law and all that it calls make is longer than what came in: it says more and counts as full. Else prove '..UptoSaid'. A law counts once. -/
mutual
def uptoBulk {H : Type} : DataW H → Nat
  | .lit (.string bytes) => bytes.length + 1
  | .lit _ => 1
  | .nil => 1
  | .ptr d => uptoBulk d + 1
  | .slice elems spare => uptoBulkAll elems + uptoBulkAll spare + 1
  | .agg parts => uptoBulkAll parts + 1
  | .iface _ d => uptoBulk d + 1
  | .map entries => uptoBulkEntries entries + 1
  | .held _ => 1
def uptoBulkAll {H : Type} : List (DataW H) → Nat
  | [] => 0
  | d :: r => uptoBulk d + uptoBulkAll r
def uptoBulkEntries {H : Type} : List (Lit × DataW H) → Nat
  | [] => 0
  | x :: r => uptoBulkEntry x + uptoBulkEntries r
def uptoBulkEntry {H : Type} : Lit × DataW H → Nat
  | (.string bytes, d) => bytes.length + uptoBulk d + 1
  | (_, d) => uptoBulk d + 1
 end
def uptoSmall : (H : Type) → List (DataW H) → Bool := fun _ ds => decide (uptoBulkAll ds ≤ 1048576)
def OpenSpec.upto (s : _root_.Go.ChangeSpec) : _root_.Go.OpenSpec := { _root_.Go.OpenSpec.ofChange s with cond := some uptoSmall }

/-- 'stemmalaw11.RopeStays', WHERE WHAT IT READS IS OF BULK AT MOST 1048576: true; the input reads as it did. -/
def ropeStaysUptoRow : OpenClaim := { program := "ytfmmgijffneodaa", sum := "289427e07b8b41d2a51a303a595b7e0495f198fcab17b00809f1bd750c7db80b", func := "stemma/stemmalaw11.RopeStays", spec := "ropeStays", inPlace := ["slices.overlaps[int]", "slices.overlaps[*stemma/rope.run[int]]"], apart := false, narrowed := true }
def RopeStaysUptoSaid : Prop := ropeStaysUptoRow.holds Try.pinned (OpenSpec.upto ropeStaysSpec)

/-- 'stemmalaw11.RopeShows', WHERE WHAT IT READS IS OF BULK AT MOST 1048576: true; the input reads as it did. -/
def ropeShowsUptoRow : OpenClaim := { program := "ytfmmgijffneodaa", sum := "289427e07b8b41d2a51a303a595b7e0495f198fcab17b00809f1bd750c7db80b", func := "stemma/stemmalaw11.RopeShows", spec := "ropeShows", inPlace := ["slices.overlaps[int]", "slices.overlaps[*stemma/rope.run[int]]"], apart := false, narrowed := true }
def RopeShowsUptoSaid : Prop := ropeShowsUptoRow.holds Try.pinned (OpenSpec.upto ropeShowsSpec)

/-- 'stemmalaw11.RopePlays', WHERE WHAT IT READS IS OF BULK AT MOST 1048576: true; the input reads as it did. -/
def ropePlaysUptoRow : OpenClaim := { program := "ytfmmgijffneodaa", sum := "289427e07b8b41d2a51a303a595b7e0495f198fcab17b00809f1bd750c7db80b", func := "stemma/stemmalaw11.RopePlays", spec := "ropePlays", inPlace := ["slices.overlaps[int]", "slices.overlaps[*stemma/rope.run[int]]"], apart := false, narrowed := true }
def RopePlaysUptoSaid : Prop := ropePlaysUptoRow.holds Try.pinned (OpenSpec.upto ropePlaysSpec)

/-- 'stemmalaw11.RopeBack', WHERE WHAT IT READS IS OF BULK AT MOST 1048576: true; the input reads as it did. -/
def ropeBackUptoRow : OpenClaim := { program := "ytfmmgijffneodaa", sum := "289427e07b8b41d2a51a303a595b7e0495f198fcab17b00809f1bd750c7db80b", func := "stemma/stemmalaw11.RopeBack", spec := "ropeBack", inPlace := ["slices.overlaps[int]", "slices.overlaps[*stemma/rope.run[int]]"], apart := false, narrowed := true }
def RopeBackUptoSaid : Prop := ropeBackUptoRow.holds Try.pinned (OpenSpec.upto ropeBackSpec)

/-- 'stemmalaw11.RopeNil', WHERE WHAT IT READS IS OF BULK AT MOST 1048576: true; the input reads as it did. -/
def ropeNilUptoRow : OpenClaim := { program := "ytfmmgijffneodaa", sum := "289427e07b8b41d2a51a303a595b7e0495f198fcab17b00809f1bd750c7db80b", func := "stemma/stemmalaw11.RopeNil", spec := "ropeNil", inPlace := ["slices.overlaps[int]", "slices.overlaps[*stemma/rope.run[int]]"], apart := false, narrowed := true }
def RopeNilUptoSaid : Prop := ropeNilUptoRow.holds Try.pinned (OpenSpec.upto ropeNilSpec)

end Rows
end Go.Proofs.Ytfmmgijffneodaa
