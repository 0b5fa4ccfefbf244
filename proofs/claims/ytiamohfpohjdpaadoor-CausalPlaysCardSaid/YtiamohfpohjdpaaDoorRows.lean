/-
  NARROWER THAN 'FOR EVERY INPUT', by the rows' own cells (each row's printed sentence says how): CausalAny: laid · CausalTwice: laid · CausalPlays: laid · CausalMissing: laid · CausalNil: laid.
  DERIVED. THE GIVEN ROWS OF THIS SEAT. 5 by the template 'for every input the law returns true; each argument reads behind the call as it read before'; 0 by the template 'total and deterministic' (their statements: YtiamohfpohjdpaaDoorTotals.lean).
  GIVEN WITH THE SEED: the statements are not yours to turn. If you find one false, say at which input.
  Laid BY PROGRAM, IN A SANDBOX (cutbox-rows.mjs): the forced cells as the released guide's own fill.sh prints them over the translation 83dbab84ac56499d… (all of the seat's roots in one cut). By AI agents, Wed Nov 11 2026. No macro, syntax, notation, axiom, sorry.
-/
import Derived.Test.YtiamohfpohjdpaaDoorChecked
import GoSem.PinnedTables
import GoSem.Claim
import GoSem.ClaimJoined
import GoSem.ClaimMapViews
import Derived.JoinedTies
import Derived.KernelRfl
namespace Go.Proofs.YtiamohfpohjdpaaDoor
/- THE CELL 'sum', in the pinned program and in every row, IS THE sha256 OF THE DUMP (.gsa) THAT YtiamohfpohjdpaaDoorProg.lean LOADS. Nothing in Lean hashes anything: it is a label: what it is worth is what the hold of that sum in a sandbox is worth. -/
noncomputable def Tryd.pinned : Pinned := { name := "ytiamohfpohjdpaadoor", sum := "83dbab84ac56499dae61f3075500ac27c15feecb81674dfe6a931953b0fc5579", checked := Tryd.checked }
namespace Rows
def none {H : Type} : Left H := { results := [], args := [] }

/- WHAT THE LISTED PACKAGE-LEVEL VARIABLES READ AS WHEN THE CALL BEGINS. Each datum BY PROGRAM (the guide's laid-datum.mjs) off the statement by which the dump's own 'gosem.cut.vars' lays the variable. In a bare row this is a premise. The card (YtiamohfpohjdpaaDoorCards.lean) ties it to the program's text. -/
def laid_unicode_utf8_acceptRanges {H : Type} : DataW H := .agg [.agg [.lit (.int .u8 128), .lit (.int .u8 191)], .agg [.lit (.int .u8 160), .lit (.int .u8 191)], .agg [.lit (.int .u8 128), .lit (.int .u8 159)], .agg [.lit (.int .u8 144), .lit (.int .u8 191)], .agg [.lit (.int .u8 128), .lit (.int .u8 143)], .agg [.lit (.int .u8 0), .lit (.int .u8 0)], .agg [.lit (.int .u8 0), .lit (.int .u8 0)], .agg [.lit (.int .u8 0), .lit (.int .u8 0)], .agg [.lit (.int .u8 0), .lit (.int .u8 0)], .agg [.lit (.int .u8 0), .lit (.int .u8 0)], .agg [.lit (.int .u8 0), .lit (.int .u8 0)], .agg [.lit (.int .u8 0), .lit (.int .u8 0)], .agg [.lit (.int .u8 0), .lit (.int .u8 0)], .agg [.lit (.int .u8 0), .lit (.int .u8 0)], .agg [.lit (.int .u8 0), .lit (.int .u8 0)], .agg [.lit (.int .u8 0), .lit (.int .u8 0)]]
/-- One of Go's own tables, pinned by name: the form's constant. -/
def laid_unicode_utf8_first : DataW Unit := Go.Pinned.utf8First

/-- 'stemmalaw10.CausalAny': WHATEVER THE INPUT: true; the input reads as it did. -/
def causalAnySpec : ChangeSpec := { name := "causalAny", fn := fun _ => fun
  | [d1, d2] => { results := [.lit (.bool true)], args := [d1, d2] }
  | _ => none }
def causalAnyRow : OpenClaim := { program := "ytiamohfpohjdpaadoor", sum := "83dbab84ac56499dae61f3075500ac27c15feecb81674dfe6a931953b0fc5579", func := "stemma/stemmalaw10.CausalAny", spec := "causalAny", inPlace := ["internal/bytealg.IndexByteString", "internal/bytealg.IndexString"], unfollowed := true, recurses := true, named := ["unicode/utf8.first", "unicode/utf8.acceptRanges", "internal/bytealg.MaxLen"], plainKeys := false, apart := false, laid := [("unicode/utf8.acceptRanges", laid_unicode_utf8_acceptRanges), ("unicode/utf8.first", laid_unicode_utf8_first)] }
def CausalAnySaid : Prop := causalAnyRow.holds Tryd.pinned (OpenSpec.ofChange causalAnySpec)

/-- ITS FALSE NEIGHBOUR: 'it returns false'. Refute it at one input. -/
def causalAnyWrong : ChangeSpec := { name := "causalAny", fn := fun _ => fun
  | [d1, d2] => { results := [.lit (.bool false)], args := [d1, d2] }
  | _ => none }
def CausalAnyWrongFalsely : Prop := causalAnyRow.holds Tryd.pinned (OpenSpec.ofChange causalAnyWrong)

/-- 'stemmalaw10.CausalTwice': WHATEVER THE INPUT: true; the input reads as it did. -/
def causalTwiceSpec : ChangeSpec := { name := "causalTwice", fn := fun _ => fun
  | [d] => { results := [.lit (.bool true)], args := [d] }
  | _ => none }
def causalTwiceRow : OpenClaim := { program := "ytiamohfpohjdpaadoor", sum := "83dbab84ac56499dae61f3075500ac27c15feecb81674dfe6a931953b0fc5579", func := "stemma/stemmalaw10.CausalTwice", spec := "causalTwice", inPlace := ["internal/bytealg.IndexByteString", "internal/bytealg.IndexString"], unfollowed := true, recurses := true, named := ["unicode/utf8.first", "unicode/utf8.acceptRanges", "internal/bytealg.MaxLen"], plainKeys := false, apart := false, laid := [("unicode/utf8.acceptRanges", laid_unicode_utf8_acceptRanges), ("unicode/utf8.first", laid_unicode_utf8_first)] }
def CausalTwiceSaid : Prop := causalTwiceRow.holds Tryd.pinned (OpenSpec.ofChange causalTwiceSpec)

/-- ITS FALSE NEIGHBOUR: 'it returns false'. Refute it at one input. -/
def causalTwiceWrong : ChangeSpec := { name := "causalTwice", fn := fun _ => fun
  | [d] => { results := [.lit (.bool false)], args := [d] }
  | _ => none }
def CausalTwiceWrongFalsely : Prop := causalTwiceRow.holds Tryd.pinned (OpenSpec.ofChange causalTwiceWrong)

/-- 'stemmalaw10.CausalPlays': WHATEVER THE INPUT: true; the input reads as it did. -/
def causalPlaysSpec : ChangeSpec := { name := "causalPlays", fn := fun _ => fun
  | [d1, d2, d3] => { results := [.lit (.bool true)], args := [d1, d2, d3] }
  | _ => none }
def causalPlaysRow : OpenClaim := { program := "ytiamohfpohjdpaadoor", sum := "83dbab84ac56499dae61f3075500ac27c15feecb81674dfe6a931953b0fc5579", func := "stemma/stemmalaw10.CausalPlays", spec := "causalPlays", inPlace := ["internal/bytealg.IndexByteString", "internal/bytealg.IndexString"], unfollowed := true, recurses := true, named := ["unicode/utf8.first", "unicode/utf8.acceptRanges", "internal/bytealg.MaxLen"], plainKeys := false, apart := false, laid := [("unicode/utf8.acceptRanges", laid_unicode_utf8_acceptRanges), ("unicode/utf8.first", laid_unicode_utf8_first)] }
def CausalPlaysSaid : Prop := causalPlaysRow.holds Tryd.pinned (OpenSpec.ofChange causalPlaysSpec)

/-- ITS FALSE NEIGHBOUR: 'it returns false'. Refute it at one input. -/
def causalPlaysWrong : ChangeSpec := { name := "causalPlays", fn := fun _ => fun
  | [d1, d2, d3] => { results := [.lit (.bool false)], args := [d1, d2, d3] }
  | _ => none }
def CausalPlaysWrongFalsely : Prop := causalPlaysRow.holds Tryd.pinned (OpenSpec.ofChange causalPlaysWrong)

/-- 'stemmalaw10.CausalMissing': WHATEVER THE INPUT: true; the input reads as it did. -/
def causalMissingSpec : ChangeSpec := { name := "causalMissing", fn := fun _ => fun
  | [d1, d2] => { results := [.lit (.bool true)], args := [d1, d2] }
  | _ => none }
def causalMissingRow : OpenClaim := { program := "ytiamohfpohjdpaadoor", sum := "83dbab84ac56499dae61f3075500ac27c15feecb81674dfe6a931953b0fc5579", func := "stemma/stemmalaw10.CausalMissing", spec := "causalMissing", inPlace := ["internal/bytealg.IndexByteString", "internal/bytealg.IndexString"], unfollowed := true, recurses := true, named := ["unicode/utf8.first", "unicode/utf8.acceptRanges", "internal/bytealg.MaxLen"], plainKeys := false, apart := false, laid := [("unicode/utf8.acceptRanges", laid_unicode_utf8_acceptRanges), ("unicode/utf8.first", laid_unicode_utf8_first)] }
def CausalMissingSaid : Prop := causalMissingRow.holds Tryd.pinned (OpenSpec.ofChange causalMissingSpec)

/-- ITS FALSE NEIGHBOUR: 'it returns false'. Refute it at one input. -/
def causalMissingWrong : ChangeSpec := { name := "causalMissing", fn := fun _ => fun
  | [d1, d2] => { results := [.lit (.bool false)], args := [d1, d2] }
  | _ => none }
def CausalMissingWrongFalsely : Prop := causalMissingRow.holds Tryd.pinned (OpenSpec.ofChange causalMissingWrong)

/-- 'stemmalaw10.CausalNil': WHATEVER THE INPUT: true; the input reads as it did. -/
def causalNilSpec : ChangeSpec := { name := "causalNil", fn := fun _ => fun
  | [d1, d2, d3] => { results := [.lit (.bool true)], args := [d1, d2, d3] }
  | _ => none }
def causalNilRow : OpenClaim := { program := "ytiamohfpohjdpaadoor", sum := "83dbab84ac56499dae61f3075500ac27c15feecb81674dfe6a931953b0fc5579", func := "stemma/stemmalaw10.CausalNil", spec := "causalNil", inPlace := ["internal/bytealg.IndexByteString", "internal/bytealg.IndexString"], unfollowed := true, recurses := true, named := ["unicode/utf8.first", "unicode/utf8.acceptRanges", "internal/bytealg.MaxLen"], plainKeys := false, apart := false, laid := [("unicode/utf8.acceptRanges", laid_unicode_utf8_acceptRanges), ("unicode/utf8.first", laid_unicode_utf8_first)] }
def CausalNilSaid : Prop := causalNilRow.holds Tryd.pinned (OpenSpec.ofChange causalNilSpec)

/-- ITS FALSE NEIGHBOUR: 'it returns false'. Refute it at one input. -/
def causalNilWrong : ChangeSpec := { name := "causalNil", fn := fun _ => fun
  | [d1, d2, d3] => { results := [.lit (.bool false)], args := [d1, d2, d3] }
  | _ => none }
def CausalNilWrongFalsely : Prop := causalNilRow.holds Tryd.pinned (OpenSpec.ofChange causalNilWrong)

/- THE SECOND FORM. 'bulk': how many values and letters a reading holds, each counted each time it is reached (what is shared counts as often as it is met; a slice's spare places count too). A statement '..UptoSaid' is the law's where the arguments, and the package variables that the reading takes, are together of bulk at most 1048576: NARROWER than '..Said'. Prove '..Said' where nothing that the law and all that it calls make is longer than what came in: it says more and counts as full. Else prove '..UptoSaid'. A law counts once. -/
mutual
def uptoBulk {H : Type} : DataW H → Nat
  | .lit (.string bytes) => bytes.length + 1
  | .lit _ => 1
  | .nil => 1
  | .ptr d => uptoBulk d + 1
  | .slice elems spare => uptoBulkAll elems + uptoBulkAll spare + 1
  | .agg parts => uptoBulkAll parts + 1
  | .iface _ d => uptoBulk d + 1
  | .map entries => uptoBulkEntries entries + 1
  | .held _ => 1
def uptoBulkAll {H : Type} : List (DataW H) → Nat
  | [] => 0
  | d :: r => uptoBulk d + uptoBulkAll r
def uptoBulkEntries {H : Type} : List (Lit × DataW H) → Nat
  | [] => 0
  | x :: r => uptoBulkEntry x + uptoBulkEntries r
def uptoBulkEntry {H : Type} : Lit × DataW H → Nat
  | (.string bytes, d) => bytes.length + uptoBulk d + 1
  | (_, d) => uptoBulk d + 1
 end
def uptoSmall : (H : Type) → List (DataW H) → Bool := fun _ ds => decide (uptoBulkAll ds ≤ 1048576)
def OpenSpec.upto (s : _root_.Go.ChangeSpec) : _root_.Go.OpenSpec := { _root_.Go.OpenSpec.ofChange s with cond := some uptoSmall }

/-- 'stemmalaw10.CausalAny', WHERE WHAT IT READS IS OF BULK AT MOST 1048576: true; the input reads as it did. -/
def causalAnyUptoRow : OpenClaim := { program := "ytiamohfpohjdpaadoor", sum := "83dbab84ac56499dae61f3075500ac27c15feecb81674dfe6a931953b0fc5579", func := "stemma/stemmalaw10.CausalAny", spec := "causalAny", inPlace := ["internal/bytealg.IndexByteString", "internal/bytealg.IndexString"], unfollowed := true, recurses := true, named := ["unicode/utf8.first", "unicode/utf8.acceptRanges", "internal/bytealg.MaxLen"], plainKeys := false, apart := false, laid := [("unicode/utf8.acceptRanges", laid_unicode_utf8_acceptRanges), ("unicode/utf8.first", laid_unicode_utf8_first)], narrowed := true }
def CausalAnyUptoSaid : Prop := causalAnyUptoRow.holds Tryd.pinned (OpenSpec.upto causalAnySpec)

/-- 'stemmalaw10.CausalTwice', WHERE WHAT IT READS IS OF BULK AT MOST 1048576: true; the input reads as it did. -/
def causalTwiceUptoRow : OpenClaim := { program := "ytiamohfpohjdpaadoor", sum := "83dbab84ac56499dae61f3075500ac27c15feecb81674dfe6a931953b0fc5579", func := "stemma/stemmalaw10.CausalTwice", spec := "causalTwice", inPlace := ["internal/bytealg.IndexByteString", "internal/bytealg.IndexString"], unfollowed := true, recurses := true, named := ["unicode/utf8.first", "unicode/utf8.acceptRanges", "internal/bytealg.MaxLen"], plainKeys := false, apart := false, laid := [("unicode/utf8.acceptRanges", laid_unicode_utf8_acceptRanges), ("unicode/utf8.first", laid_unicode_utf8_first)], narrowed := true }
def CausalTwiceUptoSaid : Prop := causalTwiceUptoRow.holds Tryd.pinned (OpenSpec.upto causalTwiceSpec)

/-- 'stemmalaw10.CausalPlays', WHERE WHAT IT READS IS OF BULK AT MOST 1048576: true; the input reads as it did. -/
def causalPlaysUptoRow : OpenClaim := { program := "ytiamohfpohjdpaadoor", sum := "83dbab84ac56499dae61f3075500ac27c15feecb81674dfe6a931953b0fc5579", func := "stemma/stemmalaw10.CausalPlays", spec := "causalPlays", inPlace := ["internal/bytealg.IndexByteString", "internal/bytealg.IndexString"], unfollowed := true, recurses := true, named := ["unicode/utf8.first", "unicode/utf8.acceptRanges", "internal/bytealg.MaxLen"], plainKeys := false, apart := false, laid := [("unicode/utf8.acceptRanges", laid_unicode_utf8_acceptRanges), ("unicode/utf8.first", laid_unicode_utf8_first)], narrowed := true }
def CausalPlaysUptoSaid : Prop := causalPlaysUptoRow.holds Tryd.pinned (OpenSpec.upto causalPlaysSpec)

/-- 'stemmalaw10.CausalMissing', WHERE WHAT IT READS IS OF BULK AT MOST 1048576: true; the input reads as it did. -/
def causalMissingUptoRow : OpenClaim := { program := "ytiamohfpohjdpaadoor", sum := "83dbab84ac56499dae61f3075500ac27c15feecb81674dfe6a931953b0fc5579", func := "stemma/stemmalaw10.CausalMissing", spec := "causalMissing", inPlace := ["internal/bytealg.IndexByteString", "internal/bytealg.IndexString"], unfollowed := true, recurses := true, named := ["unicode/utf8.first", "unicode/utf8.acceptRanges", "internal/bytealg.MaxLen"], plainKeys := false, apart := false, laid := [("unicode/utf8.acceptRanges", laid_unicode_utf8_acceptRanges), ("unicode/utf8.first", laid_unicode_utf8_first)], narrowed := true }
def CausalMissingUptoSaid : Prop := causalMissingUptoRow.holds Tryd.pinned (OpenSpec.upto causalMissingSpec)

/-- 'stemmalaw10.CausalNil', WHERE WHAT IT READS IS OF BULK AT MOST 1048576: true; the input reads as it did. -/
def causalNilUptoRow : OpenClaim := { program := "ytiamohfpohjdpaadoor", sum := "83dbab84ac56499dae61f3075500ac27c15feecb81674dfe6a931953b0fc5579", func := "stemma/stemmalaw10.CausalNil", spec := "causalNil", inPlace := ["internal/bytealg.IndexByteString", "internal/bytealg.IndexString"], unfollowed := true, recurses := true, named := ["unicode/utf8.first", "unicode/utf8.acceptRanges", "internal/bytealg.MaxLen"], plainKeys := false, apart := false, laid := [("unicode/utf8.acceptRanges", laid_unicode_utf8_acceptRanges), ("unicode/utf8.first", laid_unicode_utf8_first)], narrowed := true }
def CausalNilUptoSaid : Prop := causalNilUptoRow.holds Tryd.pinned (OpenSpec.upto causalNilSpec)

end Rows
end Go.Proofs.YtiamohfpohjdpaaDoor
