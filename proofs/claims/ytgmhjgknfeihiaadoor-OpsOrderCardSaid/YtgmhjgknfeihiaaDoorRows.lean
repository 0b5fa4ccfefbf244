/-
  NARROWER THAN 'FOR EVERY INPUT', by the rows' own cells (each row's printed sentence says how): OpsRight: laid · OpsEmpty: laid · OpsMore: laid · OpsEarlier: laid · OpsOrder: laid.
  DERIVED. THE GIVEN ROWS OF THIS SEAT. 5 by the template 'for every input the law returns true; each argument reads behind the call as it read before'; 0 by the template 'total and deterministic' (their statements: YtgmhjgknfeihiaaDoorTotals.lean).
  GIVEN WITH THE SEED: the statements are not yours to turn. If you find one false, say at which input.
  Laid BY PROGRAM, IN A SANDBOX (cutbox-rows.mjs): the forced cells as the released guide's own fill.sh prints them over the translation f04e0e0adf87f1a0… (all of the seat's roots in one cut). By AI agents, Wed Nov 11 2026. No macro, syntax, notation, axiom, sorry.
-/
import Derived.Test.YtgmhjgknfeihiaaDoorChecked
import GoSem.PinnedTables
import GoSem.Claim
import GoSem.ClaimJoined
import GoSem.ClaimMapViews
import Derived.JoinedTies
import Derived.KernelRfl
namespace Go.Proofs.YtgmhjgknfeihiaaDoor
/- THE CELL 'sum', in the pinned program and in every row, IS THE sha256 OF THE DUMP (.gsa) THAT YtgmhjgknfeihiaaDoorProg.lean LOADS. Nothing in Lean hashes anything: it is a label: what it is worth is what the hold of that sum in a sandbox is worth. -/
noncomputable def Tryd.pinned : Pinned := { name := "ytgmhjgknfeihiaadoor", sum := "f04e0e0adf87f1a0760ea64ab68d27a27f23da08929e52cb80173d22d47db7f9", checked := Tryd.checked }
namespace Rows
def none {H : Type} : Left H := { results := [], args := [] }

/- WHAT THE LISTED PACKAGE-LEVEL VARIABLES READ AS WHEN THE CALL BEGINS. Each datum BY PROGRAM (the guide's laid-datum.mjs) off the statement by which the dump's own 'gosem.cut.vars' lays the variable. In a bare row this is a premise. The card (YtgmhjgknfeihiaaDoorCards.lean) ties it to the program's text. -/
def laid_unicode_utf8_acceptRanges {H : Type} : DataW H := .agg [.agg [.lit (.int .u8 128), .lit (.int .u8 191)], .agg [.lit (.int .u8 160), .lit (.int .u8 191)], .agg [.lit (.int .u8 128), .lit (.int .u8 159)], .agg [.lit (.int .u8 144), .lit (.int .u8 191)], .agg [.lit (.int .u8 128), .lit (.int .u8 143)], .agg [.lit (.int .u8 0), .lit (.int .u8 0)], .agg [.lit (.int .u8 0), .lit (.int .u8 0)], .agg [.lit (.int .u8 0), .lit (.int .u8 0)], .agg [.lit (.int .u8 0), .lit (.int .u8 0)], .agg [.lit (.int .u8 0), .lit (.int .u8 0)], .agg [.lit (.int .u8 0), .lit (.int .u8 0)], .agg [.lit (.int .u8 0), .lit (.int .u8 0)], .agg [.lit (.int .u8 0), .lit (.int .u8 0)], .agg [.lit (.int .u8 0), .lit (.int .u8 0)], .agg [.lit (.int .u8 0), .lit (.int .u8 0)], .agg [.lit (.int .u8 0), .lit (.int .u8 0)]]
/-- One of Go's own tables, pinned by name: the form's constant. -/
def laid_unicode_utf8_first : DataW Unit := Go.Pinned.utf8First

/-- 'stemmalaw07.OpsRight': WHATEVER THE INPUT: true; the input reads as it did. -/
def opsRightSpec : ChangeSpec := { name := "opsRight", fn := fun _ => fun
  | [d] => { results := [.lit (.bool true)], args := [d] }
  | _ => none }
def opsRightRow : OpenClaim := { program := "ytgmhjgknfeihiaadoor", sum := "f04e0e0adf87f1a0760ea64ab68d27a27f23da08929e52cb80173d22d47db7f9", func := "stemma/stemmalaw07.OpsRight", spec := "opsRight", inPlace := ["internal/bytealg.IndexByteString", "internal/bytealg.IndexString"], named := ["unicode/utf8.first", "unicode/utf8.acceptRanges", "internal/bytealg.MaxLen"], plainKeys := false, apart := false, laid := [("unicode/utf8.acceptRanges", laid_unicode_utf8_acceptRanges), ("unicode/utf8.first", laid_unicode_utf8_first)] }
def OpsRightSaid : Prop := opsRightRow.holds Tryd.pinned (OpenSpec.ofChange opsRightSpec)

/-- ITS FALSE NEIGHBOUR: 'it returns false'. Refute it at one input. -/
def opsRightWrong : ChangeSpec := { name := "opsRight", fn := fun _ => fun
  | [d] => { results := [.lit (.bool false)], args := [d] }
  | _ => none }
def OpsRightWrongFalsely : Prop := opsRightRow.holds Tryd.pinned (OpenSpec.ofChange opsRightWrong)

/-- 'stemmalaw07.OpsEmpty': WHATEVER THE INPUT: true; the input reads as it did. -/
def opsEmptySpec : ChangeSpec := { name := "opsEmpty", fn := fun _ => fun
  | [d1, d2] => { results := [.lit (.bool true)], args := [d1, d2] }
  | _ => none }
def opsEmptyRow : OpenClaim := { program := "ytgmhjgknfeihiaadoor", sum := "f04e0e0adf87f1a0760ea64ab68d27a27f23da08929e52cb80173d22d47db7f9", func := "stemma/stemmalaw07.OpsEmpty", spec := "opsEmpty", inPlace := ["internal/bytealg.IndexByteString", "internal/bytealg.IndexString"], named := ["unicode/utf8.first", "unicode/utf8.acceptRanges", "internal/bytealg.MaxLen"], plainKeys := false, apart := false, laid := [("unicode/utf8.acceptRanges", laid_unicode_utf8_acceptRanges), ("unicode/utf8.first", laid_unicode_utf8_first)] }
def OpsEmptySaid : Prop := opsEmptyRow.holds Tryd.pinned (OpenSpec.ofChange opsEmptySpec)

/-- ITS FALSE NEIGHBOUR: 'it returns false'. Refute it at one input. -/
def opsEmptyWrong : ChangeSpec := { name := "opsEmpty", fn := fun _ => fun
  | [d1, d2] => { results := [.lit (.bool false)], args := [d1, d2] }
  | _ => none }
def OpsEmptyWrongFalsely : Prop := opsEmptyRow.holds Tryd.pinned (OpenSpec.ofChange opsEmptyWrong)

/-- 'stemmalaw07.OpsMore': WHATEVER THE INPUT: true; the input reads as it did. -/
def opsMoreSpec : ChangeSpec := { name := "opsMore", fn := fun _ => fun
  | [d1, d2] => { results := [.lit (.bool true)], args := [d1, d2] }
  | _ => none }
def opsMoreRow : OpenClaim := { program := "ytgmhjgknfeihiaadoor", sum := "f04e0e0adf87f1a0760ea64ab68d27a27f23da08929e52cb80173d22d47db7f9", func := "stemma/stemmalaw07.OpsMore", spec := "opsMore", inPlace := ["internal/bytealg.IndexByteString", "internal/bytealg.IndexString"], named := ["unicode/utf8.first", "unicode/utf8.acceptRanges", "internal/bytealg.MaxLen"], plainKeys := false, apart := false, laid := [("unicode/utf8.acceptRanges", laid_unicode_utf8_acceptRanges), ("unicode/utf8.first", laid_unicode_utf8_first)] }
def OpsMoreSaid : Prop := opsMoreRow.holds Tryd.pinned (OpenSpec.ofChange opsMoreSpec)

/-- ITS FALSE NEIGHBOUR: 'it returns false'. Refute it at one input. -/
def opsMoreWrong : ChangeSpec := { name := "opsMore", fn := fun _ => fun
  | [d1, d2] => { results := [.lit (.bool false)], args := [d1, d2] }
  | _ => none }
def OpsMoreWrongFalsely : Prop := opsMoreRow.holds Tryd.pinned (OpenSpec.ofChange opsMoreWrong)

/-- 'stemmalaw07.OpsEarlier': WHATEVER THE INPUT: true; the input reads as it did. -/
def opsEarlierSpec : ChangeSpec := { name := "opsEarlier", fn := fun _ => fun
  | [d] => { results := [.lit (.bool true)], args := [d] }
  | _ => none }
def opsEarlierRow : OpenClaim := { program := "ytgmhjgknfeihiaadoor", sum := "f04e0e0adf87f1a0760ea64ab68d27a27f23da08929e52cb80173d22d47db7f9", func := "stemma/stemmalaw07.OpsEarlier", spec := "opsEarlier", inPlace := ["internal/bytealg.IndexByteString", "internal/bytealg.IndexString"], unfollowed := true, recurses := true, named := ["unicode/utf8.first", "unicode/utf8.acceptRanges", "internal/bytealg.MaxLen"], plainKeys := false, apart := false, laid := [("unicode/utf8.acceptRanges", laid_unicode_utf8_acceptRanges), ("unicode/utf8.first", laid_unicode_utf8_first)] }
def OpsEarlierSaid : Prop := opsEarlierRow.holds Tryd.pinned (OpenSpec.ofChange opsEarlierSpec)

/-- ITS FALSE NEIGHBOUR: 'it returns false'. Refute it at one input. -/
def opsEarlierWrong : ChangeSpec := { name := "opsEarlier", fn := fun _ => fun
  | [d] => { results := [.lit (.bool false)], args := [d] }
  | _ => none }
def OpsEarlierWrongFalsely : Prop := opsEarlierRow.holds Tryd.pinned (OpenSpec.ofChange opsEarlierWrong)

/-- 'stemmalaw07.OpsOrder': WHATEVER THE INPUT: true; the input reads as it did. -/
def opsOrderSpec : ChangeSpec := { name := "opsOrder", fn := fun _ => fun
  | [d1, d2] => { results := [.lit (.bool true)], args := [d1, d2] }
  | _ => none }
def opsOrderRow : OpenClaim := { program := "ytgmhjgknfeihiaadoor", sum := "f04e0e0adf87f1a0760ea64ab68d27a27f23da08929e52cb80173d22d47db7f9", func := "stemma/stemmalaw07.OpsOrder", spec := "opsOrder", inPlace := ["internal/bytealg.IndexByteString", "internal/bytealg.IndexString"], unfollowed := true, recurses := true, named := ["unicode/utf8.first", "unicode/utf8.acceptRanges", "internal/bytealg.MaxLen"], plainKeys := false, apart := false, laid := [("unicode/utf8.acceptRanges", laid_unicode_utf8_acceptRanges), ("unicode/utf8.first", laid_unicode_utf8_first)] }
def OpsOrderSaid : Prop := opsOrderRow.holds Tryd.pinned (OpenSpec.ofChange opsOrderSpec)

/-- ITS FALSE NEIGHBOUR: 'it returns false'. Refute it at one input. -/
def opsOrderWrong : ChangeSpec := { name := "opsOrder", fn := fun _ => fun
  | [d1, d2] => { results := [.lit (.bool false)], args := [d1, d2] }
  | _ => none }
def OpsOrderWrongFalsely : Prop := opsOrderRow.holds Tryd.pinned (OpenSpec.ofChange opsOrderWrong)

/- THE SECOND FORM. 'bulk': how many values and letters a reading holds, each counted each time it is reached (what is shared counts as often as it is met; a slice's spare places count too). A statement '..UptoSaid' is the law's where the arguments, and the package variables that the reading takes, are together of bulk at most 1048576: NARROWER than '..Said'. Prove '..Said' where nothing that the law and all that it calls make is longer than what came in: it says more and counts as full. Else prove '..UptoSaid'. A law counts once. -/
mutual
def uptoBulk {H : Type} : DataW H → Nat
  | .lit (.string bytes) => bytes.length + 1
  | .lit _ => 1
  | .nil => 1
  | .ptr d => uptoBulk d + 1
  | .slice elems spare => uptoBulkAll elems + uptoBulkAll spare + 1
  | .agg parts => uptoBulkAll parts + 1
  | .iface _ d => uptoBulk d + 1
  | .map entries => uptoBulkEntries entries + 1
  | .held _ => 1
def uptoBulkAll {H : Type} : List (DataW H) → Nat
  | [] => 0
  | d :: r => uptoBulk d + uptoBulkAll r
def uptoBulkEntries {H : Type} : List (Lit × DataW H) → Nat
  | [] => 0
  | x :: r => uptoBulkEntry x + uptoBulkEntries r
def uptoBulkEntry {H : Type} : Lit × DataW H → Nat
  | (.string bytes, d) => bytes.length + uptoBulk d + 1
  | (_, d) => uptoBulk d + 1
 end
def uptoSmall : (H : Type) → List (DataW H) → Bool := fun _ ds => decide (uptoBulkAll ds ≤ 1048576)
def OpenSpec.upto (s : _root_.Go.ChangeSpec) : _root_.Go.OpenSpec := { _root_.Go.OpenSpec.ofChange s with cond := some uptoSmall }

/-- 'stemmalaw07.OpsRight', WHERE WHAT IT READS IS OF BULK AT MOST 1048576: true; the input reads as it did. -/
def opsRightUptoRow : OpenClaim := { program := "ytgmhjgknfeihiaadoor", sum := "f04e0e0adf87f1a0760ea64ab68d27a27f23da08929e52cb80173d22d47db7f9", func := "stemma/stemmalaw07.OpsRight", spec := "opsRight", inPlace := ["internal/bytealg.IndexByteString", "internal/bytealg.IndexString"], named := ["unicode/utf8.first", "unicode/utf8.acceptRanges", "internal/bytealg.MaxLen"], plainKeys := false, apart := false, laid := [("unicode/utf8.acceptRanges", laid_unicode_utf8_acceptRanges), ("unicode/utf8.first", laid_unicode_utf8_first)], narrowed := true }
def OpsRightUptoSaid : Prop := opsRightUptoRow.holds Tryd.pinned (OpenSpec.upto opsRightSpec)

/-- 'stemmalaw07.OpsEmpty', WHERE WHAT IT READS IS OF BULK AT MOST 1048576: true; the input reads as it did. -/
def opsEmptyUptoRow : OpenClaim := { program := "ytgmhjgknfeihiaadoor", sum := "f04e0e0adf87f1a0760ea64ab68d27a27f23da08929e52cb80173d22d47db7f9", func := "stemma/stemmalaw07.OpsEmpty", spec := "opsEmpty", inPlace := ["internal/bytealg.IndexByteString", "internal/bytealg.IndexString"], named := ["unicode/utf8.first", "unicode/utf8.acceptRanges", "internal/bytealg.MaxLen"], plainKeys := false, apart := false, laid := [("unicode/utf8.acceptRanges", laid_unicode_utf8_acceptRanges), ("unicode/utf8.first", laid_unicode_utf8_first)], narrowed := true }
def OpsEmptyUptoSaid : Prop := opsEmptyUptoRow.holds Tryd.pinned (OpenSpec.upto opsEmptySpec)

/-- 'stemmalaw07.OpsMore', WHERE WHAT IT READS IS OF BULK AT MOST 1048576: true; the input reads as it did. -/
def opsMoreUptoRow : OpenClaim := { program := "ytgmhjgknfeihiaadoor", sum := "f04e0e0adf87f1a0760ea64ab68d27a27f23da08929e52cb80173d22d47db7f9", func := "stemma/stemmalaw07.OpsMore", spec := "opsMore", inPlace := ["internal/bytealg.IndexByteString", "internal/bytealg.IndexString"], named := ["unicode/utf8.first", "unicode/utf8.acceptRanges", "internal/bytealg.MaxLen"], plainKeys := false, apart := false, laid := [("unicode/utf8.acceptRanges", laid_unicode_utf8_acceptRanges), ("unicode/utf8.first", laid_unicode_utf8_first)], narrowed := true }
def OpsMoreUptoSaid : Prop := opsMoreUptoRow.holds Tryd.pinned (OpenSpec.upto opsMoreSpec)

/-- 'stemmalaw07.OpsEarlier', WHERE WHAT IT READS IS OF BULK AT MOST 1048576: true; the input reads as it did. -/
def opsEarlierUptoRow : OpenClaim := { program := "ytgmhjgknfeihiaadoor", sum := "f04e0e0adf87f1a0760ea64ab68d27a27f23da08929e52cb80173d22d47db7f9", func := "stemma/stemmalaw07.OpsEarlier", spec := "opsEarlier", inPlace := ["internal/bytealg.IndexByteString", "internal/bytealg.IndexString"], unfollowed := true, recurses := true, named := ["unicode/utf8.first", "unicode/utf8.acceptRanges", "internal/bytealg.MaxLen"], plainKeys := false, apart := false, laid := [("unicode/utf8.acceptRanges", laid_unicode_utf8_acceptRanges), ("unicode/utf8.first", laid_unicode_utf8_first)], narrowed := true }
def OpsEarlierUptoSaid : Prop := opsEarlierUptoRow.holds Tryd.pinned (OpenSpec.upto opsEarlierSpec)

/-- 'stemmalaw07.OpsOrder', WHERE WHAT IT READS IS OF BULK AT MOST 1048576: true; the input reads as it did. -/
def opsOrderUptoRow : OpenClaim := { program := "ytgmhjgknfeihiaadoor", sum := "f04e0e0adf87f1a0760ea64ab68d27a27f23da08929e52cb80173d22d47db7f9", func := "stemma/stemmalaw07.OpsOrder", spec := "opsOrder", inPlace := ["internal/bytealg.IndexByteString", "internal/bytealg.IndexString"], unfollowed := true, recurses := true, named := ["unicode/utf8.first", "unicode/utf8.acceptRanges", "internal/bytealg.MaxLen"], plainKeys := false, apart := false, laid := [("unicode/utf8.acceptRanges", laid_unicode_utf8_acceptRanges), ("unicode/utf8.first", laid_unicode_utf8_first)], narrowed := true }
def OpsOrderUptoSaid : Prop := opsOrderUptoRow.holds Tryd.pinned (OpenSpec.upto opsOrderSpec)

end Rows
end Go.Proofs.YtgmhjgknfeihiaaDoor
