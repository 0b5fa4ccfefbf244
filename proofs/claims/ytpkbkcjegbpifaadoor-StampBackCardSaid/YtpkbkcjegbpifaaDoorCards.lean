/-
  DERIVED. GIVEN WITH THE SEED: THE CARDS: each row of YtpkbkcjegbpifaaDoorRows.lean that lists a variable, with what it lists TIED to the program's text (the seventh form; the later family's looks); each row that meets fmt, with fmt's text TOLD by the authors' own Lean function (tested against real Go, not proved from fmt's source: count such statements apart). THE CARD IS WHAT COUNTS. Prove the row's statement (the work); the ties are given (YtpkbkcjegbpifaaDoorTie.lean); close each card by the builder's one call (the guide's Derived/Test/ToyasCard.lean, 'card_holds'). Laid BY PROGRAM, IN A SANDBOX (cutbox-door.mjs). By AI agents, Wed Nov 11 2026. No macro, syntax, notation, axiom, sorry.
-/
import Derived.Test.YtpkbkcjegbpifaaDoorRows
import GoSem.ClaimSeven
namespace Go.Proofs.YtpkbkcjegbpifaaDoor
namespace Rows

/-- THE TIED CARD OF 'stemmalaw01.StampFigures'. -/
def stampFiguresCard : Claim7 := { stood := { row := stampFiguresRow, standIns := [], harness := (true, "a4bce8ed6ee2e803de7ac7cba2e5951f21eb44223bccd097c8bfc609060dd9ed"), looks := false }, kinds := [], alts := [], laidByText := true, laidKinds := [.data, .data, .data], laidTests := true, laidLooks := .later }
def StampFiguresCardSaid : Prop := Claim7.holds Tryd.pinned (.plain (OpenSpec.ofChange stampFiguresSpec)) stampFiguresCard

/-- THE TIED CARD OF 'stemmalaw01.StampTexts'. -/
def stampTextsCard : Claim7 := { stood := { row := stampTextsRow, standIns := [], harness := (true, "a4bce8ed6ee2e803de7ac7cba2e5951f21eb44223bccd097c8bfc609060dd9ed"), looks := false }, kinds := [], alts := [], laidByText := true, laidKinds := [.data, .data, .data], laidTests := true, laidLooks := .later }
def StampTextsCardSaid : Prop := Claim7.holds Tryd.pinned (.plain (OpenSpec.ofChange stampTextsSpec)) stampTextsCard

/-- THE TIED CARD OF 'stemmalaw01.StampBack'. -/
def stampBackCard : Claim7 := { stood := { row := stampBackRow, standIns := [], harness := (true, "a4bce8ed6ee2e803de7ac7cba2e5951f21eb44223bccd097c8bfc609060dd9ed"), looks := false }, kinds := [], alts := [], laidByText := true, laidKinds := [.data, .data, .data], laidTests := true, laidLooks := .later }
def StampBackCardSaid : Prop := Claim7.holds Tryd.pinned (.plain (OpenSpec.ofChange stampBackSpec)) stampBackCard

/-- THE SECOND FORM's CARD OF 'stemmalaw01.StampFigures'. -/
def stampFiguresUptoCard : Claim7 := { stood := { row := stampFiguresUptoRow, standIns := [], harness := (true, "a4bce8ed6ee2e803de7ac7cba2e5951f21eb44223bccd097c8bfc609060dd9ed"), looks := false }, kinds := [], alts := [], laidByText := true, laidKinds := [.data, .data, .data], laidTests := true, laidLooks := .later }
def StampFiguresUptoCardSaid : Prop := Claim7.holds Tryd.pinned (.plain (OpenSpec.upto stampFiguresSpec)) stampFiguresUptoCard

/-- THE SECOND FORM's CARD OF 'stemmalaw01.StampTexts'. -/
def stampTextsUptoCard : Claim7 := { stood := { row := stampTextsUptoRow, standIns := [], harness := (true, "a4bce8ed6ee2e803de7ac7cba2e5951f21eb44223bccd097c8bfc609060dd9ed"), looks := false }, kinds := [], alts := [], laidByText := true, laidKinds := [.data, .data, .data], laidTests := true, laidLooks := .later }
def StampTextsUptoCardSaid : Prop := Claim7.holds Tryd.pinned (.plain (OpenSpec.upto stampTextsSpec)) stampTextsUptoCard

/-- THE SECOND FORM's CARD OF 'stemmalaw01.StampBack'. -/
def stampBackUptoCard : Claim7 := { stood := { row := stampBackUptoRow, standIns := [], harness := (true, "a4bce8ed6ee2e803de7ac7cba2e5951f21eb44223bccd097c8bfc609060dd9ed"), looks := false }, kinds := [], alts := [], laidByText := true, laidKinds := [.data, .data, .data], laidTests := true, laidLooks := .later }
def StampBackUptoCardSaid : Prop := Claim7.holds Tryd.pinned (.plain (OpenSpec.upto stampBackSpec)) stampBackUptoCard
end Rows
end Go.Proofs.YtpkbkcjegbpifaaDoor
