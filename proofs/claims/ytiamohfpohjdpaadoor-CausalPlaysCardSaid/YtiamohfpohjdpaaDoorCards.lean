/-
  DERIVED. GIVEN WITH THE SEED: THE CARDS: each row of YtiamohfpohjdpaaDoorRows.lean that lists a variable, with what it lists TIED to the program's text (the seventh form; the later family's looks); each row that meets fmt, with fmt's text TOLD by the authors' own Lean function (tested against real Go, not proved from fmt's source: count such statements apart). THE CARD IS WHAT COUNTS. Prove the row's statement (the work); the ties are given (YtiamohfpohjdpaaDoorTie.lean); close each card by the builder's one call (the guide's Derived/Test/ToyasCard.lean, 'card_holds'). Laid BY PROGRAM, IN A SANDBOX (cutbox-door.mjs). By AI agents, Wed Nov 11 2026. No macro, syntax, notation, axiom, sorry.
-/
import Derived.Test.YtiamohfpohjdpaaDoorRows
import GoSem.ClaimSeven
namespace Go.Proofs.YtiamohfpohjdpaaDoor
namespace Rows

/-- THE TIED CARD OF 'stemmalaw10.CausalAny'. -/
def causalAnyCard : Claim7 := { stood := { row := causalAnyRow, standIns := [], harness := (true, "f6270204920d8d64bf8ebe15a85d3fea9956db836fe096e6040fd2701af12904"), looks := false }, kinds := [], alts := [], laidByText := true, laidKinds := [.data, .pinned], laidTests := true, laidLooks := .later }
def CausalAnyCardSaid : Prop := Claim7.holds Tryd.pinned (.plain (OpenSpec.ofChange causalAnySpec)) causalAnyCard

/-- THE TIED CARD OF 'stemmalaw10.CausalTwice'. -/
def causalTwiceCard : Claim7 := { stood := { row := causalTwiceRow, standIns := [], harness := (true, "f6270204920d8d64bf8ebe15a85d3fea9956db836fe096e6040fd2701af12904"), looks := false }, kinds := [], alts := [], laidByText := true, laidKinds := [.data, .pinned], laidTests := true, laidLooks := .later }
def CausalTwiceCardSaid : Prop := Claim7.holds Tryd.pinned (.plain (OpenSpec.ofChange causalTwiceSpec)) causalTwiceCard

/-- THE TIED CARD OF 'stemmalaw10.CausalPlays'. -/
def causalPlaysCard : Claim7 := { stood := { row := causalPlaysRow, standIns := [], harness := (true, "f6270204920d8d64bf8ebe15a85d3fea9956db836fe096e6040fd2701af12904"), looks := false }, kinds := [], alts := [], laidByText := true, laidKinds := [.data, .pinned], laidTests := true, laidLooks := .later }
def CausalPlaysCardSaid : Prop := Claim7.holds Tryd.pinned (.plain (OpenSpec.ofChange causalPlaysSpec)) causalPlaysCard

/-- THE TIED CARD OF 'stemmalaw10.CausalMissing'. -/
def causalMissingCard : Claim7 := { stood := { row := causalMissingRow, standIns := [], harness := (true, "f6270204920d8d64bf8ebe15a85d3fea9956db836fe096e6040fd2701af12904"), looks := false }, kinds := [], alts := [], laidByText := true, laidKinds := [.data, .pinned], laidTests := true, laidLooks := .later }
def CausalMissingCardSaid : Prop := Claim7.holds Tryd.pinned (.plain (OpenSpec.ofChange causalMissingSpec)) causalMissingCard

/-- THE TIED CARD OF 'stemmalaw10.CausalNil'. -/
def causalNilCard : Claim7 := { stood := { row := causalNilRow, standIns := [], harness := (true, "f6270204920d8d64bf8ebe15a85d3fea9956db836fe096e6040fd2701af12904"), looks := false }, kinds := [], alts := [], laidByText := true, laidKinds := [.data, .pinned], laidTests := true, laidLooks := .later }
def CausalNilCardSaid : Prop := Claim7.holds Tryd.pinned (.plain (OpenSpec.ofChange causalNilSpec)) causalNilCard

/-- THE SECOND FORM's CARD OF 'stemmalaw10.CausalAny'. -/
def causalAnyUptoCard : Claim7 := { stood := { row := causalAnyUptoRow, standIns := [], harness := (true, "f6270204920d8d64bf8ebe15a85d3fea9956db836fe096e6040fd2701af12904"), looks := false }, kinds := [], alts := [], laidByText := true, laidKinds := [.data, .pinned], laidTests := true, laidLooks := .later }
def CausalAnyUptoCardSaid : Prop := Claim7.holds Tryd.pinned (.plain (OpenSpec.upto causalAnySpec)) causalAnyUptoCard

/-- THE SECOND FORM's CARD OF 'stemmalaw10.CausalTwice'. -/
def causalTwiceUptoCard : Claim7 := { stood := { row := causalTwiceUptoRow, standIns := [], harness := (true, "f6270204920d8d64bf8ebe15a85d3fea9956db836fe096e6040fd2701af12904"), looks := false }, kinds := [], alts := [], laidByText := true, laidKinds := [.data, .pinned], laidTests := true, laidLooks := .later }
def CausalTwiceUptoCardSaid : Prop := Claim7.holds Tryd.pinned (.plain (OpenSpec.upto causalTwiceSpec)) causalTwiceUptoCard

/-- THE SECOND FORM's CARD OF 'stemmalaw10.CausalPlays'. -/
def causalPlaysUptoCard : Claim7 := { stood := { row := causalPlaysUptoRow, standIns := [], harness := (true, "f6270204920d8d64bf8ebe15a85d3fea9956db836fe096e6040fd2701af12904"), looks := false }, kinds := [], alts := [], laidByText := true, laidKinds := [.data, .pinned], laidTests := true, laidLooks := .later }
def CausalPlaysUptoCardSaid : Prop := Claim7.holds Tryd.pinned (.plain (OpenSpec.upto causalPlaysSpec)) causalPlaysUptoCard

/-- THE SECOND FORM's CARD OF 'stemmalaw10.CausalMissing'. -/
def causalMissingUptoCard : Claim7 := { stood := { row := causalMissingUptoRow, standIns := [], harness := (true, "f6270204920d8d64bf8ebe15a85d3fea9956db836fe096e6040fd2701af12904"), looks := false }, kinds := [], alts := [], laidByText := true, laidKinds := [.data, .pinned], laidTests := true, laidLooks := .later }
def CausalMissingUptoCardSaid : Prop := Claim7.holds Tryd.pinned (.plain (OpenSpec.upto causalMissingSpec)) causalMissingUptoCard

/-- THE SECOND FORM's CARD OF 'stemmalaw10.CausalNil'. -/
def causalNilUptoCard : Claim7 := { stood := { row := causalNilUptoRow, standIns := [], harness := (true, "f6270204920d8d64bf8ebe15a85d3fea9956db836fe096e6040fd2701af12904"), looks := false }, kinds := [], alts := [], laidByText := true, laidKinds := [.data, .pinned], laidTests := true, laidLooks := .later }
def CausalNilUptoCardSaid : Prop := Claim7.holds Tryd.pinned (.plain (OpenSpec.upto causalNilSpec)) causalNilUptoCard
end Rows
end Go.Proofs.YtiamohfpohjdpaaDoor
