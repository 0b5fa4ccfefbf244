/-
  DERIVED. GIVEN WITH THE SEED: THE CARDS: each row of YtgmhjgknfeihiaaDoorRows.lean that lists a variable, with what it lists TIED to the program's text (the seventh form; the later family's looks); each row that meets fmt, with fmt's text TOLD by the authors' own Lean function (tested against real Go, not proved from fmt's source: count such statements apart). THE CARD IS WHAT COUNTS. Prove the row's statement (the work); the ties are given (YtgmhjgknfeihiaaDoorTie.lean); close each card by the builder's one call (the guide's Derived/Test/ToyasCard.lean, 'card_holds'). Laid BY PROGRAM, IN A SANDBOX (cutbox-door.mjs). By AI agents, Wed Nov 11 2026. No macro, syntax, notation, axiom, sorry.
-/
import Derived.Test.YtgmhjgknfeihiaaDoorRows
import GoSem.ClaimSeven
namespace Go.Proofs.YtgmhjgknfeihiaaDoor
namespace Rows

/-- THE TIED CARD OF 'stemmalaw07.OpsRight'. -/
def opsRightCard : Claim7 := { stood := { row := opsRightRow, standIns := [], harness := (true, "a19c92cb574dfe23deeccc312162bd0a65f5d0e1c73e9ce8e39e98cfa38accb3"), looks := false }, kinds := [], alts := [], laidByText := true, laidKinds := [.data, .pinned], laidTests := true, laidLooks := .later }
def OpsRightCardSaid : Prop := Claim7.holds Tryd.pinned (.plain (OpenSpec.ofChange opsRightSpec)) opsRightCard

/-- THE TIED CARD OF 'stemmalaw07.OpsEmpty'. -/
def opsEmptyCard : Claim7 := { stood := { row := opsEmptyRow, standIns := [], harness := (true, "a19c92cb574dfe23deeccc312162bd0a65f5d0e1c73e9ce8e39e98cfa38accb3"), looks := false }, kinds := [], alts := [], laidByText := true, laidKinds := [.data, .pinned], laidTests := true, laidLooks := .later }
def OpsEmptyCardSaid : Prop := Claim7.holds Tryd.pinned (.plain (OpenSpec.ofChange opsEmptySpec)) opsEmptyCard

/-- THE TIED CARD OF 'stemmalaw07.OpsMore'. -/
def opsMoreCard : Claim7 := { stood := { row := opsMoreRow, standIns := [], harness := (true, "a19c92cb574dfe23deeccc312162bd0a65f5d0e1c73e9ce8e39e98cfa38accb3"), looks := false }, kinds := [], alts := [], laidByText := true, laidKinds := [.data, .pinned], laidTests := true, laidLooks := .later }
def OpsMoreCardSaid : Prop := Claim7.holds Tryd.pinned (.plain (OpenSpec.ofChange opsMoreSpec)) opsMoreCard

/-- THE TIED CARD OF 'stemmalaw07.OpsEarlier'. -/
def opsEarlierCard : Claim7 := { stood := { row := opsEarlierRow, standIns := [], harness := (true, "a19c92cb574dfe23deeccc312162bd0a65f5d0e1c73e9ce8e39e98cfa38accb3"), looks := false }, kinds := [], alts := [], laidByText := true, laidKinds := [.data, .pinned], laidTests := true, laidLooks := .later }
def OpsEarlierCardSaid : Prop := Claim7.holds Tryd.pinned (.plain (OpenSpec.ofChange opsEarlierSpec)) opsEarlierCard

/-- THE TIED CARD OF 'stemmalaw07.OpsOrder'. -/
def opsOrderCard : Claim7 := { stood := { row := opsOrderRow, standIns := [], harness := (true, "a19c92cb574dfe23deeccc312162bd0a65f5d0e1c73e9ce8e39e98cfa38accb3"), looks := false }, kinds := [], alts := [], laidByText := true, laidKinds := [.data, .pinned], laidTests := true, laidLooks := .later }
def OpsOrderCardSaid : Prop := Claim7.holds Tryd.pinned (.plain (OpenSpec.ofChange opsOrderSpec)) opsOrderCard

/-- THE SECOND FORM's CARD OF 'stemmalaw07.OpsRight'. -/
def opsRightUptoCard : Claim7 := { stood := { row := opsRightUptoRow, standIns := [], harness := (true, "a19c92cb574dfe23deeccc312162bd0a65f5d0e1c73e9ce8e39e98cfa38accb3"), looks := false }, kinds := [], alts := [], laidByText := true, laidKinds := [.data, .pinned], laidTests := true, laidLooks := .later }
def OpsRightUptoCardSaid : Prop := Claim7.holds Tryd.pinned (.plain (OpenSpec.upto opsRightSpec)) opsRightUptoCard

/-- THE SECOND FORM's CARD OF 'stemmalaw07.OpsEmpty'. -/
def opsEmptyUptoCard : Claim7 := { stood := { row := opsEmptyUptoRow, standIns := [], harness := (true, "a19c92cb574dfe23deeccc312162bd0a65f5d0e1c73e9ce8e39e98cfa38accb3"), looks := false }, kinds := [], alts := [], laidByText := true, laidKinds := [.data, .pinned], laidTests := true, laidLooks := .later }
def OpsEmptyUptoCardSaid : Prop := Claim7.holds Tryd.pinned (.plain (OpenSpec.upto opsEmptySpec)) opsEmptyUptoCard

/-- THE SECOND FORM's CARD OF 'stemmalaw07.OpsMore'. -/
def opsMoreUptoCard : Claim7 := { stood := { row := opsMoreUptoRow, standIns := [], harness := (true, "a19c92cb574dfe23deeccc312162bd0a65f5d0e1c73e9ce8e39e98cfa38accb3"), looks := false }, kinds := [], alts := [], laidByText := true, laidKinds := [.data, .pinned], laidTests := true, laidLooks := .later }
def OpsMoreUptoCardSaid : Prop := Claim7.holds Tryd.pinned (.plain (OpenSpec.upto opsMoreSpec)) opsMoreUptoCard

/-- THE SECOND FORM's CARD OF 'stemmalaw07.OpsEarlier'. -/
def opsEarlierUptoCard : Claim7 := { stood := { row := opsEarlierUptoRow, standIns := [], harness := (true, "a19c92cb574dfe23deeccc312162bd0a65f5d0e1c73e9ce8e39e98cfa38accb3"), looks := false }, kinds := [], alts := [], laidByText := true, laidKinds := [.data, .pinned], laidTests := true, laidLooks := .later }
def OpsEarlierUptoCardSaid : Prop := Claim7.holds Tryd.pinned (.plain (OpenSpec.upto opsEarlierSpec)) opsEarlierUptoCard

/-- THE SECOND FORM's CARD OF 'stemmalaw07.OpsOrder'. -/
def opsOrderUptoCard : Claim7 := { stood := { row := opsOrderUptoRow, standIns := [], harness := (true, "a19c92cb574dfe23deeccc312162bd0a65f5d0e1c73e9ce8e39e98cfa38accb3"), looks := false }, kinds := [], alts := [], laidByText := true, laidKinds := [.data, .pinned], laidTests := true, laidLooks := .later }
def OpsOrderUptoCardSaid : Prop := Claim7.holds Tryd.pinned (.plain (OpenSpec.upto opsOrderSpec)) opsOrderUptoCard
end Rows
end Go.Proofs.YtgmhjgknfeihiaaDoor
