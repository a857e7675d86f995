/-
  DERIVED. GIVEN WITH THE SEED: THE CARDS: each row of YtcpafdcghlpabaaGreatDoorRows.lean that lists a variable, with what it lists TIED to the program's text (the seventh form; the later family's looks); each row that meets fmt, with fmt's text TOLD by the authors' own Lean function (tested against real Go, not proved from fmt's source: count such statements apart). THE CARD IS WHAT COUNTS. Prove the row's statement (the work); the ties are given (YtcpafdcghlpabaaGreatDoorTie.lean); close each card by the builder's one call (the guide's Derived/Test/ToyasCard.lean, 'card_holds'). Laid BY PROGRAM, IN A SANDBOX (cutbox-door.mjs). By AI agents, Wed Nov 11 2026. No macro, syntax, notation, axiom, sorry.
-/
import Derived.Test.YtcpafdcghlpabaaGreatDoorRows
import GoSem.ClaimSeven
namespace Go.Proofs.YtcpafdcghlpabaaGreatDoor
namespace Rows

/-- THE TIED CARD OF 'lazaruslaw21.BuiltNot'. -/
def builtNotCard : Claim7 := { stood := { row := builtNotRow, standIns := [], harness := (true, "ecfce6889a3e788a1d5ce5468f14698e8b17c0ab1e4f2c2d4affb010fbe109f5"), looks := true }, kinds := [], alts := [], laidByText := true, laidKinds := [.data, .data, .data, .sentinel, .sentinel, .listed, .data], laidTests := true, laidLooks := .later }
def BuiltNotCardSaid : Prop := Claim7.holds Tryz.pinned (.plain (OpenSpec.ofChange builtNotSpec)) builtNotCard

/-- THE TIED CARD OF 'lazaruslaw21.BuiltShift'. -/
def builtShiftCard : Claim7 := { stood := { row := builtShiftRow, standIns := [], harness := (true, "ecfce6889a3e788a1d5ce5468f14698e8b17c0ab1e4f2c2d4affb010fbe109f5"), looks := true }, kinds := [], alts := [], laidByText := true, laidKinds := [.data, .data, .data, .sentinel, .sentinel, .listed, .data], laidTests := true, laidLooks := .later }
def BuiltShiftCardSaid : Prop := Claim7.holds Tryz.pinned (.plain (OpenSpec.ofChange builtShiftSpec)) builtShiftCard

/-- THE TIED CARD OF 'lazaruslaw21.BuiltRead'. -/
def builtReadCard : Claim7 := { stood := { row := builtReadRow, standIns := [], harness := (true, "ecfce6889a3e788a1d5ce5468f14698e8b17c0ab1e4f2c2d4affb010fbe109f5"), looks := true }, kinds := [], alts := [], laidByText := true, laidKinds := [.data, .data, .data, .sentinel, .sentinel, .listed, .data], laidTests := true, laidLooks := .later }
def BuiltReadCardSaid : Prop := Claim7.holds Tryz.pinned (.plain (OpenSpec.ofChange builtReadSpec)) builtReadCard

/-- THE TIED CARD OF 'lazaruslaw21.BuiltRuns'. -/
def builtRunsCard : Claim7 := { stood := { row := builtRunsRow, standIns := [], harness := (true, "ecfce6889a3e788a1d5ce5468f14698e8b17c0ab1e4f2c2d4affb010fbe109f5"), looks := true }, kinds := [], alts := [], laidByText := true, laidKinds := [.data, .data, .data, .data, .sentinel, .sentinel, .listed, .data, .pinned], laidTests := true, laidLooks := .later }
def BuiltRunsCardSaid : Prop := Claim7.holds Tryz.pinned (.plain (OpenSpec.ofChange builtRunsSpec)) builtRunsCard

/-- THE SECOND FORM's CARD OF 'lazaruslaw21.BuiltNot'. -/
def builtNotUptoCard : Claim7 := { stood := { row := builtNotUptoRow, standIns := [], harness := (true, "ecfce6889a3e788a1d5ce5468f14698e8b17c0ab1e4f2c2d4affb010fbe109f5"), looks := true }, kinds := [], alts := [], laidByText := true, laidKinds := [.data, .data, .data, .sentinel, .sentinel, .listed, .data], laidTests := true, laidLooks := .later }
def BuiltNotUptoCardSaid : Prop := Claim7.holds Tryz.pinned (.plain (OpenSpec.upto builtNotSpec)) builtNotUptoCard

/-- THE SECOND FORM's CARD OF 'lazaruslaw21.BuiltShift'. -/
def builtShiftUptoCard : Claim7 := { stood := { row := builtShiftUptoRow, standIns := [], harness := (true, "ecfce6889a3e788a1d5ce5468f14698e8b17c0ab1e4f2c2d4affb010fbe109f5"), looks := true }, kinds := [], alts := [], laidByText := true, laidKinds := [.data, .data, .data, .sentinel, .sentinel, .listed, .data], laidTests := true, laidLooks := .later }
def BuiltShiftUptoCardSaid : Prop := Claim7.holds Tryz.pinned (.plain (OpenSpec.upto builtShiftSpec)) builtShiftUptoCard

/-- THE SECOND FORM's CARD OF 'lazaruslaw21.BuiltRead'. -/
def builtReadUptoCard : Claim7 := { stood := { row := builtReadUptoRow, standIns := [], harness := (true, "ecfce6889a3e788a1d5ce5468f14698e8b17c0ab1e4f2c2d4affb010fbe109f5"), looks := true }, kinds := [], alts := [], laidByText := true, laidKinds := [.data, .data, .data, .sentinel, .sentinel, .listed, .data], laidTests := true, laidLooks := .later }
def BuiltReadUptoCardSaid : Prop := Claim7.holds Tryz.pinned (.plain (OpenSpec.upto builtReadSpec)) builtReadUptoCard

/-- THE SECOND FORM's CARD OF 'lazaruslaw21.BuiltRuns'. -/
def builtRunsUptoCard : Claim7 := { stood := { row := builtRunsUptoRow, standIns := [], harness := (true, "ecfce6889a3e788a1d5ce5468f14698e8b17c0ab1e4f2c2d4affb010fbe109f5"), looks := true }, kinds := [], alts := [], laidByText := true, laidKinds := [.data, .data, .data, .data, .sentinel, .sentinel, .listed, .data, .pinned], laidTests := true, laidLooks := .later }
def BuiltRunsUptoCardSaid : Prop := Claim7.holds Tryz.pinned (.plain (OpenSpec.upto builtRunsSpec)) builtRunsUptoCard
end Rows
end Go.Proofs.YtcpafdcghlpabaaGreatDoor
