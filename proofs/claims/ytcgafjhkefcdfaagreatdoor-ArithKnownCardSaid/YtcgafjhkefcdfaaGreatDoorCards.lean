/-
  DERIVED. GIVEN WITH THE SEED: THE CARDS: each row of YtcgafjhkefcdfaaGreatDoorRows.lean that lists a variable, with what it lists TIED to the program's text (the seventh form; the later family's looks); each row that meets fmt, with fmt's text TOLD by the authors' own Lean function (tested against real Go, not proved from fmt's source: count such statements apart). THE CARD IS WHAT COUNTS. Prove the row's statement (the work); the ties are given (YtcgafjhkefcdfaaGreatDoorTie.lean); close each card by the builder's one call (the guide's Derived/Test/ToyasCard.lean, 'card_holds'). Laid BY PROGRAM, IN A SANDBOX (cutbox-door.mjs). By AI agents, Wed Nov 11 2026. No macro, syntax, notation, axiom, sorry.
-/
import Derived.Test.YtcgafjhkefcdfaaGreatDoorRows
import GoSem.ClaimSeven
namespace Go.Proofs.YtcgafjhkefcdfaaGreatDoor
namespace Rows

/-- THE TIED CARD OF 'sieveholeslaw22.ArithDoes'. -/
def arithDoesCard : Claim7 := { stood := { row := arithDoesRow, standIns := [], harness := (true, "f9a24e40b5cf80ee043d30d879ff0927fd064a944b0401cc8d4e604f2d7089f5"), looks := false }, kinds := [], alts := [], laidByText := true, laidKinds := [.data, .data, .data], laidTests := true, laidLooks := .later }
def ArithDoesCardSaid : Prop := Claim7.holds Tryz.pinned (.plain (OpenSpec.ofChange arithDoesSpec)) arithDoesCard

/-- THE TIED CARD OF 'sieveholeslaw22.ArithSound'. -/
def arithSoundCard : Claim7 := { stood := { row := arithSoundRow, standIns := [], harness := (true, "f9a24e40b5cf80ee043d30d879ff0927fd064a944b0401cc8d4e604f2d7089f5"), looks := false }, kinds := [], alts := [], laidByText := true, laidKinds := [.data, .data, .data], laidTests := true, laidLooks := .later }
def ArithSoundCardSaid : Prop := Claim7.holds Tryz.pinned (.plain (OpenSpec.ofChange arithSoundSpec)) arithSoundCard

/-- THE TIED CARD OF 'sieveholeslaw22.ArithKnown'. -/
def arithKnownCard : Claim7 := { stood := { row := arithKnownRow, standIns := [], harness := (true, "f9a24e40b5cf80ee043d30d879ff0927fd064a944b0401cc8d4e604f2d7089f5"), looks := false }, kinds := [], alts := [], laidByText := true, laidKinds := [.data, .data, .data], laidTests := true, laidLooks := .later }
def ArithKnownCardSaid : Prop := Claim7.holds Tryz.pinned (.plain (OpenSpec.ofChange arithKnownSpec)) arithKnownCard

/-- THE TIED CARD OF 'sieveholeslaw23.BitopSingle'. -/
def bitopSingleCard : Claim7 := { stood := { row := bitopSingleRow, standIns := [], harness := (true, "f9a24e40b5cf80ee043d30d879ff0927fd064a944b0401cc8d4e604f2d7089f5"), looks := false }, kinds := [], alts := [], laidByText := true, laidKinds := [.data, .data, .data], laidTests := true, laidLooks := .later }
def BitopSingleCardSaid : Prop := Claim7.holds Tryz.pinned (.plain (OpenSpec.ofChange bitopSingleSpec)) bitopSingleCard

/-- THE TIED CARD OF 'sieveholeslaw23.BitopSound'. -/
def bitopSoundCard : Claim7 := { stood := { row := bitopSoundRow, standIns := [], harness := (true, "f9a24e40b5cf80ee043d30d879ff0927fd064a944b0401cc8d4e604f2d7089f5"), looks := false }, kinds := [], alts := [], laidByText := true, laidKinds := [.data, .data, .data], laidTests := true, laidLooks := .later }
def BitopSoundCardSaid : Prop := Claim7.holds Tryz.pinned (.plain (OpenSpec.ofChange bitopSoundSpec)) bitopSoundCard

/-- THE SECOND FORM's CARD OF 'sieveholeslaw22.ArithDoes'. -/
def arithDoesUptoCard : Claim7 := { stood := { row := arithDoesUptoRow, standIns := [], harness := (true, "f9a24e40b5cf80ee043d30d879ff0927fd064a944b0401cc8d4e604f2d7089f5"), looks := false }, kinds := [], alts := [], laidByText := true, laidKinds := [.data, .data, .data], laidTests := true, laidLooks := .later }
def ArithDoesUptoCardSaid : Prop := Claim7.holds Tryz.pinned (.plain (OpenSpec.upto arithDoesSpec)) arithDoesUptoCard

/-- THE SECOND FORM's CARD OF 'sieveholeslaw22.ArithSound'. -/
def arithSoundUptoCard : Claim7 := { stood := { row := arithSoundUptoRow, standIns := [], harness := (true, "f9a24e40b5cf80ee043d30d879ff0927fd064a944b0401cc8d4e604f2d7089f5"), looks := false }, kinds := [], alts := [], laidByText := true, laidKinds := [.data, .data, .data], laidTests := true, laidLooks := .later }
def ArithSoundUptoCardSaid : Prop := Claim7.holds Tryz.pinned (.plain (OpenSpec.upto arithSoundSpec)) arithSoundUptoCard

/-- THE SECOND FORM's CARD OF 'sieveholeslaw22.ArithKnown'. -/
def arithKnownUptoCard : Claim7 := { stood := { row := arithKnownUptoRow, standIns := [], harness := (true, "f9a24e40b5cf80ee043d30d879ff0927fd064a944b0401cc8d4e604f2d7089f5"), looks := false }, kinds := [], alts := [], laidByText := true, laidKinds := [.data, .data, .data], laidTests := true, laidLooks := .later }
def ArithKnownUptoCardSaid : Prop := Claim7.holds Tryz.pinned (.plain (OpenSpec.upto arithKnownSpec)) arithKnownUptoCard

/-- THE SECOND FORM's CARD OF 'sieveholeslaw23.BitopSingle'. -/
def bitopSingleUptoCard : Claim7 := { stood := { row := bitopSingleUptoRow, standIns := [], harness := (true, "f9a24e40b5cf80ee043d30d879ff0927fd064a944b0401cc8d4e604f2d7089f5"), looks := false }, kinds := [], alts := [], laidByText := true, laidKinds := [.data, .data, .data], laidTests := true, laidLooks := .later }
def BitopSingleUptoCardSaid : Prop := Claim7.holds Tryz.pinned (.plain (OpenSpec.upto bitopSingleSpec)) bitopSingleUptoCard

/-- THE SECOND FORM's CARD OF 'sieveholeslaw23.BitopSound'. -/
def bitopSoundUptoCard : Claim7 := { stood := { row := bitopSoundUptoRow, standIns := [], harness := (true, "f9a24e40b5cf80ee043d30d879ff0927fd064a944b0401cc8d4e604f2d7089f5"), looks := false }, kinds := [], alts := [], laidByText := true, laidKinds := [.data, .data, .data], laidTests := true, laidLooks := .later }
def BitopSoundUptoCardSaid : Prop := Claim7.holds Tryz.pinned (.plain (OpenSpec.upto bitopSoundSpec)) bitopSoundUptoCard
end Rows
end Go.Proofs.YtcgafjhkefcdfaaGreatDoor
