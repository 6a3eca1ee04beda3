/-
  DERIVED. GIVEN WITH THE SEED: THE CARDS: each row of YthplfkeecpkmhaaGreatDoorRows.lean that lists a variable, with what it lists TIED to the program's text (the seventh form; the later family's looks); each row that meets fmt, with fmt's text TOLD by the authors' own Lean function (tested against real Go, not proved from fmt's source: count such statements apart). THE CARD IS WHAT COUNTS. Prove the row's statement (the work); the ties are given (YthplfkeecpkmhaaGreatDoorTie.lean); close each card by the builder's one call (the guide's Derived/Test/ToyasCard.lean, 'card_holds'). Laid BY PROGRAM, IN A SANDBOX (cutbox-door.mjs). By AI agents, Wed Nov 11 2026. No macro, syntax, notation, axiom, sorry.
-/
import Derived.Test.YthplfkeecpkmhaaGreatDoorRows
import GoSem.ClaimSeven
namespace Go.Proofs.YthplfkeecpkmhaaGreatDoor
namespace Rows

/-- THE TIED CARD OF 'sieveholeslaw21.ValueTells'. -/
def valueTellsCard : Claim7 := { stood := { row := valueTellsRow, standIns := [], harness := (true, "fedf0b05ef6fc0b8e90b699712239f7215d6755fae71926e03c084b360a4d224"), looks := false }, kinds := [], alts := [], laidByText := true, laidKinds := [.data, .data, .data], laidTests := true, laidLooks := .later }
def ValueTellsCardSaid : Prop := Claim7.holds Tryz.pinned (.plain (OpenSpec.ofChange valueTellsSpec)) valueTellsCard

/-- THE TIED CARD OF 'sieveholeslaw21.ValueJoins'. -/
def valueJoinsCard : Claim7 := { stood := { row := valueJoinsRow, standIns := [], harness := (true, "fedf0b05ef6fc0b8e90b699712239f7215d6755fae71926e03c084b360a4d224"), looks := false }, kinds := [], alts := [], laidByText := true, laidKinds := [.data, .data, .data], laidTests := true, laidLooks := .later }
def ValueJoinsCardSaid : Prop := Claim7.holds Tryz.pinned (.plain (OpenSpec.ofChange valueJoinsSpec)) valueJoinsCard

/-- THE TIED CARD OF 'sieveholeslaw21.ValueKnown'. -/
def valueKnownCard : Claim7 := { stood := { row := valueKnownRow, standIns := [], harness := (true, "fedf0b05ef6fc0b8e90b699712239f7215d6755fae71926e03c084b360a4d224"), looks := false }, kinds := [], alts := [], laidByText := true, laidKinds := [.data, .data, .data], laidTests := true, laidLooks := .later }
def ValueKnownCardSaid : Prop := Claim7.holds Tryz.pinned (.plain (OpenSpec.ofChange valueKnownSpec)) valueKnownCard

/-- THE TIED CARD OF 'sieveholeslaw24.CondTells'. -/
def condTellsCard : Claim7 := { stood := { row := condTellsRow, standIns := [], harness := (true, "fedf0b05ef6fc0b8e90b699712239f7215d6755fae71926e03c084b360a4d224"), looks := false }, kinds := [], alts := [], laidByText := true, laidKinds := [.data, .data, .data], laidTests := true, laidLooks := .later }
def CondTellsCardSaid : Prop := Claim7.holds Tryz.pinned (.plain (OpenSpec.ofChange condTellsSpec)) condTellsCard

/-- THE TIED CARD OF 'sieveholeslaw24.CondSound'. -/
def condSoundCard : Claim7 := { stood := { row := condSoundRow, standIns := [], harness := (true, "fedf0b05ef6fc0b8e90b699712239f7215d6755fae71926e03c084b360a4d224"), looks := false }, kinds := [], alts := [], laidByText := true, laidKinds := [.data, .data, .data], laidTests := true, laidLooks := .later }
def CondSoundCardSaid : Prop := Claim7.holds Tryz.pinned (.plain (OpenSpec.ofChange condSoundSpec)) condSoundCard

/-- THE TIED CARD OF 'sieveholeslaw24.CondExact'. -/
def condExactCard : Claim7 := { stood := { row := condExactRow, standIns := [], harness := (true, "fedf0b05ef6fc0b8e90b699712239f7215d6755fae71926e03c084b360a4d224"), looks := false }, kinds := [], alts := [], laidByText := true, laidKinds := [.data, .data, .data], laidTests := true, laidLooks := .later }
def CondExactCardSaid : Prop := Claim7.holds Tryz.pinned (.plain (OpenSpec.ofChange condExactSpec)) condExactCard

/-- THE TIED CARD OF 'sieveholeslaw24.CondKnown'. -/
def condKnownCard : Claim7 := { stood := { row := condKnownRow, standIns := [], harness := (true, "fedf0b05ef6fc0b8e90b699712239f7215d6755fae71926e03c084b360a4d224"), looks := false }, kinds := [], alts := [], laidByText := true, laidKinds := [.data, .data, .data], laidTests := true, laidLooks := .later }
def CondKnownCardSaid : Prop := Claim7.holds Tryz.pinned (.plain (OpenSpec.ofChange condKnownSpec)) condKnownCard

/-- THE SECOND FORM's CARD OF 'sieveholeslaw21.ValueTells'. -/
def valueTellsUptoCard : Claim7 := { stood := { row := valueTellsUptoRow, standIns := [], harness := (true, "fedf0b05ef6fc0b8e90b699712239f7215d6755fae71926e03c084b360a4d224"), looks := false }, kinds := [], alts := [], laidByText := true, laidKinds := [.data, .data, .data], laidTests := true, laidLooks := .later }
def ValueTellsUptoCardSaid : Prop := Claim7.holds Tryz.pinned (.plain (OpenSpec.upto valueTellsSpec)) valueTellsUptoCard

/-- THE SECOND FORM's CARD OF 'sieveholeslaw21.ValueJoins'. -/
def valueJoinsUptoCard : Claim7 := { stood := { row := valueJoinsUptoRow, standIns := [], harness := (true, "fedf0b05ef6fc0b8e90b699712239f7215d6755fae71926e03c084b360a4d224"), looks := false }, kinds := [], alts := [], laidByText := true, laidKinds := [.data, .data, .data], laidTests := true, laidLooks := .later }
def ValueJoinsUptoCardSaid : Prop := Claim7.holds Tryz.pinned (.plain (OpenSpec.upto valueJoinsSpec)) valueJoinsUptoCard

/-- THE SECOND FORM's CARD OF 'sieveholeslaw21.ValueKnown'. -/
def valueKnownUptoCard : Claim7 := { stood := { row := valueKnownUptoRow, standIns := [], harness := (true, "fedf0b05ef6fc0b8e90b699712239f7215d6755fae71926e03c084b360a4d224"), looks := false }, kinds := [], alts := [], laidByText := true, laidKinds := [.data, .data, .data], laidTests := true, laidLooks := .later }
def ValueKnownUptoCardSaid : Prop := Claim7.holds Tryz.pinned (.plain (OpenSpec.upto valueKnownSpec)) valueKnownUptoCard

/-- THE SECOND FORM's CARD OF 'sieveholeslaw24.CondTells'. -/
def condTellsUptoCard : Claim7 := { stood := { row := condTellsUptoRow, standIns := [], harness := (true, "fedf0b05ef6fc0b8e90b699712239f7215d6755fae71926e03c084b360a4d224"), looks := false }, kinds := [], alts := [], laidByText := true, laidKinds := [.data, .data, .data], laidTests := true, laidLooks := .later }
def CondTellsUptoCardSaid : Prop := Claim7.holds Tryz.pinned (.plain (OpenSpec.upto condTellsSpec)) condTellsUptoCard

/-- THE SECOND FORM's CARD OF 'sieveholeslaw24.CondSound'. -/
def condSoundUptoCard : Claim7 := { stood := { row := condSoundUptoRow, standIns := [], harness := (true, "fedf0b05ef6fc0b8e90b699712239f7215d6755fae71926e03c084b360a4d224"), looks := false }, kinds := [], alts := [], laidByText := true, laidKinds := [.data, .data, .data], laidTests := true, laidLooks := .later }
def CondSoundUptoCardSaid : Prop := Claim7.holds Tryz.pinned (.plain (OpenSpec.upto condSoundSpec)) condSoundUptoCard

/-- THE SECOND FORM's CARD OF 'sieveholeslaw24.CondExact'. -/
def condExactUptoCard : Claim7 := { stood := { row := condExactUptoRow, standIns := [], harness := (true, "fedf0b05ef6fc0b8e90b699712239f7215d6755fae71926e03c084b360a4d224"), looks := false }, kinds := [], alts := [], laidByText := true, laidKinds := [.data, .data, .data], laidTests := true, laidLooks := .later }
def CondExactUptoCardSaid : Prop := Claim7.holds Tryz.pinned (.plain (OpenSpec.upto condExactSpec)) condExactUptoCard

/-- THE SECOND FORM's CARD OF 'sieveholeslaw24.CondKnown'. -/
def condKnownUptoCard : Claim7 := { stood := { row := condKnownUptoRow, standIns := [], harness := (true, "fedf0b05ef6fc0b8e90b699712239f7215d6755fae71926e03c084b360a4d224"), looks := false }, kinds := [], alts := [], laidByText := true, laidKinds := [.data, .data, .data], laidTests := true, laidLooks := .later }
def CondKnownUptoCardSaid : Prop := Claim7.holds Tryz.pinned (.plain (OpenSpec.upto condKnownSpec)) condKnownUptoCard
end Rows
end Go.Proofs.YthplfkeecpkmhaaGreatDoor
