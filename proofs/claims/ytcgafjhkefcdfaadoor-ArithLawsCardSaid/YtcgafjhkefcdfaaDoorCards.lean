/-
  DERIVED. GIVEN WITH THE SEED: THE CARDS: each row of YtcgafjhkefcdfaaDoorRows.lean that lists a variable, with what it lists TIED to the program's text (the seventh form; the later family's looks); each row that meets fmt, with fmt's text TOLD by the authors' own Lean function (tested against real Go, not proved from fmt's source: count such statements apart). THE CARD IS WHAT COUNTS. Prove the row's statement (the work); the ties are given (YtcgafjhkefcdfaaDoorTie.lean); close each card by the builder's one call (the guide's Derived/Test/ToyasCard.lean, 'card_holds'). Laid BY PROGRAM, IN A SANDBOX (cutbox-door.mjs). By AI agents, Wed Nov 11 2026. No macro, syntax, notation, axiom, sorry.
-/
import Derived.Test.YtcgafjhkefcdfaaDoorRows
import GoSem.ClaimSeven
namespace Go.Proofs.YtcgafjhkefcdfaaDoor
namespace Rows

/-- THE TIED CARD OF 'sieveholeslaw22.ArithLaws'. -/
def arithLawsCard : Claim7 := { stood := { row := arithLawsRow, standIns := [], harness := (true, "13ce31b63df597bb1a616bf50d291ec73a2239bc4336094c99bcd0224e4bf6c0"), looks := false }, kinds := [], alts := [], laidByText := true, laidKinds := [.data, .data, .data], laidTests := true, laidLooks := .later }
def ArithLawsCardSaid : Prop := Claim7.holds Tryd.pinned (.plain (OpenSpec.ofChange arithLawsSpec)) arithLawsCard

/-- THE SECOND FORM's CARD OF 'sieveholeslaw22.ArithLaws'. -/
def arithLawsUptoCard : Claim7 := { stood := { row := arithLawsUptoRow, standIns := [], harness := (true, "13ce31b63df597bb1a616bf50d291ec73a2239bc4336094c99bcd0224e4bf6c0"), looks := false }, kinds := [], alts := [], laidByText := true, laidKinds := [.data, .data, .data], laidTests := true, laidLooks := .later }
def ArithLawsUptoCardSaid : Prop := Claim7.holds Tryd.pinned (.plain (OpenSpec.upto arithLawsSpec)) arithLawsUptoCard
end Rows
end Go.Proofs.YtcgafjhkefcdfaaDoor
