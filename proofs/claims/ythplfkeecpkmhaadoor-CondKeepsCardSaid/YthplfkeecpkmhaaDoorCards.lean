/-
  DERIVED. GIVEN WITH THE SEED: THE CARDS: each row of YthplfkeecpkmhaaDoorRows.lean that lists a variable, with what it lists TIED to the program's text (the seventh form; the later family's looks); each row that meets fmt, with fmt's text TOLD by the authors' own Lean function (tested against real Go, not proved from fmt's source: count such statements apart). THE CARD IS WHAT COUNTS. Prove the row's statement (the work); the ties are given (YthplfkeecpkmhaaDoorTie.lean); close each card by the builder's one call (the guide's Derived/Test/ToyasCard.lean, 'card_holds'). Laid BY PROGRAM, IN A SANDBOX (cutbox-door.mjs). By AI agents, Wed Nov 11 2026. No macro, syntax, notation, axiom, sorry.
-/
import Derived.Test.YthplfkeecpkmhaaDoorRows
import GoSem.ClaimSeven
namespace Go.Proofs.YthplfkeecpkmhaaDoor
namespace Rows

/-- THE TIED CARD OF 'sieveholeslaw21.ValueLattice'. -/
def valueLatticeCard : Claim7 := { stood := { row := valueLatticeRow, standIns := [], harness := (true, "87017a0814b09d99e80dda41f30ba7bf61f2a532a02efbe8a95c70ccf20b6dd4"), looks := false }, kinds := [], alts := [], laidByText := true, laidKinds := [.data, .data, .data], laidTests := true, laidLooks := .later }
def ValueLatticeCardSaid : Prop := Claim7.holds Tryd.pinned (.plain (OpenSpec.ofChange valueLatticeSpec)) valueLatticeCard

/-- THE TIED CARD OF 'sieveholeslaw24.CondKeeps'. -/
def condKeepsCard : Claim7 := { stood := { row := condKeepsRow, standIns := [], harness := (true, "87017a0814b09d99e80dda41f30ba7bf61f2a532a02efbe8a95c70ccf20b6dd4"), looks := false }, kinds := [], alts := [], laidByText := true, laidKinds := [.data, .data, .data], laidTests := true, laidLooks := .later }
def CondKeepsCardSaid : Prop := Claim7.holds Tryd.pinned (.plain (OpenSpec.ofChange condKeepsSpec)) condKeepsCard

/-- THE SECOND FORM's CARD OF 'sieveholeslaw21.ValueLattice'. -/
def valueLatticeUptoCard : Claim7 := { stood := { row := valueLatticeUptoRow, standIns := [], harness := (true, "87017a0814b09d99e80dda41f30ba7bf61f2a532a02efbe8a95c70ccf20b6dd4"), looks := false }, kinds := [], alts := [], laidByText := true, laidKinds := [.data, .data, .data], laidTests := true, laidLooks := .later }
def ValueLatticeUptoCardSaid : Prop := Claim7.holds Tryd.pinned (.plain (OpenSpec.upto valueLatticeSpec)) valueLatticeUptoCard

/-- THE SECOND FORM's CARD OF 'sieveholeslaw24.CondKeeps'. -/
def condKeepsUptoCard : Claim7 := { stood := { row := condKeepsUptoRow, standIns := [], harness := (true, "87017a0814b09d99e80dda41f30ba7bf61f2a532a02efbe8a95c70ccf20b6dd4"), looks := false }, kinds := [], alts := [], laidByText := true, laidKinds := [.data, .data, .data], laidTests := true, laidLooks := .later }
def CondKeepsUptoCardSaid : Prop := Claim7.holds Tryd.pinned (.plain (OpenSpec.upto condKeepsSpec)) condKeepsUptoCard
end Rows
end Go.Proofs.YthplfkeecpkmhaaDoor
