/-
  No cell of these rows narrows 'for every input' (looked for: loops, veiled, ifaces, maps, wideKeys, modest, calm, conditions, laid).
  DERIVED. THE GIVEN ROWS OF THIS SEAT. 7 by the template 'for every input the law returns true; each argument reads behind the call as it read before'; 0 by the template 'total and deterministic' (their statements: YthnlknegnlmklaaTotals.lean).
  GIVEN WITH THE SEED: the statements are not yours to turn. If you find one false, say at which input.
  Laid BY PROGRAM, IN A SANDBOX (cutbox-rows.mjs): the forced cells as the released guide's own fill.sh prints them over the translation 281b1623af315b75… (all of the seat's roots in one cut). By AI agents, Wed Nov 11 2026. No macro, syntax, notation, axiom, sorry.
-/
import Derived.Test.YthnlknegnlmklaaChecked
import GoSem.Claim
import GoSem.ClaimJoined
import GoSem.ClaimMapViews
import Derived.JoinedTies
import Derived.KernelRfl
namespace Go.Proofs.Ythnlknegnlmklaa
/- THE CELL 'sum', in the pinned program and in every row, IS THE sha256 OF THE DUMP (.gsa) THAT YthnlknegnlmklaaProg.lean LOADS. Nothing in Lean hashes anything: it is a label: what it is worth is what the hold of that sum in a sandbox is worth. -/
noncomputable def Try.pinned : Pinned := { name := "ythnlknegnlmklaa", sum := "281b1623af315b75b7eef911949925dc42a8dccc627ea79573f8d7f8b520ac50", checked := Try.checked }
namespace Rows
def none {H : Type} : Left H := { results := [], args := [] }

/-- 'sieveholeslaw04.PosPlaces': WHATEVER THE INPUT: true; the input reads as it did. -/
def posPlacesSpec : ChangeSpec := { name := "posPlaces", fn := fun _ => fun
  | [d1, d2, d3] => { results := [.lit (.bool true)], args := [d1, d2, d3] }
  | _ => none }
def posPlacesRow : OpenClaim := { program := "ythnlknegnlmklaa", sum := "281b1623af315b75b7eef911949925dc42a8dccc627ea79573f8d7f8b520ac50", func := "sieveholes/sieveholeslaw04.PosPlaces", spec := "posPlaces", inPlace := ["internal/bytealg.CountString", "internal/bytealg.IndexByteString", "internal/bytealg.IndexString"], unfollowed := true, recurses := true, named := ["internal/bytealg.MaxLen"], apart := false }
def PosPlacesSaid : Prop := posPlacesRow.holds Try.pinned (OpenSpec.ofChange posPlacesSpec)

/-- ITS FALSE NEIGHBOUR: 'it returns false'. Refute it at one input. -/
def posPlacesWrong : ChangeSpec := { name := "posPlaces", fn := fun _ => fun
  | [d1, d2, d3] => { results := [.lit (.bool false)], args := [d1, d2, d3] }
  | _ => none }
def PosPlacesWrongFalsely : Prop := posPlacesRow.holds Try.pinned (OpenSpec.ofChange posPlacesWrong)

/-- 'sieveholeslaw02.DeciDivides': WHATEVER THE INPUT: true; the input reads as it did. -/
def deciDividesSpec : ChangeSpec := { name := "deciDivides", fn := fun _ => fun
  | [d1, d2] => { results := [.lit (.bool true)], args := [d1, d2] }
  | _ => none }
def deciDividesRow : OpenClaim := { program := "ythnlknegnlmklaa", sum := "281b1623af315b75b7eef911949925dc42a8dccc627ea79573f8d7f8b520ac50", func := "sieveholes/sieveholeslaw02.DeciDivides", spec := "deciDivides", inPlace := ["math/bits.Add64"], unfollowed := true, recurses := true, named := ["math/bits.divideError", "math/bits.overflowError"], apart := false }
def DeciDividesSaid : Prop := deciDividesRow.holds Try.pinned (OpenSpec.ofChange deciDividesSpec)

/-- ITS FALSE NEIGHBOUR: 'it returns false'. Refute it at one input. -/
def deciDividesWrong : ChangeSpec := { name := "deciDivides", fn := fun _ => fun
  | [d1, d2] => { results := [.lit (.bool false)], args := [d1, d2] }
  | _ => none }
def DeciDividesWrongFalsely : Prop := deciDividesRow.holds Try.pinned (OpenSpec.ofChange deciDividesWrong)

/-- 'sieveholeslaw02.DeciTexts': WHATEVER THE INPUT: true; the input reads as it did. -/
def deciTextsSpec : ChangeSpec := { name := "deciTexts", fn := fun _ => fun
  | [d1, d2] => { results := [.lit (.bool true)], args := [d1, d2] }
  | _ => none }
def deciTextsRow : OpenClaim := { program := "ythnlknegnlmklaa", sum := "281b1623af315b75b7eef911949925dc42a8dccc627ea79573f8d7f8b520ac50", func := "sieveholes/sieveholeslaw02.DeciTexts", spec := "deciTexts", inPlace := ["math/bits.Add64"], unfollowed := true, recurses := true, named := ["math/bits.divideError", "math/bits.overflowError"], apart := false }
def DeciTextsSaid : Prop := deciTextsRow.holds Try.pinned (OpenSpec.ofChange deciTextsSpec)

/-- ITS FALSE NEIGHBOUR: 'it returns false'. Refute it at one input. -/
def deciTextsWrong : ChangeSpec := { name := "deciTexts", fn := fun _ => fun
  | [d1, d2] => { results := [.lit (.bool false)], args := [d1, d2] }
  | _ => none }
def DeciTextsWrongFalsely : Prop := deciTextsRow.holds Try.pinned (OpenSpec.ofChange deciTextsWrong)

/-- 'sieveholeslaw02.DeciReads': WHATEVER THE INPUT: true; the input reads as it did. -/
def deciReadsSpec : ChangeSpec := { name := "deciReads", fn := fun _ => fun
  | [d1, d2] => { results := [.lit (.bool true)], args := [d1, d2] }
  | _ => none }
def deciReadsRow : OpenClaim := { program := "ythnlknegnlmklaa", sum := "281b1623af315b75b7eef911949925dc42a8dccc627ea79573f8d7f8b520ac50", func := "sieveholes/sieveholeslaw02.DeciReads", spec := "deciReads", inPlace := ["math/bits.Add64"], unfollowed := true, recurses := true, named := ["math/bits.divideError", "math/bits.overflowError"], apart := false }
def DeciReadsSaid : Prop := deciReadsRow.holds Try.pinned (OpenSpec.ofChange deciReadsSpec)

/-- ITS FALSE NEIGHBOUR: 'it returns false'. Refute it at one input. -/
def deciReadsWrong : ChangeSpec := { name := "deciReads", fn := fun _ => fun
  | [d1, d2] => { results := [.lit (.bool false)], args := [d1, d2] }
  | _ => none }
def DeciReadsWrongFalsely : Prop := deciReadsRow.holds Try.pinned (OpenSpec.ofChange deciReadsWrong)

/-- 'sieveholeslaw02.DeciBack': WHATEVER THE INPUT: true; the input reads as it did. -/
def deciBackSpec : ChangeSpec := { name := "deciBack", fn := fun _ => fun
  | [d1, d2, d3, d4, d5] => { results := [.lit (.bool true)], args := [d1, d2, d3, d4, d5] }
  | _ => none }
def deciBackRow : OpenClaim := { program := "ythnlknegnlmklaa", sum := "281b1623af315b75b7eef911949925dc42a8dccc627ea79573f8d7f8b520ac50", func := "sieveholes/sieveholeslaw02.DeciBack", spec := "deciBack", inPlace := ["math/bits.Add64"], unfollowed := true, recurses := true, named := ["math/bits.divideError", "math/bits.overflowError"], apart := false }
def DeciBackSaid : Prop := deciBackRow.holds Try.pinned (OpenSpec.ofChange deciBackSpec)

/-- ITS FALSE NEIGHBOUR: 'it returns false'. Refute it at one input. -/
def deciBackWrong : ChangeSpec := { name := "deciBack", fn := fun _ => fun
  | [d1, d2, d3, d4, d5] => { results := [.lit (.bool false)], args := [d1, d2, d3, d4, d5] }
  | _ => none }
def DeciBackWrongFalsely : Prop := deciBackRow.holds Try.pinned (OpenSpec.ofChange deciBackWrong)

/-- 'sieveholeslaw02.DeciKnown': WHATEVER THE INPUT: true; the input reads as it did. -/
def deciKnownSpec : ChangeSpec := { name := "deciKnown", fn := fun _ => fun
  | [] => { results := [.lit (.bool true)], args := [] }
  | _ => none }
def deciKnownRow : OpenClaim := { program := "ythnlknegnlmklaa", sum := "281b1623af315b75b7eef911949925dc42a8dccc627ea79573f8d7f8b520ac50", func := "sieveholes/sieveholeslaw02.DeciKnown", spec := "deciKnown", inPlace := ["math/bits.Add64"], unfollowed := true, recurses := true, named := ["math/bits.divideError", "math/bits.overflowError"], apart := false }
def DeciKnownSaid : Prop := deciKnownRow.holds Try.pinned (OpenSpec.ofChange deciKnownSpec)

/-- ITS FALSE NEIGHBOUR: 'it returns false'. Refute it at one input. -/
def deciKnownWrong : ChangeSpec := { name := "deciKnown", fn := fun _ => fun
  | [] => { results := [.lit (.bool false)], args := [] }
  | _ => none }
def DeciKnownWrongFalsely : Prop := deciKnownRow.holds Try.pinned (OpenSpec.ofChange deciKnownWrong)

/-- 'sieveholeslaw04.PosKnown': WHATEVER THE INPUT: true; the input reads as it did. -/
def posKnownSpec : ChangeSpec := { name := "posKnown", fn := fun _ => fun
  | [] => { results := [.lit (.bool true)], args := [] }
  | _ => none }
def posKnownRow : OpenClaim := { program := "ythnlknegnlmklaa", sum := "281b1623af315b75b7eef911949925dc42a8dccc627ea79573f8d7f8b520ac50", func := "sieveholes/sieveholeslaw04.PosKnown", spec := "posKnown", inPlace := ["internal/bytealg.CountString", "internal/bytealg.IndexByteString", "internal/bytealg.IndexString", "math/bits.Add64"], unfollowed := true, recurses := true, named := ["internal/bytealg.MaxLen"], apart := false }
def PosKnownSaid : Prop := posKnownRow.holds Try.pinned (OpenSpec.ofChange posKnownSpec)

/-- ITS FALSE NEIGHBOUR: 'it returns false'. Refute it at one input. -/
def posKnownWrong : ChangeSpec := { name := "posKnown", fn := fun _ => fun
  | [] => { results := [.lit (.bool false)], args := [] }
  | _ => none }
def PosKnownWrongFalsely : Prop := posKnownRow.holds Try.pinned (OpenSpec.ofChange posKnownWrong)

/- THE SECOND FORM. 'bulk': how many values and letters a reading holds, each counted each time it is reached (what is shared counts as often as it is met; a slice's spare places count too). A statement '..UptoSaid' is the law's where the arguments, and the package variables that the reading takes, are together of bulk at most 1048576: NARROWER than '..Said'. Prove '..Said' where nothing that the law and all that it calls make is longer than what came in: it says more and counts as full. Else prove '..UptoSaid'. A law counts once. -/
mutual
def uptoBulk {H : Type} : DataW H → Nat
  | .lit (.string bytes) => bytes.length + 1
  | .lit _ => 1
  | .nil => 1
  | .ptr d => uptoBulk d + 1
  | .slice elems spare => uptoBulkAll elems + uptoBulkAll spare + 1
  | .agg parts => uptoBulkAll parts + 1
  | .iface _ d => uptoBulk d + 1
  | .map entries => uptoBulkEntries entries + 1
  | .held _ => 1
def uptoBulkAll {H : Type} : List (DataW H) → Nat
  | [] => 0
  | d :: r => uptoBulk d + uptoBulkAll r
def uptoBulkEntries {H : Type} : List (Lit × DataW H) → Nat
  | [] => 0
  | x :: r => uptoBulkEntry x + uptoBulkEntries r
def uptoBulkEntry {H : Type} : Lit × DataW H → Nat
  | (.string bytes, d) => bytes.length + uptoBulk d + 1
  | (_, d) => uptoBulk d + 1
 end
def uptoSmall : (H : Type) → List (DataW H) → Bool := fun _ ds => decide (uptoBulkAll ds ≤ 1048576)
def OpenSpec.upto (s : _root_.Go.ChangeSpec) : _root_.Go.OpenSpec := { _root_.Go.OpenSpec.ofChange s with cond := some uptoSmall }

/-- 'sieveholeslaw04.PosPlaces', WHERE WHAT IT READS IS OF BULK AT MOST 1048576: true; the input reads as it did. -/
def posPlacesUptoRow : OpenClaim := { program := "ythnlknegnlmklaa", sum := "281b1623af315b75b7eef911949925dc42a8dccc627ea79573f8d7f8b520ac50", func := "sieveholes/sieveholeslaw04.PosPlaces", spec := "posPlaces", inPlace := ["internal/bytealg.CountString", "internal/bytealg.IndexByteString", "internal/bytealg.IndexString"], unfollowed := true, recurses := true, named := ["internal/bytealg.MaxLen"], apart := false, narrowed := true }
def PosPlacesUptoSaid : Prop := posPlacesUptoRow.holds Try.pinned (OpenSpec.upto posPlacesSpec)

/-- 'sieveholeslaw02.DeciDivides', WHERE WHAT IT READS IS OF BULK AT MOST 1048576: true; the input reads as it did. -/
def deciDividesUptoRow : OpenClaim := { program := "ythnlknegnlmklaa", sum := "281b1623af315b75b7eef911949925dc42a8dccc627ea79573f8d7f8b520ac50", func := "sieveholes/sieveholeslaw02.DeciDivides", spec := "deciDivides", inPlace := ["math/bits.Add64"], unfollowed := true, recurses := true, named := ["math/bits.divideError", "math/bits.overflowError"], apart := false, narrowed := true }
def DeciDividesUptoSaid : Prop := deciDividesUptoRow.holds Try.pinned (OpenSpec.upto deciDividesSpec)

/-- 'sieveholeslaw02.DeciTexts', WHERE WHAT IT READS IS OF BULK AT MOST 1048576: true; the input reads as it did. -/
def deciTextsUptoRow : OpenClaim := { program := "ythnlknegnlmklaa", sum := "281b1623af315b75b7eef911949925dc42a8dccc627ea79573f8d7f8b520ac50", func := "sieveholes/sieveholeslaw02.DeciTexts", spec := "deciTexts", inPlace := ["math/bits.Add64"], unfollowed := true, recurses := true, named := ["math/bits.divideError", "math/bits.overflowError"], apart := false, narrowed := true }
def DeciTextsUptoSaid : Prop := deciTextsUptoRow.holds Try.pinned (OpenSpec.upto deciTextsSpec)

/-- 'sieveholeslaw02.DeciReads', WHERE WHAT IT READS IS OF BULK AT MOST 1048576: true; the input reads as it did. -/
def deciReadsUptoRow : OpenClaim := { program := "ythnlknegnlmklaa", sum := "281b1623af315b75b7eef911949925dc42a8dccc627ea79573f8d7f8b520ac50", func := "sieveholes/sieveholeslaw02.DeciReads", spec := "deciReads", inPlace := ["math/bits.Add64"], unfollowed := true, recurses := true, named := ["math/bits.divideError", "math/bits.overflowError"], apart := false, narrowed := true }
def DeciReadsUptoSaid : Prop := deciReadsUptoRow.holds Try.pinned (OpenSpec.upto deciReadsSpec)

/-- 'sieveholeslaw02.DeciBack', WHERE WHAT IT READS IS OF BULK AT MOST 1048576: true; the input reads as it did. -/
def deciBackUptoRow : OpenClaim := { program := "ythnlknegnlmklaa", sum := "281b1623af315b75b7eef911949925dc42a8dccc627ea79573f8d7f8b520ac50", func := "sieveholes/sieveholeslaw02.DeciBack", spec := "deciBack", inPlace := ["math/bits.Add64"], unfollowed := true, recurses := true, named := ["math/bits.divideError", "math/bits.overflowError"], apart := false, narrowed := true }
def DeciBackUptoSaid : Prop := deciBackUptoRow.holds Try.pinned (OpenSpec.upto deciBackSpec)

/-- 'sieveholeslaw02.DeciKnown', WHERE WHAT IT READS IS OF BULK AT MOST 1048576: true; the input reads as it did. -/
def deciKnownUptoRow : OpenClaim := { program := "ythnlknegnlmklaa", sum := "281b1623af315b75b7eef911949925dc42a8dccc627ea79573f8d7f8b520ac50", func := "sieveholes/sieveholeslaw02.DeciKnown", spec := "deciKnown", inPlace := ["math/bits.Add64"], unfollowed := true, recurses := true, named := ["math/bits.divideError", "math/bits.overflowError"], apart := false, narrowed := true }
def DeciKnownUptoSaid : Prop := deciKnownUptoRow.holds Try.pinned (OpenSpec.upto deciKnownSpec)

/-- 'sieveholeslaw04.PosKnown', WHERE WHAT IT READS IS OF BULK AT MOST 1048576: true; the input reads as it did. -/
def posKnownUptoRow : OpenClaim := { program := "ythnlknegnlmklaa", sum := "281b1623af315b75b7eef911949925dc42a8dccc627ea79573f8d7f8b520ac50", func := "sieveholes/sieveholeslaw04.PosKnown", spec := "posKnown", inPlace := ["internal/bytealg.CountString", "internal/bytealg.IndexByteString", "internal/bytealg.IndexString", "math/bits.Add64"], unfollowed := true, recurses := true, named := ["internal/bytealg.MaxLen"], apart := false, narrowed := true }
def PosKnownUptoSaid : Prop := posKnownUptoRow.holds Try.pinned (OpenSpec.upto posKnownSpec)

end Rows
end Go.Proofs.Ythnlknegnlmklaa
