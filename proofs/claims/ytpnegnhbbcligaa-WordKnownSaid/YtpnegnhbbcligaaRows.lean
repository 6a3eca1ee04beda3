/-
  No cell of these rows narrows 'for every input' (looked for: loops, veiled, ifaces, maps, wideKeys, modest, calm, conditions, laid).
  DERIVED. THE GIVEN ROWS OF THIS SEAT. 12 by the template 'for every input the law returns true; each argument reads behind the call as it read before'; 0 by the template 'total and deterministic' (their statements: YtpnegnhbbcligaaTotals.lean).
  GIVEN WITH THE SEED: the statements are not yours to turn. If you find one false, say at which input.
  Laid BY PROGRAM, IN A SANDBOX (cutbox-rows.mjs): the forced cells as the released guide's own fill.sh prints them over the translation 29f280ada57f5b13… (all of the seat's roots in one cut). By AI agents, Wed Nov 11 2026. No macro, syntax, notation, axiom, sorry.
-/
import Derived.Test.YtpnegnhbbcligaaChecked
import GoSem.Claim
import GoSem.ClaimJoined
import GoSem.ClaimMapViews
import Derived.JoinedTies
import Derived.KernelRfl
namespace Go.Proofs.Ytpnegnhbbcligaa
/- THE CELL 'sum', in the pinned program and in every row, IS THE sha256 OF THE DUMP (.gsa) THAT YtpnegnhbbcligaaProg.lean LOADS. Nothing in Lean hashes anything: it is a label: what it is worth is what the hold of that sum in a sandbox is worth. -/
noncomputable def Try.pinned : Pinned := { name := "ytpnegnhbbcligaa", sum := "29f280ada57f5b13b729a0931807327314d273acc9ea4d820edd72cb5d52a2af", checked := Try.checked }
namespace Rows
def none {H : Type} : Left H := { results := [], args := [] }

/-- 'sieveholeslaw19.InterJoins': WHATEVER THE INPUT: true; the input reads as it did. -/
def interJoinsSpec : ChangeSpec := { name := "interJoins", fn := fun _ => fun
  | [d1, d2, d3] => { results := [.lit (.bool true)], args := [d1, d2, d3] }
  | _ => none }
def interJoinsRow : OpenClaim := { program := "ytpnegnhbbcligaa", sum := "29f280ada57f5b13b729a0931807327314d273acc9ea4d820edd72cb5d52a2af", func := "sieveholes/sieveholeslaw19.InterJoins", spec := "interJoins", unfollowed := true, recurses := true, apart := false }
def InterJoinsSaid : Prop := interJoinsRow.holds Try.pinned (OpenSpec.ofChange interJoinsSpec)

/-- ITS FALSE NEIGHBOUR: 'it returns false'. Refute it at one input. -/
def interJoinsWrong : ChangeSpec := { name := "interJoins", fn := fun _ => fun
  | [d1, d2, d3] => { results := [.lit (.bool false)], args := [d1, d2, d3] }
  | _ => none }
def InterJoinsWrongFalsely : Prop := interJoinsRow.holds Try.pinned (OpenSpec.ofChange interJoinsWrong)

/-- 'sieveholeslaw19.InterLattice': WHATEVER THE INPUT: true; the input reads as it did. -/
def interLatticeSpec : ChangeSpec := { name := "interLattice", fn := fun _ => fun
  | [d1, d2, d3, d4, d5] => { results := [.lit (.bool true)], args := [d1, d2, d3, d4, d5] }
  | _ => none }
def interLatticeRow : OpenClaim := { program := "ytpnegnhbbcligaa", sum := "29f280ada57f5b13b729a0931807327314d273acc9ea4d820edd72cb5d52a2af", func := "sieveholes/sieveholeslaw19.InterLattice", spec := "interLattice", unfollowed := true, recurses := true, apart := false }
def InterLatticeSaid : Prop := interLatticeRow.holds Try.pinned (OpenSpec.ofChange interLatticeSpec)

/-- ITS FALSE NEIGHBOUR: 'it returns false'. Refute it at one input. -/
def interLatticeWrong : ChangeSpec := { name := "interLattice", fn := fun _ => fun
  | [d1, d2, d3, d4, d5] => { results := [.lit (.bool false)], args := [d1, d2, d3, d4, d5] }
  | _ => none }
def InterLatticeWrongFalsely : Prop := interLatticeRow.holds Try.pinned (OpenSpec.ofChange interLatticeWrong)

/-- 'sieveholeslaw19.InterTells': WHATEVER THE INPUT: true; the input reads as it did. -/
def interTellsSpec : ChangeSpec := { name := "interTells", fn := fun _ => fun
  | [d1, d2, d3] => { results := [.lit (.bool true)], args := [d1, d2, d3] }
  | _ => none }
def interTellsRow : OpenClaim := { program := "ytpnegnhbbcligaa", sum := "29f280ada57f5b13b729a0931807327314d273acc9ea4d820edd72cb5d52a2af", func := "sieveholes/sieveholeslaw19.InterTells", spec := "interTells", unfollowed := true, recurses := true, apart := false }
def InterTellsSaid : Prop := interTellsRow.holds Try.pinned (OpenSpec.ofChange interTellsSpec)

/-- ITS FALSE NEIGHBOUR: 'it returns false'. Refute it at one input. -/
def interTellsWrong : ChangeSpec := { name := "interTells", fn := fun _ => fun
  | [d1, d2, d3] => { results := [.lit (.bool false)], args := [d1, d2, d3] }
  | _ => none }
def InterTellsWrongFalsely : Prop := interTellsRow.holds Try.pinned (OpenSpec.ofChange interTellsWrong)

/-- 'sieveholeslaw19.InterKnown': WHATEVER THE INPUT: true; the input reads as it did. -/
def interKnownSpec : ChangeSpec := { name := "interKnown", fn := fun _ => fun
  | [] => { results := [.lit (.bool true)], args := [] }
  | _ => none }
def interKnownRow : OpenClaim := { program := "ytpnegnhbbcligaa", sum := "29f280ada57f5b13b729a0931807327314d273acc9ea4d820edd72cb5d52a2af", func := "sieveholes/sieveholeslaw19.InterKnown", spec := "interKnown", unfollowed := true, recurses := true, apart := false }
def InterKnownSaid : Prop := interKnownRow.holds Try.pinned (OpenSpec.ofChange interKnownSpec)

/-- ITS FALSE NEIGHBOUR: 'it returns false'. Refute it at one input. -/
def interKnownWrong : ChangeSpec := { name := "interKnown", fn := fun _ => fun
  | [] => { results := [.lit (.bool false)], args := [] }
  | _ => none }
def InterKnownWrongFalsely : Prop := interKnownRow.holds Try.pinned (OpenSpec.ofChange interKnownWrong)

/-- 'sieveholeslaw09.WordDoes': WHATEVER THE INPUT: true; the input reads as it did. -/
def wordDoesSpec : ChangeSpec := { name := "wordDoes", fn := fun _ => fun
  | [d1, d2, d3] => { results := [.lit (.bool true)], args := [d1, d2, d3] }
  | _ => none }
def wordDoesRow : OpenClaim := { program := "ytpnegnhbbcligaa", sum := "29f280ada57f5b13b729a0931807327314d273acc9ea4d820edd72cb5d52a2af", func := "sieveholes/sieveholeslaw09.WordDoes", spec := "wordDoes", unfollowed := true, recurses := true, apart := false }
def WordDoesSaid : Prop := wordDoesRow.holds Try.pinned (OpenSpec.ofChange wordDoesSpec)

/-- ITS FALSE NEIGHBOUR: 'it returns false'. Refute it at one input. -/
def wordDoesWrong : ChangeSpec := { name := "wordDoes", fn := fun _ => fun
  | [d1, d2, d3] => { results := [.lit (.bool false)], args := [d1, d2, d3] }
  | _ => none }
def WordDoesWrongFalsely : Prop := wordDoesRow.holds Try.pinned (OpenSpec.ofChange wordDoesWrong)

/-- 'sieveholeslaw09.WordLaws': WHATEVER THE INPUT: true; the input reads as it did. -/
def wordLawsSpec : ChangeSpec := { name := "wordLaws", fn := fun _ => fun
  | [d1, d2] => { results := [.lit (.bool true)], args := [d1, d2] }
  | _ => none }
def wordLawsRow : OpenClaim := { program := "ytpnegnhbbcligaa", sum := "29f280ada57f5b13b729a0931807327314d273acc9ea4d820edd72cb5d52a2af", func := "sieveholes/sieveholeslaw09.WordLaws", spec := "wordLaws", unfollowed := true, recurses := true, apart := false }
def WordLawsSaid : Prop := wordLawsRow.holds Try.pinned (OpenSpec.ofChange wordLawsSpec)

/-- ITS FALSE NEIGHBOUR: 'it returns false'. Refute it at one input. -/
def wordLawsWrong : ChangeSpec := { name := "wordLaws", fn := fun _ => fun
  | [d1, d2] => { results := [.lit (.bool false)], args := [d1, d2] }
  | _ => none }
def WordLawsWrongFalsely : Prop := wordLawsRow.holds Try.pinned (OpenSpec.ofChange wordLawsWrong)

/-- 'sieveholeslaw09.WordKnown': WHATEVER THE INPUT: true; the input reads as it did. -/
def wordKnownSpec : ChangeSpec := { name := "wordKnown", fn := fun _ => fun
  | [] => { results := [.lit (.bool true)], args := [] }
  | _ => none }
def wordKnownRow : OpenClaim := { program := "ytpnegnhbbcligaa", sum := "29f280ada57f5b13b729a0931807327314d273acc9ea4d820edd72cb5d52a2af", func := "sieveholes/sieveholeslaw09.WordKnown", spec := "wordKnown", unfollowed := true, recurses := true, apart := false }
def WordKnownSaid : Prop := wordKnownRow.holds Try.pinned (OpenSpec.ofChange wordKnownSpec)

/-- ITS FALSE NEIGHBOUR: 'it returns false'. Refute it at one input. -/
def wordKnownWrong : ChangeSpec := { name := "wordKnown", fn := fun _ => fun
  | [] => { results := [.lit (.bool false)], args := [] }
  | _ => none }
def WordKnownWrongFalsely : Prop := wordKnownRow.holds Try.pinned (OpenSpec.ofChange wordKnownWrong)

/-- 'sieveholeslaw20.CongMakes': WHATEVER THE INPUT: true; the input reads as it did. -/
def congMakesSpec : ChangeSpec := { name := "congMakes", fn := fun _ => fun
  | [d1, d2, d3, d4] => { results := [.lit (.bool true)], args := [d1, d2, d3, d4] }
  | _ => none }
def congMakesRow : OpenClaim := { program := "ytpnegnhbbcligaa", sum := "29f280ada57f5b13b729a0931807327314d273acc9ea4d820edd72cb5d52a2af", func := "sieveholes/sieveholeslaw20.CongMakes", spec := "congMakes", inPlace := ["math/bits.Add64"], named := ["math/bits.divideError", "math/bits.overflowError"], apart := false }
def CongMakesSaid : Prop := congMakesRow.holds Try.pinned (OpenSpec.ofChange congMakesSpec)

/-- ITS FALSE NEIGHBOUR: 'it returns false'. Refute it at one input. -/
def congMakesWrong : ChangeSpec := { name := "congMakes", fn := fun _ => fun
  | [d1, d2, d3, d4] => { results := [.lit (.bool false)], args := [d1, d2, d3, d4] }
  | _ => none }
def CongMakesWrongFalsely : Prop := congMakesRow.holds Try.pinned (OpenSpec.ofChange congMakesWrong)

/-- 'sieveholeslaw20.CongOperates': WHATEVER THE INPUT: true; the input reads as it did. -/
def congOperatesSpec : ChangeSpec := { name := "congOperates", fn := fun _ => fun
  | [d1, d2] => { results := [.lit (.bool true)], args := [d1, d2] }
  | _ => none }
def congOperatesRow : OpenClaim := { program := "ytpnegnhbbcligaa", sum := "29f280ada57f5b13b729a0931807327314d273acc9ea4d820edd72cb5d52a2af", func := "sieveholes/sieveholeslaw20.CongOperates", spec := "congOperates", inPlace := ["math/bits.Add64"], recurses := true, named := ["math/bits.divideError", "math/bits.overflowError"], apart := false }
def CongOperatesSaid : Prop := congOperatesRow.holds Try.pinned (OpenSpec.ofChange congOperatesSpec)

/-- ITS FALSE NEIGHBOUR: 'it returns false'. Refute it at one input. -/
def congOperatesWrong : ChangeSpec := { name := "congOperates", fn := fun _ => fun
  | [d1, d2] => { results := [.lit (.bool false)], args := [d1, d2] }
  | _ => none }
def CongOperatesWrongFalsely : Prop := congOperatesRow.holds Try.pinned (OpenSpec.ofChange congOperatesWrong)

/-- 'sieveholeslaw20.CongSound': WHATEVER THE INPUT: true; the input reads as it did. -/
def congSoundSpec : ChangeSpec := { name := "congSound", fn := fun _ => fun
  | [d1, d2, d3, d4] => { results := [.lit (.bool true)], args := [d1, d2, d3, d4] }
  | _ => none }
def congSoundRow : OpenClaim := { program := "ytpnegnhbbcligaa", sum := "29f280ada57f5b13b729a0931807327314d273acc9ea4d820edd72cb5d52a2af", func := "sieveholes/sieveholeslaw20.CongSound", spec := "congSound", inPlace := ["math/bits.Add64"], named := ["math/bits.divideError", "math/bits.overflowError"], apart := false }
def CongSoundSaid : Prop := congSoundRow.holds Try.pinned (OpenSpec.ofChange congSoundSpec)

/-- ITS FALSE NEIGHBOUR: 'it returns false'. Refute it at one input. -/
def congSoundWrong : ChangeSpec := { name := "congSound", fn := fun _ => fun
  | [d1, d2, d3, d4] => { results := [.lit (.bool false)], args := [d1, d2, d3, d4] }
  | _ => none }
def CongSoundWrongFalsely : Prop := congSoundRow.holds Try.pinned (OpenSpec.ofChange congSoundWrong)

/-- 'sieveholeslaw20.CongCounts': WHATEVER THE INPUT: true; the input reads as it did. -/
def congCountsSpec : ChangeSpec := { name := "congCounts", fn := fun _ => fun
  | [d1, d2, d3] => { results := [.lit (.bool true)], args := [d1, d2, d3] }
  | _ => none }
def congCountsRow : OpenClaim := { program := "ytpnegnhbbcligaa", sum := "29f280ada57f5b13b729a0931807327314d273acc9ea4d820edd72cb5d52a2af", func := "sieveholes/sieveholeslaw20.CongCounts", spec := "congCounts", inPlace := ["math/bits.Add64"], named := ["math/bits.divideError", "math/bits.overflowError"], apart := false }
def CongCountsSaid : Prop := congCountsRow.holds Try.pinned (OpenSpec.ofChange congCountsSpec)

/-- ITS FALSE NEIGHBOUR: 'it returns false'. Refute it at one input. -/
def congCountsWrong : ChangeSpec := { name := "congCounts", fn := fun _ => fun
  | [d1, d2, d3] => { results := [.lit (.bool false)], args := [d1, d2, d3] }
  | _ => none }
def CongCountsWrongFalsely : Prop := congCountsRow.holds Try.pinned (OpenSpec.ofChange congCountsWrong)

/-- 'sieveholeslaw20.CongKnown': WHATEVER THE INPUT: true; the input reads as it did. -/
def congKnownSpec : ChangeSpec := { name := "congKnown", fn := fun _ => fun
  | [] => { results := [.lit (.bool true)], args := [] }
  | _ => none }
def congKnownRow : OpenClaim := { program := "ytpnegnhbbcligaa", sum := "29f280ada57f5b13b729a0931807327314d273acc9ea4d820edd72cb5d52a2af", func := "sieveholes/sieveholeslaw20.CongKnown", spec := "congKnown", inPlace := ["math/bits.Add64"], recurses := true, named := ["math/bits.divideError", "math/bits.overflowError"], apart := false }
def CongKnownSaid : Prop := congKnownRow.holds Try.pinned (OpenSpec.ofChange congKnownSpec)

/-- ITS FALSE NEIGHBOUR: 'it returns false'. Refute it at one input. -/
def congKnownWrong : ChangeSpec := { name := "congKnown", fn := fun _ => fun
  | [] => { results := [.lit (.bool false)], args := [] }
  | _ => none }
def CongKnownWrongFalsely : Prop := congKnownRow.holds Try.pinned (OpenSpec.ofChange congKnownWrong)

/- THE SECOND FORM. 'bulk': how many values and letters a reading holds, each counted each time it is reached (what is shared counts as often as it is met; a slice's spare places count too). A statement '..UptoSaid' is the law's where the arguments, and the package variables that the reading takes, are together of bulk at most 1048576: NARROWER than '..Said'. Prove '..Said' where nothing that the law and all that it calls make is longer than what came in: it says more and counts as full. Else prove '..UptoSaid'. A law counts once. -/
mutual
def uptoBulk {H : Type} : DataW H → Nat
  | .lit (.string bytes) => bytes.length + 1
  | .lit _ => 1
  | .nil => 1
  | .ptr d => uptoBulk d + 1
  | .slice elems spare => uptoBulkAll elems + uptoBulkAll spare + 1
  | .agg parts => uptoBulkAll parts + 1
  | .iface _ d => uptoBulk d + 1
  | .map entries => uptoBulkEntries entries + 1
  | .held _ => 1
def uptoBulkAll {H : Type} : List (DataW H) → Nat
  | [] => 0
  | d :: r => uptoBulk d + uptoBulkAll r
def uptoBulkEntries {H : Type} : List (Lit × DataW H) → Nat
  | [] => 0
  | x :: r => uptoBulkEntry x + uptoBulkEntries r
def uptoBulkEntry {H : Type} : Lit × DataW H → Nat
  | (.string bytes, d) => bytes.length + uptoBulk d + 1
  | (_, d) => uptoBulk d + 1
 end
def uptoSmall : (H : Type) → List (DataW H) → Bool := fun _ ds => decide (uptoBulkAll ds ≤ 1048576)
def OpenSpec.upto (s : _root_.Go.ChangeSpec) : _root_.Go.OpenSpec := { _root_.Go.OpenSpec.ofChange s with cond := some uptoSmall }

/-- 'sieveholeslaw19.InterJoins', WHERE WHAT IT READS IS OF BULK AT MOST 1048576: true; the input reads as it did. -/
def interJoinsUptoRow : OpenClaim := { program := "ytpnegnhbbcligaa", sum := "29f280ada57f5b13b729a0931807327314d273acc9ea4d820edd72cb5d52a2af", func := "sieveholes/sieveholeslaw19.InterJoins", spec := "interJoins", unfollowed := true, recurses := true, apart := false, narrowed := true }
def InterJoinsUptoSaid : Prop := interJoinsUptoRow.holds Try.pinned (OpenSpec.upto interJoinsSpec)

/-- 'sieveholeslaw19.InterLattice', WHERE WHAT IT READS IS OF BULK AT MOST 1048576: true; the input reads as it did. -/
def interLatticeUptoRow : OpenClaim := { program := "ytpnegnhbbcligaa", sum := "29f280ada57f5b13b729a0931807327314d273acc9ea4d820edd72cb5d52a2af", func := "sieveholes/sieveholeslaw19.InterLattice", spec := "interLattice", unfollowed := true, recurses := true, apart := false, narrowed := true }
def InterLatticeUptoSaid : Prop := interLatticeUptoRow.holds Try.pinned (OpenSpec.upto interLatticeSpec)

/-- 'sieveholeslaw19.InterTells', WHERE WHAT IT READS IS OF BULK AT MOST 1048576: true; the input reads as it did. -/
def interTellsUptoRow : OpenClaim := { program := "ytpnegnhbbcligaa", sum := "29f280ada57f5b13b729a0931807327314d273acc9ea4d820edd72cb5d52a2af", func := "sieveholes/sieveholeslaw19.InterTells", spec := "interTells", unfollowed := true, recurses := true, apart := false, narrowed := true }
def InterTellsUptoSaid : Prop := interTellsUptoRow.holds Try.pinned (OpenSpec.upto interTellsSpec)

/-- 'sieveholeslaw19.InterKnown', WHERE WHAT IT READS IS OF BULK AT MOST 1048576: true; the input reads as it did. -/
def interKnownUptoRow : OpenClaim := { program := "ytpnegnhbbcligaa", sum := "29f280ada57f5b13b729a0931807327314d273acc9ea4d820edd72cb5d52a2af", func := "sieveholes/sieveholeslaw19.InterKnown", spec := "interKnown", unfollowed := true, recurses := true, apart := false, narrowed := true }
def InterKnownUptoSaid : Prop := interKnownUptoRow.holds Try.pinned (OpenSpec.upto interKnownSpec)

/-- 'sieveholeslaw09.WordDoes', WHERE WHAT IT READS IS OF BULK AT MOST 1048576: true; the input reads as it did. -/
def wordDoesUptoRow : OpenClaim := { program := "ytpnegnhbbcligaa", sum := "29f280ada57f5b13b729a0931807327314d273acc9ea4d820edd72cb5d52a2af", func := "sieveholes/sieveholeslaw09.WordDoes", spec := "wordDoes", unfollowed := true, recurses := true, apart := false, narrowed := true }
def WordDoesUptoSaid : Prop := wordDoesUptoRow.holds Try.pinned (OpenSpec.upto wordDoesSpec)

/-- 'sieveholeslaw09.WordLaws', WHERE WHAT IT READS IS OF BULK AT MOST 1048576: true; the input reads as it did. -/
def wordLawsUptoRow : OpenClaim := { program := "ytpnegnhbbcligaa", sum := "29f280ada57f5b13b729a0931807327314d273acc9ea4d820edd72cb5d52a2af", func := "sieveholes/sieveholeslaw09.WordLaws", spec := "wordLaws", unfollowed := true, recurses := true, apart := false, narrowed := true }
def WordLawsUptoSaid : Prop := wordLawsUptoRow.holds Try.pinned (OpenSpec.upto wordLawsSpec)

/-- 'sieveholeslaw09.WordKnown', WHERE WHAT IT READS IS OF BULK AT MOST 1048576: true; the input reads as it did. -/
def wordKnownUptoRow : OpenClaim := { program := "ytpnegnhbbcligaa", sum := "29f280ada57f5b13b729a0931807327314d273acc9ea4d820edd72cb5d52a2af", func := "sieveholes/sieveholeslaw09.WordKnown", spec := "wordKnown", unfollowed := true, recurses := true, apart := false, narrowed := true }
def WordKnownUptoSaid : Prop := wordKnownUptoRow.holds Try.pinned (OpenSpec.upto wordKnownSpec)

/-- 'sieveholeslaw20.CongMakes', WHERE WHAT IT READS IS OF BULK AT MOST 1048576: true; the input reads as it did. -/
def congMakesUptoRow : OpenClaim := { program := "ytpnegnhbbcligaa", sum := "29f280ada57f5b13b729a0931807327314d273acc9ea4d820edd72cb5d52a2af", func := "sieveholes/sieveholeslaw20.CongMakes", spec := "congMakes", inPlace := ["math/bits.Add64"], named := ["math/bits.divideError", "math/bits.overflowError"], apart := false, narrowed := true }
def CongMakesUptoSaid : Prop := congMakesUptoRow.holds Try.pinned (OpenSpec.upto congMakesSpec)

/-- 'sieveholeslaw20.CongOperates', WHERE WHAT IT READS IS OF BULK AT MOST 1048576: true; the input reads as it did. -/
def congOperatesUptoRow : OpenClaim := { program := "ytpnegnhbbcligaa", sum := "29f280ada57f5b13b729a0931807327314d273acc9ea4d820edd72cb5d52a2af", func := "sieveholes/sieveholeslaw20.CongOperates", spec := "congOperates", inPlace := ["math/bits.Add64"], recurses := true, named := ["math/bits.divideError", "math/bits.overflowError"], apart := false, narrowed := true }
def CongOperatesUptoSaid : Prop := congOperatesUptoRow.holds Try.pinned (OpenSpec.upto congOperatesSpec)

/-- 'sieveholeslaw20.CongSound', WHERE WHAT IT READS IS OF BULK AT MOST 1048576: true; the input reads as it did. -/
def congSoundUptoRow : OpenClaim := { program := "ytpnegnhbbcligaa", sum := "29f280ada57f5b13b729a0931807327314d273acc9ea4d820edd72cb5d52a2af", func := "sieveholes/sieveholeslaw20.CongSound", spec := "congSound", inPlace := ["math/bits.Add64"], named := ["math/bits.divideError", "math/bits.overflowError"], apart := false, narrowed := true }
def CongSoundUptoSaid : Prop := congSoundUptoRow.holds Try.pinned (OpenSpec.upto congSoundSpec)

/-- 'sieveholeslaw20.CongCounts', WHERE WHAT IT READS IS OF BULK AT MOST 1048576: true; the input reads as it did. -/
def congCountsUptoRow : OpenClaim := { program := "ytpnegnhbbcligaa", sum := "29f280ada57f5b13b729a0931807327314d273acc9ea4d820edd72cb5d52a2af", func := "sieveholes/sieveholeslaw20.CongCounts", spec := "congCounts", inPlace := ["math/bits.Add64"], named := ["math/bits.divideError", "math/bits.overflowError"], apart := false, narrowed := true }
def CongCountsUptoSaid : Prop := congCountsUptoRow.holds Try.pinned (OpenSpec.upto congCountsSpec)

/-- 'sieveholeslaw20.CongKnown', WHERE WHAT IT READS IS OF BULK AT MOST 1048576: true; the input reads as it did. -/
def congKnownUptoRow : OpenClaim := { program := "ytpnegnhbbcligaa", sum := "29f280ada57f5b13b729a0931807327314d273acc9ea4d820edd72cb5d52a2af", func := "sieveholes/sieveholeslaw20.CongKnown", spec := "congKnown", inPlace := ["math/bits.Add64"], recurses := true, named := ["math/bits.divideError", "math/bits.overflowError"], apart := false, narrowed := true }
def CongKnownUptoSaid : Prop := congKnownUptoRow.holds Try.pinned (OpenSpec.upto congKnownSpec)

end Rows
end Go.Proofs.Ytpnegnhbbcligaa
