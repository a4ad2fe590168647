/-
  No cell of these rows narrows 'for every input' (looked for: loops, veiled, ifaces, maps, wideKeys, modest, calm, conditions, laid).
  DERIVED. THE GIVEN ROWS OF THIS SEAT. 6 by the template 'for every input the law returns true; each argument reads behind the call as it read before'; 0 by the template 'total and deterministic' (their statements: YteoodmilcpmmpaaGreatTotals.lean).
  GIVEN WITH THE SEED: the statements are not yours to turn. If you find one false, say at which input.
  Laid BY PROGRAM, IN A SANDBOX (cutbox-rows.mjs): the forced cells as the released guide's own fill.sh prints them over the translation fe9a24ee37c3e95b… (all of the seat's roots in one cut). By AI agents, Wed Nov 11 2026. No macro, syntax, notation, axiom, sorry.
-/
import Derived.Test.YteoodmilcpmmpaaGreatChecked
import GoSem.Claim
import GoSem.ClaimJoined
import GoSem.ClaimMapViews
import Derived.JoinedTies
import Derived.KernelRfl
namespace Go.Proofs.YteoodmilcpmmpaaGreat
/- THE CELL 'sum', in the pinned program and in every row, IS THE sha256 OF THE DUMP (.gsa) THAT YteoodmilcpmmpaaGreatProg.lean LOADS. Nothing in Lean hashes anything: it is a label: what it is worth is what the hold of that sum in a sandbox is worth. -/
noncomputable def Tryz.pinned : Pinned := { name := "yteoodmilcpmmpaagreat", sum := "fe9a24ee37c3e95b700ece8847e68dabbc38d0e7d38eae05967c6c440460a6ff", checked := Tryz.checked }
namespace Rows
def none {H : Type} : Left H := { results := [], args := [] }

/-- 'octavolaw17.AnchorTells': WHATEVER THE INPUT: true; the input reads as it did. -/
def anchorTellsSpec : ChangeSpec := { name := "anchorTells", fn := fun _ => fun
  | [d1, d2, d3, d4] => { results := [.lit (.bool true)], args := [d1, d2, d3, d4] }
  | _ => none }
def anchorTellsRow : OpenClaim := { program := "yteoodmilcpmmpaagreat", sum := "fe9a24ee37c3e95b700ece8847e68dabbc38d0e7d38eae05967c6c440460a6ff", func := "octavo/octavolaw17.AnchorTells", spec := "anchorTells", unfollowed := true, recurses := true, plainKeys := false, apart := false }
def AnchorTellsSaid : Prop := anchorTellsRow.holds Tryz.pinned (OpenSpec.ofChange anchorTellsSpec)

/-- ITS FALSE NEIGHBOUR: 'it returns false'. Refute it at one input. -/
def anchorTellsWrong : ChangeSpec := { name := "anchorTells", fn := fun _ => fun
  | [d1, d2, d3, d4] => { results := [.lit (.bool false)], args := [d1, d2, d3, d4] }
  | _ => none }
def AnchorTellsWrongFalsely : Prop := anchorTellsRow.holds Tryz.pinned (OpenSpec.ofChange anchorTellsWrong)

/-- 'octavolaw17.AnchorBack': WHATEVER THE INPUT: true; the input reads as it did. -/
def anchorBackSpec : ChangeSpec := { name := "anchorBack", fn := fun _ => fun
  | [d1, d2, d3, d4] => { results := [.lit (.bool true)], args := [d1, d2, d3, d4] }
  | _ => none }
def anchorBackRow : OpenClaim := { program := "yteoodmilcpmmpaagreat", sum := "fe9a24ee37c3e95b700ece8847e68dabbc38d0e7d38eae05967c6c440460a6ff", func := "octavo/octavolaw17.AnchorBack", spec := "anchorBack", inPlace := ["slices.overlaps[octavo/api.Op]"], unfollowed := true, recurses := true, plainKeys := false, apart := false }
def AnchorBackSaid : Prop := anchorBackRow.holds Tryz.pinned (OpenSpec.ofChange anchorBackSpec)

/-- ITS FALSE NEIGHBOUR: 'it returns false'. Refute it at one input. -/
def anchorBackWrong : ChangeSpec := { name := "anchorBack", fn := fun _ => fun
  | [d1, d2, d3, d4] => { results := [.lit (.bool false)], args := [d1, d2, d3, d4] }
  | _ => none }
def AnchorBackWrongFalsely : Prop := anchorBackRow.holds Tryz.pinned (OpenSpec.ofChange anchorBackWrong)

/-- 'octavolaw20.ShiftNames': WHATEVER THE INPUT: true; the input reads as it did. -/
def shiftNamesSpec : ChangeSpec := { name := "shiftNames", fn := fun _ => fun
  | [] => { results := [.lit (.bool true)], args := [] }
  | _ => none }
def shiftNamesRow : OpenClaim := { program := "yteoodmilcpmmpaagreat", sum := "fe9a24ee37c3e95b700ece8847e68dabbc38d0e7d38eae05967c6c440460a6ff", func := "octavo/octavolaw20.ShiftNames", spec := "shiftNames", inPlace := ["slices.overlaps[octavo/api.Entry]", "slices.overlaps[octavo/api.Op]"], unfollowed := true, recurses := true, plainKeys := false, apart := false }
def ShiftNamesSaid : Prop := shiftNamesRow.holds Tryz.pinned (OpenSpec.ofChange shiftNamesSpec)

/-- ITS FALSE NEIGHBOUR: 'it returns false'. Refute it at one input. -/
def shiftNamesWrong : ChangeSpec := { name := "shiftNames", fn := fun _ => fun
  | [] => { results := [.lit (.bool false)], args := [] }
  | _ => none }
def ShiftNamesWrongFalsely : Prop := shiftNamesRow.holds Tryz.pinned (OpenSpec.ofChange shiftNamesWrong)

/-- 'octavolaw20.ShiftTells': WHATEVER THE INPUT: true; the input reads as it did. -/
def shiftTellsSpec : ChangeSpec := { name := "shiftTells", fn := fun _ => fun
  | [d1, d2, d3] => { results := [.lit (.bool true)], args := [d1, d2, d3] }
  | _ => none }
def shiftTellsRow : OpenClaim := { program := "yteoodmilcpmmpaagreat", sum := "fe9a24ee37c3e95b700ece8847e68dabbc38d0e7d38eae05967c6c440460a6ff", func := "octavo/octavolaw20.ShiftTells", spec := "shiftTells", inPlace := ["slices.overlaps[octavo/api.Entry]", "slices.overlaps[octavo/api.Op]"], unfollowed := true, recurses := true, plainKeys := false, apart := false }
def ShiftTellsSaid : Prop := shiftTellsRow.holds Tryz.pinned (OpenSpec.ofChange shiftTellsSpec)

/-- ITS FALSE NEIGHBOUR: 'it returns false'. Refute it at one input. -/
def shiftTellsWrong : ChangeSpec := { name := "shiftTells", fn := fun _ => fun
  | [d1, d2, d3] => { results := [.lit (.bool false)], args := [d1, d2, d3] }
  | _ => none }
def ShiftTellsWrongFalsely : Prop := shiftTellsRow.holds Tryz.pinned (OpenSpec.ofChange shiftTellsWrong)

/-- 'octavolaw20.ShiftFits': WHATEVER THE INPUT: true; the input reads as it did. -/
def shiftFitsSpec : ChangeSpec := { name := "shiftFits", fn := fun _ => fun
  | [d1, d2, d3] => { results := [.lit (.bool true)], args := [d1, d2, d3] }
  | _ => none }
def shiftFitsRow : OpenClaim := { program := "yteoodmilcpmmpaagreat", sum := "fe9a24ee37c3e95b700ece8847e68dabbc38d0e7d38eae05967c6c440460a6ff", func := "octavo/octavolaw20.ShiftFits", spec := "shiftFits", inPlace := ["slices.overlaps[octavo/api.Entry]", "slices.overlaps[octavo/api.Op]"], unfollowed := true, recurses := true, plainKeys := false, apart := false }
def ShiftFitsSaid : Prop := shiftFitsRow.holds Tryz.pinned (OpenSpec.ofChange shiftFitsSpec)

/-- ITS FALSE NEIGHBOUR: 'it returns false'. Refute it at one input. -/
def shiftFitsWrong : ChangeSpec := { name := "shiftFits", fn := fun _ => fun
  | [d1, d2, d3] => { results := [.lit (.bool false)], args := [d1, d2, d3] }
  | _ => none }
def ShiftFitsWrongFalsely : Prop := shiftFitsRow.holds Tryz.pinned (OpenSpec.ofChange shiftFitsWrong)

/-- 'octavolaw20.ShiftReady': WHATEVER THE INPUT: true; the input reads as it did. -/
def shiftReadySpec : ChangeSpec := { name := "shiftReady", fn := fun _ => fun
  | [d1, d2, d3, d4] => { results := [.lit (.bool true)], args := [d1, d2, d3, d4] }
  | _ => none }
def shiftReadyRow : OpenClaim := { program := "yteoodmilcpmmpaagreat", sum := "fe9a24ee37c3e95b700ece8847e68dabbc38d0e7d38eae05967c6c440460a6ff", func := "octavo/octavolaw20.ShiftReady", spec := "shiftReady", inPlace := ["slices.overlaps[octavo/api.Entry]", "slices.overlaps[octavo/api.Op]"], unfollowed := true, recurses := true, plainKeys := false, apart := false }
def ShiftReadySaid : Prop := shiftReadyRow.holds Tryz.pinned (OpenSpec.ofChange shiftReadySpec)

/-- ITS FALSE NEIGHBOUR: 'it returns false'. Refute it at one input. -/
def shiftReadyWrong : ChangeSpec := { name := "shiftReady", fn := fun _ => fun
  | [d1, d2, d3, d4] => { results := [.lit (.bool false)], args := [d1, d2, d3, d4] }
  | _ => none }
def ShiftReadyWrongFalsely : Prop := shiftReadyRow.holds Tryz.pinned (OpenSpec.ofChange shiftReadyWrong)

/- THE SECOND FORM. 'bulk': how many values and letters a reading holds, each counted each time it is reached (what is shared counts as often as it is met; a slice's spare places count too). A statement '..UptoSaid' is the law's where the arguments, and the package variables that the reading takes, are together of bulk at most 1048576: NARROWER than '..Said'. Prove '..Said' where nothing that the law and all that it calls make is longer than what came in: it says more and counts as full. Else prove '..UptoSaid'. A law counts once. -/
mutual
def uptoBulk {H : Type} : DataW H → Nat
  | .lit (.string bytes) => bytes.length + 1
  | .lit _ => 1
  | .nil => 1
  | .ptr d => uptoBulk d + 1
  | .slice elems spare => uptoBulkAll elems + uptoBulkAll spare + 1
  | .agg parts => uptoBulkAll parts + 1
  | .iface _ d => uptoBulk d + 1
  | .map entries => uptoBulkEntries entries + 1
  | .held _ => 1
def uptoBulkAll {H : Type} : List (DataW H) → Nat
  | [] => 0
  | d :: r => uptoBulk d + uptoBulkAll r
def uptoBulkEntries {H : Type} : List (Lit × DataW H) → Nat
  | [] => 0
  | x :: r => uptoBulkEntry x + uptoBulkEntries r
def uptoBulkEntry {H : Type} : Lit × DataW H → Nat
  | (.string bytes, d) => bytes.length + uptoBulk d + 1
  | (_, d) => uptoBulk d + 1
 end
def uptoSmall : (H : Type) → List (DataW H) → Bool := fun _ ds => decide (uptoBulkAll ds ≤ 1048576)
def OpenSpec.upto (s : _root_.Go.ChangeSpec) : _root_.Go.OpenSpec := { _root_.Go.OpenSpec.ofChange s with cond := some uptoSmall }

/-- 'octavolaw17.AnchorTells', WHERE WHAT IT READS IS OF BULK AT MOST 1048576: true; the input reads as it did. -/
def anchorTellsUptoRow : OpenClaim := { program := "yteoodmilcpmmpaagreat", sum := "fe9a24ee37c3e95b700ece8847e68dabbc38d0e7d38eae05967c6c440460a6ff", func := "octavo/octavolaw17.AnchorTells", spec := "anchorTells", unfollowed := true, recurses := true, plainKeys := false, apart := false, narrowed := true }
def AnchorTellsUptoSaid : Prop := anchorTellsUptoRow.holds Tryz.pinned (OpenSpec.upto anchorTellsSpec)

/-- 'octavolaw17.AnchorBack', WHERE WHAT IT READS IS OF BULK AT MOST 1048576: true; the input reads as it did. -/
def anchorBackUptoRow : OpenClaim := { program := "yteoodmilcpmmpaagreat", sum := "fe9a24ee37c3e95b700ece8847e68dabbc38d0e7d38eae05967c6c440460a6ff", func := "octavo/octavolaw17.AnchorBack", spec := "anchorBack", inPlace := ["slices.overlaps[octavo/api.Op]"], unfollowed := true, recurses := true, plainKeys := false, apart := false, narrowed := true }
def AnchorBackUptoSaid : Prop := anchorBackUptoRow.holds Tryz.pinned (OpenSpec.upto anchorBackSpec)

/-- 'octavolaw20.ShiftNames', WHERE WHAT IT READS IS OF BULK AT MOST 1048576: true; the input reads as it did. -/
def shiftNamesUptoRow : OpenClaim := { program := "yteoodmilcpmmpaagreat", sum := "fe9a24ee37c3e95b700ece8847e68dabbc38d0e7d38eae05967c6c440460a6ff", func := "octavo/octavolaw20.ShiftNames", spec := "shiftNames", inPlace := ["slices.overlaps[octavo/api.Entry]", "slices.overlaps[octavo/api.Op]"], unfollowed := true, recurses := true, plainKeys := false, apart := false, narrowed := true }
def ShiftNamesUptoSaid : Prop := shiftNamesUptoRow.holds Tryz.pinned (OpenSpec.upto shiftNamesSpec)

/-- 'octavolaw20.ShiftTells', WHERE WHAT IT READS IS OF BULK AT MOST 1048576: true; the input reads as it did. -/
def shiftTellsUptoRow : OpenClaim := { program := "yteoodmilcpmmpaagreat", sum := "fe9a24ee37c3e95b700ece8847e68dabbc38d0e7d38eae05967c6c440460a6ff", func := "octavo/octavolaw20.ShiftTells", spec := "shiftTells", inPlace := ["slices.overlaps[octavo/api.Entry]", "slices.overlaps[octavo/api.Op]"], unfollowed := true, recurses := true, plainKeys := false, apart := false, narrowed := true }
def ShiftTellsUptoSaid : Prop := shiftTellsUptoRow.holds Tryz.pinned (OpenSpec.upto shiftTellsSpec)

/-- 'octavolaw20.ShiftFits', WHERE WHAT IT READS IS OF BULK AT MOST 1048576: true; the input reads as it did. -/
def shiftFitsUptoRow : OpenClaim := { program := "yteoodmilcpmmpaagreat", sum := "fe9a24ee37c3e95b700ece8847e68dabbc38d0e7d38eae05967c6c440460a6ff", func := "octavo/octavolaw20.ShiftFits", spec := "shiftFits", inPlace := ["slices.overlaps[octavo/api.Entry]", "slices.overlaps[octavo/api.Op]"], unfollowed := true, recurses := true, plainKeys := false, apart := false, narrowed := true }
def ShiftFitsUptoSaid : Prop := shiftFitsUptoRow.holds Tryz.pinned (OpenSpec.upto shiftFitsSpec)

/-- 'octavolaw20.ShiftReady', WHERE WHAT IT READS IS OF BULK AT MOST 1048576: true; the input reads as it did. -/
def shiftReadyUptoRow : OpenClaim := { program := "yteoodmilcpmmpaagreat", sum := "fe9a24ee37c3e95b700ece8847e68dabbc38d0e7d38eae05967c6c440460a6ff", func := "octavo/octavolaw20.ShiftReady", spec := "shiftReady", inPlace := ["slices.overlaps[octavo/api.Entry]", "slices.overlaps[octavo/api.Op]"], unfollowed := true, recurses := true, plainKeys := false, apart := false, narrowed := true }
def ShiftReadyUptoSaid : Prop := shiftReadyUptoRow.holds Tryz.pinned (OpenSpec.upto shiftReadySpec)

end Rows
end Go.Proofs.YteoodmilcpmmpaaGreat
