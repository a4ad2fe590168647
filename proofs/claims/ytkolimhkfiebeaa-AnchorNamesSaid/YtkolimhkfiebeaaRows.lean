/-
  No cell of these rows narrows 'for every input' (looked for: loops, veiled, ifaces, maps, wideKeys, modest, calm, conditions, laid).
  DERIVED. THE GIVEN ROWS OF THIS SEAT. 10 by the template 'for every input the law returns true; each argument reads behind the call as it read before'; 0 by the template 'total and deterministic' (their statements: YtkolimhkfiebeaaTotals.lean).
  GIVEN WITH THE SEED: the statements are not yours to turn. If you find one false, say at which input.
  Laid BY PROGRAM, IN A SANDBOX (cutbox-rows.mjs): the forced cells as the released guide's own fill.sh prints them over the translation f520fcb01d2ac4cc… (all of the seat's roots in one cut). By AI agents, Wed Nov 11 2026. No macro, syntax, notation, axiom, sorry.
-/
import Derived.Test.YtkolimhkfiebeaaChecked
import GoSem.Claim
import GoSem.ClaimJoined
import GoSem.ClaimMapViews
import Derived.JoinedTies
import Derived.KernelRfl
namespace Go.Proofs.Ytkolimhkfiebeaa
/- THE CELL 'sum', in the pinned program and in every row, IS THE sha256 OF THE DUMP (.gsa) THAT YtkolimhkfiebeaaProg.lean LOADS. Nothing in Lean hashes anything: it is a label: what it is worth is what the hold of that sum in a sandbox is worth. -/
noncomputable def Try.pinned : Pinned := { name := "ytkolimhkfiebeaa", sum := "f520fcb01d2ac4cc3fc8b333673a19420dcc1c1b55b62effff254f21468fffeb", checked := Try.checked }
namespace Rows
def none {H : Type} : Left H := { results := [], args := [] }

/-- 'octavolaw08.ClockJoins': WHATEVER THE INPUT: true; the input reads as it did. -/
def clockJoinsSpec : ChangeSpec := { name := "clockJoins", fn := fun _ => fun
  | [d1, d2] => { results := [.lit (.bool true)], args := [d1, d2] }
  | _ => none }
def clockJoinsRow : OpenClaim := { program := "ytkolimhkfiebeaa", sum := "f520fcb01d2ac4cc3fc8b333673a19420dcc1c1b55b62effff254f21468fffeb", func := "octavo/octavolaw08.ClockJoins", spec := "clockJoins", unfollowed := true, recurses := true, plainKeys := false, apart := false }
def ClockJoinsSaid : Prop := clockJoinsRow.holds Try.pinned (OpenSpec.ofChange clockJoinsSpec)

/-- ITS FALSE NEIGHBOUR: 'it returns false'. Refute it at one input. -/
def clockJoinsWrong : ChangeSpec := { name := "clockJoins", fn := fun _ => fun
  | [d1, d2] => { results := [.lit (.bool false)], args := [d1, d2] }
  | _ => none }
def ClockJoinsWrongFalsely : Prop := clockJoinsRow.holds Try.pinned (OpenSpec.ofChange clockJoinsWrong)

/-- 'octavolaw13.HomeTells': WHATEVER THE INPUT: true; the input reads as it did. -/
def homeTellsSpec : ChangeSpec := { name := "homeTells", fn := fun _ => fun
  | [d1, d2, d3] => { results := [.lit (.bool true)], args := [d1, d2, d3] }
  | _ => none }
def homeTellsRow : OpenClaim := { program := "ytkolimhkfiebeaa", sum := "f520fcb01d2ac4cc3fc8b333673a19420dcc1c1b55b62effff254f21468fffeb", func := "octavo/octavolaw13.HomeTells", spec := "homeTells", unfollowed := true, recurses := true, plainKeys := false, apart := false }
def HomeTellsSaid : Prop := homeTellsRow.holds Try.pinned (OpenSpec.ofChange homeTellsSpec)

/-- ITS FALSE NEIGHBOUR: 'it returns false'. Refute it at one input. -/
def homeTellsWrong : ChangeSpec := { name := "homeTells", fn := fun _ => fun
  | [d1, d2, d3] => { results := [.lit (.bool false)], args := [d1, d2, d3] }
  | _ => none }
def HomeTellsWrongFalsely : Prop := homeTellsRow.holds Try.pinned (OpenSpec.ofChange homeTellsWrong)

/-- 'octavolaw08.ClockIds': WHATEVER THE INPUT: true; the input reads as it did. -/
def clockIdsSpec : ChangeSpec := { name := "clockIds", fn := fun _ => fun
  | [d1, d2] => { results := [.lit (.bool true)], args := [d1, d2] }
  | _ => none }
def clockIdsRow : OpenClaim := { program := "ytkolimhkfiebeaa", sum := "f520fcb01d2ac4cc3fc8b333673a19420dcc1c1b55b62effff254f21468fffeb", func := "octavo/octavolaw08.ClockIds", spec := "clockIds", unfollowed := true, recurses := true, plainKeys := false, apart := false }
def ClockIdsSaid : Prop := clockIdsRow.holds Try.pinned (OpenSpec.ofChange clockIdsSpec)

/-- ITS FALSE NEIGHBOUR: 'it returns false'. Refute it at one input. -/
def clockIdsWrong : ChangeSpec := { name := "clockIds", fn := fun _ => fun
  | [d1, d2] => { results := [.lit (.bool false)], args := [d1, d2] }
  | _ => none }
def ClockIdsWrongFalsely : Prop := clockIdsRow.holds Try.pinned (OpenSpec.ofChange clockIdsWrong)

/-- 'octavolaw13.HomeOne': WHATEVER THE INPUT: true; the input reads as it did. -/
def homeOneSpec : ChangeSpec := { name := "homeOne", fn := fun _ => fun
  | [d1, d2] => { results := [.lit (.bool true)], args := [d1, d2] }
  | _ => none }
def homeOneRow : OpenClaim := { program := "ytkolimhkfiebeaa", sum := "f520fcb01d2ac4cc3fc8b333673a19420dcc1c1b55b62effff254f21468fffeb", func := "octavo/octavolaw13.HomeOne", spec := "homeOne", unfollowed := true, recurses := true, plainKeys := false, apart := false }
def HomeOneSaid : Prop := homeOneRow.holds Try.pinned (OpenSpec.ofChange homeOneSpec)

/-- ITS FALSE NEIGHBOUR: 'it returns false'. Refute it at one input. -/
def homeOneWrong : ChangeSpec := { name := "homeOne", fn := fun _ => fun
  | [d1, d2] => { results := [.lit (.bool false)], args := [d1, d2] }
  | _ => none }
def HomeOneWrongFalsely : Prop := homeOneRow.holds Try.pinned (OpenSpec.ofChange homeOneWrong)

/-- 'octavolaw13.HomeNames': WHATEVER THE INPUT: true; the input reads as it did. -/
def homeNamesSpec : ChangeSpec := { name := "homeNames", fn := fun _ => fun
  | [] => { results := [.lit (.bool true)], args := [] }
  | _ => none }
def homeNamesRow : OpenClaim := { program := "ytkolimhkfiebeaa", sum := "f520fcb01d2ac4cc3fc8b333673a19420dcc1c1b55b62effff254f21468fffeb", func := "octavo/octavolaw13.HomeNames", spec := "homeNames", unfollowed := true, recurses := true, plainKeys := false, apart := false }
def HomeNamesSaid : Prop := homeNamesRow.holds Try.pinned (OpenSpec.ofChange homeNamesSpec)

/-- ITS FALSE NEIGHBOUR: 'it returns false'. Refute it at one input. -/
def homeNamesWrong : ChangeSpec := { name := "homeNames", fn := fun _ => fun
  | [] => { results := [.lit (.bool false)], args := [] }
  | _ => none }
def HomeNamesWrongFalsely : Prop := homeNamesRow.holds Try.pinned (OpenSpec.ofChange homeNamesWrong)

/-- 'octavolaw11.BagIs': WHATEVER THE INPUT: true; the input reads as it did. -/
def bagIsSpec : ChangeSpec := { name := "bagIs", fn := fun _ => fun
  | [d1, d2, d3] => { results := [.lit (.bool true)], args := [d1, d2, d3] }
  | _ => none }
def bagIsRow : OpenClaim := { program := "ytkolimhkfiebeaa", sum := "f520fcb01d2ac4cc3fc8b333673a19420dcc1c1b55b62effff254f21468fffeb", func := "octavo/octavolaw11.BagIs", spec := "bagIs", unfollowed := true, recurses := true, plainKeys := false, apart := false }
def BagIsSaid : Prop := bagIsRow.holds Try.pinned (OpenSpec.ofChange bagIsSpec)

/-- ITS FALSE NEIGHBOUR: 'it returns false'. Refute it at one input. -/
def bagIsWrong : ChangeSpec := { name := "bagIs", fn := fun _ => fun
  | [d1, d2, d3] => { results := [.lit (.bool false)], args := [d1, d2, d3] }
  | _ => none }
def BagIsWrongFalsely : Prop := bagIsRow.holds Try.pinned (OpenSpec.ofChange bagIsWrong)

/-- 'octavolaw13.HomeMark': WHATEVER THE INPUT: true; the input reads as it did. -/
def homeMarkSpec : ChangeSpec := { name := "homeMark", fn := fun _ => fun
  | [d1, d2, d3] => { results := [.lit (.bool true)], args := [d1, d2, d3] }
  | _ => none }
def homeMarkRow : OpenClaim := { program := "ytkolimhkfiebeaa", sum := "f520fcb01d2ac4cc3fc8b333673a19420dcc1c1b55b62effff254f21468fffeb", func := "octavo/octavolaw13.HomeMark", spec := "homeMark", inPlace := ["slices.overlaps[octavo/api.Op]"], unfollowed := true, recurses := true, plainKeys := false, apart := false }
def HomeMarkSaid : Prop := homeMarkRow.holds Try.pinned (OpenSpec.ofChange homeMarkSpec)

/-- ITS FALSE NEIGHBOUR: 'it returns false'. Refute it at one input. -/
def homeMarkWrong : ChangeSpec := { name := "homeMark", fn := fun _ => fun
  | [d1, d2, d3] => { results := [.lit (.bool false)], args := [d1, d2, d3] }
  | _ => none }
def HomeMarkWrongFalsely : Prop := homeMarkRow.holds Try.pinned (OpenSpec.ofChange homeMarkWrong)

/-- 'octavolaw17.AnchorNames': WHATEVER THE INPUT: true; the input reads as it did. -/
def anchorNamesSpec : ChangeSpec := { name := "anchorNames", fn := fun _ => fun
  | [] => { results := [.lit (.bool true)], args := [] }
  | _ => none }
def anchorNamesRow : OpenClaim := { program := "ytkolimhkfiebeaa", sum := "f520fcb01d2ac4cc3fc8b333673a19420dcc1c1b55b62effff254f21468fffeb", func := "octavo/octavolaw17.AnchorNames", spec := "anchorNames", unfollowed := true, recurses := true, plainKeys := false, apart := false }
def AnchorNamesSaid : Prop := anchorNamesRow.holds Try.pinned (OpenSpec.ofChange anchorNamesSpec)

/-- ITS FALSE NEIGHBOUR: 'it returns false'. Refute it at one input. -/
def anchorNamesWrong : ChangeSpec := { name := "anchorNames", fn := fun _ => fun
  | [] => { results := [.lit (.bool false)], args := [] }
  | _ => none }
def AnchorNamesWrongFalsely : Prop := anchorNamesRow.holds Try.pinned (OpenSpec.ofChange anchorNamesWrong)

/-- 'octavolaw11.BagNames': WHATEVER THE INPUT: true; the input reads as it did. -/
def bagNamesSpec : ChangeSpec := { name := "bagNames", fn := fun _ => fun
  | [] => { results := [.lit (.bool true)], args := [] }
  | _ => none }
def bagNamesRow : OpenClaim := { program := "ytkolimhkfiebeaa", sum := "f520fcb01d2ac4cc3fc8b333673a19420dcc1c1b55b62effff254f21468fffeb", func := "octavo/octavolaw11.BagNames", spec := "bagNames", inPlace := ["slices.overlaps[octavo/api.Op]"], unfollowed := true, recurses := true, plainKeys := false, apart := false }
def BagNamesSaid : Prop := bagNamesRow.holds Try.pinned (OpenSpec.ofChange bagNamesSpec)

/-- ITS FALSE NEIGHBOUR: 'it returns false'. Refute it at one input. -/
def bagNamesWrong : ChangeSpec := { name := "bagNames", fn := fun _ => fun
  | [] => { results := [.lit (.bool false)], args := [] }
  | _ => none }
def BagNamesWrongFalsely : Prop := bagNamesRow.holds Try.pinned (OpenSpec.ofChange bagNamesWrong)

/-- 'octavolaw11.BagHas': WHATEVER THE INPUT: true; the input reads as it did. -/
def bagHasSpec : ChangeSpec := { name := "bagHas", fn := fun _ => fun
  | [d1, d2, d3] => { results := [.lit (.bool true)], args := [d1, d2, d3] }
  | _ => none }
def bagHasRow : OpenClaim := { program := "ytkolimhkfiebeaa", sum := "f520fcb01d2ac4cc3fc8b333673a19420dcc1c1b55b62effff254f21468fffeb", func := "octavo/octavolaw11.BagHas", spec := "bagHas", inPlace := ["slices.overlaps[octavo/api.Op]"], unfollowed := true, recurses := true, plainKeys := false, apart := false }
def BagHasSaid : Prop := bagHasRow.holds Try.pinned (OpenSpec.ofChange bagHasSpec)

/-- ITS FALSE NEIGHBOUR: 'it returns false'. Refute it at one input. -/
def bagHasWrong : ChangeSpec := { name := "bagHas", fn := fun _ => fun
  | [d1, d2, d3] => { results := [.lit (.bool false)], args := [d1, d2, d3] }
  | _ => none }
def BagHasWrongFalsely : Prop := bagHasRow.holds Try.pinned (OpenSpec.ofChange bagHasWrong)

/- THE SECOND FORM. 'bulk': how many values and letters a reading holds, each counted each time it is reached (what is shared counts as often as it is met; a slice's spare places count too). A statement '..UptoSaid' is the law's where the arguments, and the package variables that the reading takes, are together of bulk at most 1048576: NARROWER than '..Said'. Prove '..Said' where nothing that the law and all that it calls make is longer than what came in: it says more and counts as full. Else prove '..UptoSaid'. A law counts once. -/
mutual
def uptoBulk {H : Type} : DataW H → Nat
  | .lit (.string bytes) => bytes.length + 1
  | .lit _ => 1
  | .nil => 1
  | .ptr d => uptoBulk d + 1
  | .slice elems spare => uptoBulkAll elems + uptoBulkAll spare + 1
  | .agg parts => uptoBulkAll parts + 1
  | .iface _ d => uptoBulk d + 1
  | .map entries => uptoBulkEntries entries + 1
  | .held _ => 1
def uptoBulkAll {H : Type} : List (DataW H) → Nat
  | [] => 0
  | d :: r => uptoBulk d + uptoBulkAll r
def uptoBulkEntries {H : Type} : List (Lit × DataW H) → Nat
  | [] => 0
  | x :: r => uptoBulkEntry x + uptoBulkEntries r
def uptoBulkEntry {H : Type} : Lit × DataW H → Nat
  | (.string bytes, d) => bytes.length + uptoBulk d + 1
  | (_, d) => uptoBulk d + 1
 end
def uptoSmall : (H : Type) → List (DataW H) → Bool := fun _ ds => decide (uptoBulkAll ds ≤ 1048576)
def OpenSpec.upto (s : _root_.Go.ChangeSpec) : _root_.Go.OpenSpec := { _root_.Go.OpenSpec.ofChange s with cond := some uptoSmall }

/-- 'octavolaw08.ClockJoins', WHERE WHAT IT READS IS OF BULK AT MOST 1048576: true; the input reads as it did. -/
def clockJoinsUptoRow : OpenClaim := { program := "ytkolimhkfiebeaa", sum := "f520fcb01d2ac4cc3fc8b333673a19420dcc1c1b55b62effff254f21468fffeb", func := "octavo/octavolaw08.ClockJoins", spec := "clockJoins", unfollowed := true, recurses := true, plainKeys := false, apart := false, narrowed := true }
def ClockJoinsUptoSaid : Prop := clockJoinsUptoRow.holds Try.pinned (OpenSpec.upto clockJoinsSpec)

/-- 'octavolaw13.HomeTells', WHERE WHAT IT READS IS OF BULK AT MOST 1048576: true; the input reads as it did. -/
def homeTellsUptoRow : OpenClaim := { program := "ytkolimhkfiebeaa", sum := "f520fcb01d2ac4cc3fc8b333673a19420dcc1c1b55b62effff254f21468fffeb", func := "octavo/octavolaw13.HomeTells", spec := "homeTells", unfollowed := true, recurses := true, plainKeys := false, apart := false, narrowed := true }
def HomeTellsUptoSaid : Prop := homeTellsUptoRow.holds Try.pinned (OpenSpec.upto homeTellsSpec)

/-- 'octavolaw08.ClockIds', WHERE WHAT IT READS IS OF BULK AT MOST 1048576: true; the input reads as it did. -/
def clockIdsUptoRow : OpenClaim := { program := "ytkolimhkfiebeaa", sum := "f520fcb01d2ac4cc3fc8b333673a19420dcc1c1b55b62effff254f21468fffeb", func := "octavo/octavolaw08.ClockIds", spec := "clockIds", unfollowed := true, recurses := true, plainKeys := false, apart := false, narrowed := true }
def ClockIdsUptoSaid : Prop := clockIdsUptoRow.holds Try.pinned (OpenSpec.upto clockIdsSpec)

/-- 'octavolaw13.HomeOne', WHERE WHAT IT READS IS OF BULK AT MOST 1048576: true; the input reads as it did. -/
def homeOneUptoRow : OpenClaim := { program := "ytkolimhkfiebeaa", sum := "f520fcb01d2ac4cc3fc8b333673a19420dcc1c1b55b62effff254f21468fffeb", func := "octavo/octavolaw13.HomeOne", spec := "homeOne", unfollowed := true, recurses := true, plainKeys := false, apart := false, narrowed := true }
def HomeOneUptoSaid : Prop := homeOneUptoRow.holds Try.pinned (OpenSpec.upto homeOneSpec)

/-- 'octavolaw13.HomeNames', WHERE WHAT IT READS IS OF BULK AT MOST 1048576: true; the input reads as it did. -/
def homeNamesUptoRow : OpenClaim := { program := "ytkolimhkfiebeaa", sum := "f520fcb01d2ac4cc3fc8b333673a19420dcc1c1b55b62effff254f21468fffeb", func := "octavo/octavolaw13.HomeNames", spec := "homeNames", unfollowed := true, recurses := true, plainKeys := false, apart := false, narrowed := true }
def HomeNamesUptoSaid : Prop := homeNamesUptoRow.holds Try.pinned (OpenSpec.upto homeNamesSpec)

/-- 'octavolaw11.BagIs', WHERE WHAT IT READS IS OF BULK AT MOST 1048576: true; the input reads as it did. -/
def bagIsUptoRow : OpenClaim := { program := "ytkolimhkfiebeaa", sum := "f520fcb01d2ac4cc3fc8b333673a19420dcc1c1b55b62effff254f21468fffeb", func := "octavo/octavolaw11.BagIs", spec := "bagIs", unfollowed := true, recurses := true, plainKeys := false, apart := false, narrowed := true }
def BagIsUptoSaid : Prop := bagIsUptoRow.holds Try.pinned (OpenSpec.upto bagIsSpec)

/-- 'octavolaw13.HomeMark', WHERE WHAT IT READS IS OF BULK AT MOST 1048576: true; the input reads as it did. -/
def homeMarkUptoRow : OpenClaim := { program := "ytkolimhkfiebeaa", sum := "f520fcb01d2ac4cc3fc8b333673a19420dcc1c1b55b62effff254f21468fffeb", func := "octavo/octavolaw13.HomeMark", spec := "homeMark", inPlace := ["slices.overlaps[octavo/api.Op]"], unfollowed := true, recurses := true, plainKeys := false, apart := false, narrowed := true }
def HomeMarkUptoSaid : Prop := homeMarkUptoRow.holds Try.pinned (OpenSpec.upto homeMarkSpec)

/-- 'octavolaw17.AnchorNames', WHERE WHAT IT READS IS OF BULK AT MOST 1048576: true; the input reads as it did. -/
def anchorNamesUptoRow : OpenClaim := { program := "ytkolimhkfiebeaa", sum := "f520fcb01d2ac4cc3fc8b333673a19420dcc1c1b55b62effff254f21468fffeb", func := "octavo/octavolaw17.AnchorNames", spec := "anchorNames", unfollowed := true, recurses := true, plainKeys := false, apart := false, narrowed := true }
def AnchorNamesUptoSaid : Prop := anchorNamesUptoRow.holds Try.pinned (OpenSpec.upto anchorNamesSpec)

/-- 'octavolaw11.BagNames', WHERE WHAT IT READS IS OF BULK AT MOST 1048576: true; the input reads as it did. -/
def bagNamesUptoRow : OpenClaim := { program := "ytkolimhkfiebeaa", sum := "f520fcb01d2ac4cc3fc8b333673a19420dcc1c1b55b62effff254f21468fffeb", func := "octavo/octavolaw11.BagNames", spec := "bagNames", inPlace := ["slices.overlaps[octavo/api.Op]"], unfollowed := true, recurses := true, plainKeys := false, apart := false, narrowed := true }
def BagNamesUptoSaid : Prop := bagNamesUptoRow.holds Try.pinned (OpenSpec.upto bagNamesSpec)

/-- 'octavolaw11.BagHas', WHERE WHAT IT READS IS OF BULK AT MOST 1048576: true; the input reads as it did. -/
def bagHasUptoRow : OpenClaim := { program := "ytkolimhkfiebeaa", sum := "f520fcb01d2ac4cc3fc8b333673a19420dcc1c1b55b62effff254f21468fffeb", func := "octavo/octavolaw11.BagHas", spec := "bagHas", inPlace := ["slices.overlaps[octavo/api.Op]"], unfollowed := true, recurses := true, plainKeys := false, apart := false, narrowed := true }
def BagHasUptoSaid : Prop := bagHasUptoRow.holds Try.pinned (OpenSpec.upto bagHasSpec)

end Rows
end Go.Proofs.Ytkolimhkfiebeaa
