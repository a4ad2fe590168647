/-
  No cell of these rows narrows 'for every input' (looked for: loops, veiled, ifaces, maps, wideKeys, modest, calm, conditions, laid).
  DERIVED. THE GIVEN ROWS OF THIS SEAT. 6 by the template 'for every input the law returns true; each argument reads behind the call as it read before'; 0 by the template 'total and deterministic' (their statements: YtedcopjpgijpjaaTotals.lean).
  GIVEN WITH THE SEED: the statements are not yours to turn. If you find one false, say at which input.
  Laid BY PROGRAM, IN A SANDBOX (cutbox-rows.mjs): the forced cells as the released guide's own fill.sh prints them over the translation 7b7c64c2160a3d5e… (all of the seat's roots in one cut). By AI agents, Wed Nov 11 2026. No macro, syntax, notation, axiom, sorry.
-/
import Derived.Test.YtedcopjpgijpjaaChecked
import GoSem.Claim
import GoSem.ClaimJoined
import GoSem.ClaimMapViews
import Derived.JoinedTies
import Derived.KernelRfl
namespace Go.Proofs.Ytedcopjpgijpjaa
/- THE CELL 'sum', in the pinned program and in every row, IS THE sha256 OF THE DUMP (.gsa) THAT YtedcopjpgijpjaaProg.lean LOADS. Nothing in Lean hashes anything: it is a label: what it is worth is what the hold of that sum in a sandbox is worth. -/
noncomputable def Try.pinned : Pinned := { name := "ytedcopjpgijpjaa", sum := "7b7c64c2160a3d5e4a4e0b0bee79a611812d713e6f255cb5b374496531396ef2", checked := Try.checked }
namespace Rows
def none {H : Type} : Left H := { results := [], args := [] }

/-- 'octavolaw11.BagOrder': WHATEVER THE INPUT: true; the input reads as it did. -/
def bagOrderSpec : ChangeSpec := { name := "bagOrder", fn := fun _ => fun
  | [d1, d2] => { results := [.lit (.bool true)], args := [d1, d2] }
  | _ => none }
def bagOrderRow : OpenClaim := { program := "ytedcopjpgijpjaa", sum := "7b7c64c2160a3d5e4a4e0b0bee79a611812d713e6f255cb5b374496531396ef2", func := "octavo/octavolaw11.BagOrder", spec := "bagOrder", inPlace := ["slices.overlaps[octavo/api.Op]"], unfollowed := true, recurses := true, apart := false }
def BagOrderSaid : Prop := bagOrderRow.holds Try.pinned (OpenSpec.ofChange bagOrderSpec)

/-- ITS FALSE NEIGHBOUR: 'it returns false'. Refute it at one input. -/
def bagOrderWrong : ChangeSpec := { name := "bagOrder", fn := fun _ => fun
  | [d1, d2] => { results := [.lit (.bool false)], args := [d1, d2] }
  | _ => none }
def BagOrderWrongFalsely : Prop := bagOrderRow.holds Try.pinned (OpenSpec.ofChange bagOrderWrong)

/-- 'octavolaw11.BagLess': WHATEVER THE INPUT: true; the input reads as it did. -/
def bagLessSpec : ChangeSpec := { name := "bagLess", fn := fun _ => fun
  | [d1, d2, d3] => { results := [.lit (.bool true)], args := [d1, d2, d3] }
  | _ => none }
def bagLessRow : OpenClaim := { program := "ytedcopjpgijpjaa", sum := "7b7c64c2160a3d5e4a4e0b0bee79a611812d713e6f255cb5b374496531396ef2", func := "octavo/octavolaw11.BagLess", spec := "bagLess", inPlace := ["slices.overlaps[octavo/api.Op]"], unfollowed := true, recurses := true, apart := false }
def BagLessSaid : Prop := bagLessRow.holds Try.pinned (OpenSpec.ofChange bagLessSpec)

/-- ITS FALSE NEIGHBOUR: 'it returns false'. Refute it at one input. -/
def bagLessWrong : ChangeSpec := { name := "bagLess", fn := fun _ => fun
  | [d1, d2, d3] => { results := [.lit (.bool false)], args := [d1, d2, d3] }
  | _ => none }
def BagLessWrongFalsely : Prop := bagLessRow.holds Try.pinned (OpenSpec.ofChange bagLessWrong)

/-- 'octavolaw11.BagTells': WHATEVER THE INPUT: true; the input reads as it did. -/
def bagTellsSpec : ChangeSpec := { name := "bagTells", fn := fun _ => fun
  | [d1, d2, d3, d4] => { results := [.lit (.bool true)], args := [d1, d2, d3, d4] }
  | _ => none }
def bagTellsRow : OpenClaim := { program := "ytedcopjpgijpjaa", sum := "7b7c64c2160a3d5e4a4e0b0bee79a611812d713e6f255cb5b374496531396ef2", func := "octavo/octavolaw11.BagTells", spec := "bagTells", inPlace := ["slices.overlaps[octavo/api.Op]"], unfollowed := true, recurses := true, apart := false }
def BagTellsSaid : Prop := bagTellsRow.holds Try.pinned (OpenSpec.ofChange bagTellsSpec)

/-- ITS FALSE NEIGHBOUR: 'it returns false'. Refute it at one input. -/
def bagTellsWrong : ChangeSpec := { name := "bagTells", fn := fun _ => fun
  | [d1, d2, d3, d4] => { results := [.lit (.bool false)], args := [d1, d2, d3, d4] }
  | _ => none }
def BagTellsWrongFalsely : Prop := bagTellsRow.holds Try.pinned (OpenSpec.ofChange bagTellsWrong)

/-- 'octavolaw11.BagIs': WHATEVER THE INPUT: true; the input reads as it did. -/
def bagIsSpec : ChangeSpec := { name := "bagIs", fn := fun _ => fun
  | [d1, d2, d3] => { results := [.lit (.bool true)], args := [d1, d2, d3] }
  | _ => none }
def bagIsRow : OpenClaim := { program := "ytedcopjpgijpjaa", sum := "7b7c64c2160a3d5e4a4e0b0bee79a611812d713e6f255cb5b374496531396ef2", func := "octavo/octavolaw11.BagIs", spec := "bagIs", unfollowed := true, recurses := true, apart := false }
def BagIsSaid : Prop := bagIsRow.holds Try.pinned (OpenSpec.ofChange bagIsSpec)

/-- ITS FALSE NEIGHBOUR: 'it returns false'. Refute it at one input. -/
def bagIsWrong : ChangeSpec := { name := "bagIs", fn := fun _ => fun
  | [d1, d2, d3] => { results := [.lit (.bool false)], args := [d1, d2, d3] }
  | _ => none }
def BagIsWrongFalsely : Prop := bagIsRow.holds Try.pinned (OpenSpec.ofChange bagIsWrong)

/-- 'octavolaw11.BagNames': WHATEVER THE INPUT: true; the input reads as it did. -/
def bagNamesSpec : ChangeSpec := { name := "bagNames", fn := fun _ => fun
  | [] => { results := [.lit (.bool true)], args := [] }
  | _ => none }
def bagNamesRow : OpenClaim := { program := "ytedcopjpgijpjaa", sum := "7b7c64c2160a3d5e4a4e0b0bee79a611812d713e6f255cb5b374496531396ef2", func := "octavo/octavolaw11.BagNames", spec := "bagNames", inPlace := ["slices.overlaps[octavo/api.Op]"], unfollowed := true, recurses := true, apart := false }
def BagNamesSaid : Prop := bagNamesRow.holds Try.pinned (OpenSpec.ofChange bagNamesSpec)

/-- ITS FALSE NEIGHBOUR: 'it returns false'. Refute it at one input. -/
def bagNamesWrong : ChangeSpec := { name := "bagNames", fn := fun _ => fun
  | [] => { results := [.lit (.bool false)], args := [] }
  | _ => none }
def BagNamesWrongFalsely : Prop := bagNamesRow.holds Try.pinned (OpenSpec.ofChange bagNamesWrong)

/-- 'octavolaw11.BagHas': WHATEVER THE INPUT: true; the input reads as it did. -/
def bagHasSpec : ChangeSpec := { name := "bagHas", fn := fun _ => fun
  | [d1, d2, d3] => { results := [.lit (.bool true)], args := [d1, d2, d3] }
  | _ => none }
def bagHasRow : OpenClaim := { program := "ytedcopjpgijpjaa", sum := "7b7c64c2160a3d5e4a4e0b0bee79a611812d713e6f255cb5b374496531396ef2", func := "octavo/octavolaw11.BagHas", spec := "bagHas", inPlace := ["slices.overlaps[octavo/api.Op]"], unfollowed := true, recurses := true, apart := false }
def BagHasSaid : Prop := bagHasRow.holds Try.pinned (OpenSpec.ofChange bagHasSpec)

/-- ITS FALSE NEIGHBOUR: 'it returns false'. Refute it at one input. -/
def bagHasWrong : ChangeSpec := { name := "bagHas", fn := fun _ => fun
  | [d1, d2, d3] => { results := [.lit (.bool false)], args := [d1, d2, d3] }
  | _ => none }
def BagHasWrongFalsely : Prop := bagHasRow.holds Try.pinned (OpenSpec.ofChange bagHasWrong)

/- THE SECOND FORM. 'bulk': how many values and letters a reading holds, each counted each time it is reached (what is shared counts as often as it is met; a slice's spare places count too). A statement '..UptoSaid' is the law's where the arguments, and the package variables that the reading takes, are together of bulk at most 1048576: NARROWER than '..Said'. Prove '..Said' where nothing that the law and all that it calls make is longer than what came in: it says more and counts as full. Else prove '..UptoSaid'. A law counts once. -/
mutual
def uptoBulk {H : Type} : DataW H → Nat
  | .lit (.string bytes) => bytes.length + 1
  | .lit _ => 1
  | .nil => 1
  | .ptr d => uptoBulk d + 1
  | .slice elems spare => uptoBulkAll elems + uptoBulkAll spare + 1
  | .agg parts => uptoBulkAll parts + 1
  | .iface _ d => uptoBulk d + 1
  | .map entries => uptoBulkEntries entries + 1
  | .held _ => 1
def uptoBulkAll {H : Type} : List (DataW H) → Nat
  | [] => 0
  | d :: r => uptoBulk d + uptoBulkAll r
def uptoBulkEntries {H : Type} : List (Lit × DataW H) → Nat
  | [] => 0
  | x :: r => uptoBulkEntry x + uptoBulkEntries r
def uptoBulkEntry {H : Type} : Lit × DataW H → Nat
  | (.string bytes, d) => bytes.length + uptoBulk d + 1
  | (_, d) => uptoBulk d + 1
 end
def uptoSmall : (H : Type) → List (DataW H) → Bool := fun _ ds => decide (uptoBulkAll ds ≤ 1048576)
def OpenSpec.upto (s : _root_.Go.ChangeSpec) : _root_.Go.OpenSpec := { _root_.Go.OpenSpec.ofChange s with cond := some uptoSmall }

/-- 'octavolaw11.BagOrder', WHERE WHAT IT READS IS OF BULK AT MOST 1048576: true; the input reads as it did. -/
def bagOrderUptoRow : OpenClaim := { program := "ytedcopjpgijpjaa", sum := "7b7c64c2160a3d5e4a4e0b0bee79a611812d713e6f255cb5b374496531396ef2", func := "octavo/octavolaw11.BagOrder", spec := "bagOrder", inPlace := ["slices.overlaps[octavo/api.Op]"], unfollowed := true, recurses := true, apart := false, narrowed := true }
def BagOrderUptoSaid : Prop := bagOrderUptoRow.holds Try.pinned (OpenSpec.upto bagOrderSpec)

/-- 'octavolaw11.BagLess', WHERE WHAT IT READS IS OF BULK AT MOST 1048576: true; the input reads as it did. -/
def bagLessUptoRow : OpenClaim := { program := "ytedcopjpgijpjaa", sum := "7b7c64c2160a3d5e4a4e0b0bee79a611812d713e6f255cb5b374496531396ef2", func := "octavo/octavolaw11.BagLess", spec := "bagLess", inPlace := ["slices.overlaps[octavo/api.Op]"], unfollowed := true, recurses := true, apart := false, narrowed := true }
def BagLessUptoSaid : Prop := bagLessUptoRow.holds Try.pinned (OpenSpec.upto bagLessSpec)

/-- 'octavolaw11.BagTells', WHERE WHAT IT READS IS OF BULK AT MOST 1048576: true; the input reads as it did. -/
def bagTellsUptoRow : OpenClaim := { program := "ytedcopjpgijpjaa", sum := "7b7c64c2160a3d5e4a4e0b0bee79a611812d713e6f255cb5b374496531396ef2", func := "octavo/octavolaw11.BagTells", spec := "bagTells", inPlace := ["slices.overlaps[octavo/api.Op]"], unfollowed := true, recurses := true, apart := false, narrowed := true }
def BagTellsUptoSaid : Prop := bagTellsUptoRow.holds Try.pinned (OpenSpec.upto bagTellsSpec)

/-- 'octavolaw11.BagIs', WHERE WHAT IT READS IS OF BULK AT MOST 1048576: true; the input reads as it did. -/
def bagIsUptoRow : OpenClaim := { program := "ytedcopjpgijpjaa", sum := "7b7c64c2160a3d5e4a4e0b0bee79a611812d713e6f255cb5b374496531396ef2", func := "octavo/octavolaw11.BagIs", spec := "bagIs", unfollowed := true, recurses := true, apart := false, narrowed := true }
def BagIsUptoSaid : Prop := bagIsUptoRow.holds Try.pinned (OpenSpec.upto bagIsSpec)

/-- 'octavolaw11.BagNames', WHERE WHAT IT READS IS OF BULK AT MOST 1048576: true; the input reads as it did. -/
def bagNamesUptoRow : OpenClaim := { program := "ytedcopjpgijpjaa", sum := "7b7c64c2160a3d5e4a4e0b0bee79a611812d713e6f255cb5b374496531396ef2", func := "octavo/octavolaw11.BagNames", spec := "bagNames", inPlace := ["slices.overlaps[octavo/api.Op]"], unfollowed := true, recurses := true, apart := false, narrowed := true }
def BagNamesUptoSaid : Prop := bagNamesUptoRow.holds Try.pinned (OpenSpec.upto bagNamesSpec)

/-- 'octavolaw11.BagHas', WHERE WHAT IT READS IS OF BULK AT MOST 1048576: true; the input reads as it did. -/
def bagHasUptoRow : OpenClaim := { program := "ytedcopjpgijpjaa", sum := "7b7c64c2160a3d5e4a4e0b0bee79a611812d713e6f255cb5b374496531396ef2", func := "octavo/octavolaw11.BagHas", spec := "bagHas", inPlace := ["slices.overlaps[octavo/api.Op]"], unfollowed := true, recurses := true, apart := false, narrowed := true }
def BagHasUptoSaid : Prop := bagHasUptoRow.holds Try.pinned (OpenSpec.upto bagHasSpec)

end Rows
end Go.Proofs.Ytedcopjpgijpjaa
