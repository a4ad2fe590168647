/-
  No cell of these rows narrows 'for every input' (looked for: loops, veiled, ifaces, maps, wideKeys, modest, calm, conditions, laid).
  DERIVED. THE GIVEN ROWS OF THIS SEAT. 9 by the template 'for every input the law returns true; each argument reads behind the call as it read before'; 0 by the template 'total and deterministic' (their statements: YtegmddgbdjlidaaTotals.lean).
  GIVEN WITH THE SEED: the statements are not yours to turn. If you find one false, say at which input.
  Laid BY PROGRAM, IN A SANDBOX (cutbox-rows.mjs): the forced cells as the released guide's own fill.sh prints them over the translation 37190b7bb23b2c01… (all of the seat's roots in one cut). By AI agents, Wed Nov 11 2026. No macro, syntax, notation, axiom, sorry.
-/
import Derived.Test.YtegmddgbdjlidaaChecked
import GoSem.Claim
import GoSem.ClaimJoined
import GoSem.ClaimMapViews
import Derived.JoinedTies
import Derived.KernelRfl
namespace Go.Proofs.Ytegmddgbdjlidaa
/- THE CELL 'sum', in the pinned program and in every row, IS THE sha256 OF THE DUMP (.gsa) THAT YtegmddgbdjlidaaProg.lean LOADS. Nothing in Lean hashes anything: it is a label: what it is worth is what the hold of that sum in a sandbox is worth. -/
noncomputable def Try.pinned : Pinned := { name := "ytegmddgbdjlidaa", sum := "37190b7bb23b2c012f4e9f600dd8502fd97866254e3a5ce364a1b21fd6bfc604", checked := Try.checked }
namespace Rows
def none {H : Type} : Left H := { results := [], args := [] }

/-- 'octavolaw19.ShelfIs': WHATEVER THE INPUT: true; the input reads as it did. -/
def shelfIsSpec : ChangeSpec := { name := "shelfIs", fn := fun _ => fun
  | [d1, d2, d3] => { results := [.lit (.bool true)], args := [d1, d2, d3] }
  | _ => none }
def shelfIsRow : OpenClaim := { program := "ytegmddgbdjlidaa", sum := "37190b7bb23b2c012f4e9f600dd8502fd97866254e3a5ce364a1b21fd6bfc604", func := "octavo/octavolaw19.ShelfIs", spec := "shelfIs", unfollowed := true, recurses := true, apart := false }
def ShelfIsSaid : Prop := shelfIsRow.holds Try.pinned (OpenSpec.ofChange shelfIsSpec)

/-- ITS FALSE NEIGHBOUR: 'it returns false'. Refute it at one input. -/
def shelfIsWrong : ChangeSpec := { name := "shelfIs", fn := fun _ => fun
  | [d1, d2, d3] => { results := [.lit (.bool false)], args := [d1, d2, d3] }
  | _ => none }
def ShelfIsWrongFalsely : Prop := shelfIsRow.holds Try.pinned (OpenSpec.ofChange shelfIsWrong)

/-- 'octavolaw22.FetchNames': WHATEVER THE INPUT: true; the input reads as it did. -/
def fetchNamesSpec : ChangeSpec := { name := "fetchNames", fn := fun _ => fun
  | [] => { results := [.lit (.bool true)], args := [] }
  | _ => none }
def fetchNamesRow : OpenClaim := { program := "ytegmddgbdjlidaa", sum := "37190b7bb23b2c012f4e9f600dd8502fd97866254e3a5ce364a1b21fd6bfc604", func := "octavo/octavolaw22.FetchNames", spec := "fetchNames", unfollowed := true, recurses := true, apart := false }
def FetchNamesSaid : Prop := fetchNamesRow.holds Try.pinned (OpenSpec.ofChange fetchNamesSpec)

/-- ITS FALSE NEIGHBOUR: 'it returns false'. Refute it at one input. -/
def fetchNamesWrong : ChangeSpec := { name := "fetchNames", fn := fun _ => fun
  | [] => { results := [.lit (.bool false)], args := [] }
  | _ => none }
def FetchNamesWrongFalsely : Prop := fetchNamesRow.holds Try.pinned (OpenSpec.ofChange fetchNamesWrong)

/-- 'octavolaw22.FetchTells': WHATEVER THE INPUT: true; the input reads as it did. -/
def fetchTellsSpec : ChangeSpec := { name := "fetchTells", fn := fun _ => fun
  | [d1, d2, d3, d4] => { results := [.lit (.bool true)], args := [d1, d2, d3, d4] }
  | _ => none }
def fetchTellsRow : OpenClaim := { program := "ytegmddgbdjlidaa", sum := "37190b7bb23b2c012f4e9f600dd8502fd97866254e3a5ce364a1b21fd6bfc604", func := "octavo/octavolaw22.FetchTells", spec := "fetchTells", unfollowed := true, recurses := true, apart := false }
def FetchTellsSaid : Prop := fetchTellsRow.holds Try.pinned (OpenSpec.ofChange fetchTellsSpec)

/-- ITS FALSE NEIGHBOUR: 'it returns false'. Refute it at one input. -/
def fetchTellsWrong : ChangeSpec := { name := "fetchTells", fn := fun _ => fun
  | [d1, d2, d3, d4] => { results := [.lit (.bool false)], args := [d1, d2, d3, d4] }
  | _ => none }
def FetchTellsWrongFalsely : Prop := fetchTellsRow.holds Try.pinned (OpenSpec.ofChange fetchTellsWrong)

/-- 'octavolaw22.FetchAll': WHATEVER THE INPUT: true; the input reads as it did. -/
def fetchAllSpec : ChangeSpec := { name := "fetchAll", fn := fun _ => fun
  | [d1, d2, d3] => { results := [.lit (.bool true)], args := [d1, d2, d3] }
  | _ => none }
def fetchAllRow : OpenClaim := { program := "ytegmddgbdjlidaa", sum := "37190b7bb23b2c012f4e9f600dd8502fd97866254e3a5ce364a1b21fd6bfc604", func := "octavo/octavolaw22.FetchAll", spec := "fetchAll", unfollowed := true, recurses := true, apart := false }
def FetchAllSaid : Prop := fetchAllRow.holds Try.pinned (OpenSpec.ofChange fetchAllSpec)

/-- ITS FALSE NEIGHBOUR: 'it returns false'. Refute it at one input. -/
def fetchAllWrong : ChangeSpec := { name := "fetchAll", fn := fun _ => fun
  | [d1, d2, d3] => { results := [.lit (.bool false)], args := [d1, d2, d3] }
  | _ => none }
def FetchAllWrongFalsely : Prop := fetchAllRow.holds Try.pinned (OpenSpec.ofChange fetchAllWrong)

/-- 'octavolaw22.FetchAgain': WHATEVER THE INPUT: true; the input reads as it did. -/
def fetchAgainSpec : ChangeSpec := { name := "fetchAgain", fn := fun _ => fun
  | [d1, d2, d3] => { results := [.lit (.bool true)], args := [d1, d2, d3] }
  | _ => none }
def fetchAgainRow : OpenClaim := { program := "ytegmddgbdjlidaa", sum := "37190b7bb23b2c012f4e9f600dd8502fd97866254e3a5ce364a1b21fd6bfc604", func := "octavo/octavolaw22.FetchAgain", spec := "fetchAgain", unfollowed := true, recurses := true, apart := false }
def FetchAgainSaid : Prop := fetchAgainRow.holds Try.pinned (OpenSpec.ofChange fetchAgainSpec)

/-- ITS FALSE NEIGHBOUR: 'it returns false'. Refute it at one input. -/
def fetchAgainWrong : ChangeSpec := { name := "fetchAgain", fn := fun _ => fun
  | [d1, d2, d3] => { results := [.lit (.bool false)], args := [d1, d2, d3] }
  | _ => none }
def FetchAgainWrongFalsely : Prop := fetchAgainRow.holds Try.pinned (OpenSpec.ofChange fetchAgainWrong)

/-- 'octavolaw19.ShelfVictim': WHATEVER THE INPUT: true; the input reads as it did. -/
def shelfVictimSpec : ChangeSpec := { name := "shelfVictim", fn := fun _ => fun
  | [d1, d2] => { results := [.lit (.bool true)], args := [d1, d2] }
  | _ => none }
def shelfVictimRow : OpenClaim := { program := "ytegmddgbdjlidaa", sum := "37190b7bb23b2c012f4e9f600dd8502fd97866254e3a5ce364a1b21fd6bfc604", func := "octavo/octavolaw19.ShelfVictim", spec := "shelfVictim", inPlace := ["slices.overlaps[octavo/api.Entry]"], unfollowed := true, recurses := true, apart := false }
def ShelfVictimSaid : Prop := shelfVictimRow.holds Try.pinned (OpenSpec.ofChange shelfVictimSpec)

/-- ITS FALSE NEIGHBOUR: 'it returns false'. Refute it at one input. -/
def shelfVictimWrong : ChangeSpec := { name := "shelfVictim", fn := fun _ => fun
  | [d1, d2] => { results := [.lit (.bool false)], args := [d1, d2] }
  | _ => none }
def ShelfVictimWrongFalsely : Prop := shelfVictimRow.holds Try.pinned (OpenSpec.ofChange shelfVictimWrong)

/-- 'octavolaw19.ShelfNames': WHATEVER THE INPUT: true; the input reads as it did. -/
def shelfNamesSpec : ChangeSpec := { name := "shelfNames", fn := fun _ => fun
  | [] => { results := [.lit (.bool true)], args := [] }
  | _ => none }
def shelfNamesRow : OpenClaim := { program := "ytegmddgbdjlidaa", sum := "37190b7bb23b2c012f4e9f600dd8502fd97866254e3a5ce364a1b21fd6bfc604", func := "octavo/octavolaw19.ShelfNames", spec := "shelfNames", inPlace := ["slices.overlaps[octavo/api.Entry]"], unfollowed := true, recurses := true, apart := false }
def ShelfNamesSaid : Prop := shelfNamesRow.holds Try.pinned (OpenSpec.ofChange shelfNamesSpec)

/-- ITS FALSE NEIGHBOUR: 'it returns false'. Refute it at one input. -/
def shelfNamesWrong : ChangeSpec := { name := "shelfNames", fn := fun _ => fun
  | [] => { results := [.lit (.bool false)], args := [] }
  | _ => none }
def ShelfNamesWrongFalsely : Prop := shelfNamesRow.holds Try.pinned (OpenSpec.ofChange shelfNamesWrong)

/-- 'octavolaw19.ShelfTells': WHATEVER THE INPUT: true; the input reads as it did. -/
def shelfTellsSpec : ChangeSpec := { name := "shelfTells", fn := fun _ => fun
  | [d1, d2, d3, d4] => { results := [.lit (.bool true)], args := [d1, d2, d3, d4] }
  | _ => none }
def shelfTellsRow : OpenClaim := { program := "ytegmddgbdjlidaa", sum := "37190b7bb23b2c012f4e9f600dd8502fd97866254e3a5ce364a1b21fd6bfc604", func := "octavo/octavolaw19.ShelfTells", spec := "shelfTells", inPlace := ["slices.overlaps[octavo/api.Entry]"], unfollowed := true, recurses := true, apart := false }
def ShelfTellsSaid : Prop := shelfTellsRow.holds Try.pinned (OpenSpec.ofChange shelfTellsSpec)

/-- ITS FALSE NEIGHBOUR: 'it returns false'. Refute it at one input. -/
def shelfTellsWrong : ChangeSpec := { name := "shelfTells", fn := fun _ => fun
  | [d1, d2, d3, d4] => { results := [.lit (.bool false)], args := [d1, d2, d3, d4] }
  | _ => none }
def ShelfTellsWrongFalsely : Prop := shelfTellsRow.holds Try.pinned (OpenSpec.ofChange shelfTellsWrong)

/-- 'octavolaw19.ShelfPuts': WHATEVER THE INPUT: true; the input reads as it did. -/
def shelfPutsSpec : ChangeSpec := { name := "shelfPuts", fn := fun _ => fun
  | [d1, d2, d3] => { results := [.lit (.bool true)], args := [d1, d2, d3] }
  | _ => none }
def shelfPutsRow : OpenClaim := { program := "ytegmddgbdjlidaa", sum := "37190b7bb23b2c012f4e9f600dd8502fd97866254e3a5ce364a1b21fd6bfc604", func := "octavo/octavolaw19.ShelfPuts", spec := "shelfPuts", inPlace := ["slices.overlaps[octavo/api.Entry]"], unfollowed := true, recurses := true, apart := false }
def ShelfPutsSaid : Prop := shelfPutsRow.holds Try.pinned (OpenSpec.ofChange shelfPutsSpec)

/-- ITS FALSE NEIGHBOUR: 'it returns false'. Refute it at one input. -/
def shelfPutsWrong : ChangeSpec := { name := "shelfPuts", fn := fun _ => fun
  | [d1, d2, d3] => { results := [.lit (.bool false)], args := [d1, d2, d3] }
  | _ => none }
def ShelfPutsWrongFalsely : Prop := shelfPutsRow.holds Try.pinned (OpenSpec.ofChange shelfPutsWrong)

/- THE SECOND FORM. 'bulk': how many values and letters a reading holds, each counted each time it is reached (what is shared counts as often as it is met; a slice's spare places count too). A statement '..UptoSaid' is the law's where the arguments, and the package variables that the reading takes, are together of bulk at most 1048576: NARROWER than '..Said'. Prove '..Said' where nothing that the law and all that it calls make is longer than what came in: it says more and counts as full. Else prove '..UptoSaid'. A law counts once. -/
mutual
def uptoBulk {H : Type} : DataW H → Nat
  | .lit (.string bytes) => bytes.length + 1
  | .lit _ => 1
  | .nil => 1
  | .ptr d => uptoBulk d + 1
  | .slice elems spare => uptoBulkAll elems + uptoBulkAll spare + 1
  | .agg parts => uptoBulkAll parts + 1
  | .iface _ d => uptoBulk d + 1
  | .map entries => uptoBulkEntries entries + 1
  | .held _ => 1
def uptoBulkAll {H : Type} : List (DataW H) → Nat
  | [] => 0
  | d :: r => uptoBulk d + uptoBulkAll r
def uptoBulkEntries {H : Type} : List (Lit × DataW H) → Nat
  | [] => 0
  | x :: r => uptoBulkEntry x + uptoBulkEntries r
def uptoBulkEntry {H : Type} : Lit × DataW H → Nat
  | (.string bytes, d) => bytes.length + uptoBulk d + 1
  | (_, d) => uptoBulk d + 1
 end
def uptoSmall : (H : Type) → List (DataW H) → Bool := fun _ ds => decide (uptoBulkAll ds ≤ 1048576)
def OpenSpec.upto (s : _root_.Go.ChangeSpec) : _root_.Go.OpenSpec := { _root_.Go.OpenSpec.ofChange s with cond := some uptoSmall }

/-- 'octavolaw19.ShelfIs', WHERE WHAT IT READS IS OF BULK AT MOST 1048576: true; the input reads as it did. -/
def shelfIsUptoRow : OpenClaim := { program := "ytegmddgbdjlidaa", sum := "37190b7bb23b2c012f4e9f600dd8502fd97866254e3a5ce364a1b21fd6bfc604", func := "octavo/octavolaw19.ShelfIs", spec := "shelfIs", unfollowed := true, recurses := true, apart := false, narrowed := true }
def ShelfIsUptoSaid : Prop := shelfIsUptoRow.holds Try.pinned (OpenSpec.upto shelfIsSpec)

/-- 'octavolaw22.FetchNames', WHERE WHAT IT READS IS OF BULK AT MOST 1048576: true; the input reads as it did. -/
def fetchNamesUptoRow : OpenClaim := { program := "ytegmddgbdjlidaa", sum := "37190b7bb23b2c012f4e9f600dd8502fd97866254e3a5ce364a1b21fd6bfc604", func := "octavo/octavolaw22.FetchNames", spec := "fetchNames", unfollowed := true, recurses := true, apart := false, narrowed := true }
def FetchNamesUptoSaid : Prop := fetchNamesUptoRow.holds Try.pinned (OpenSpec.upto fetchNamesSpec)

/-- 'octavolaw22.FetchTells', WHERE WHAT IT READS IS OF BULK AT MOST 1048576: true; the input reads as it did. -/
def fetchTellsUptoRow : OpenClaim := { program := "ytegmddgbdjlidaa", sum := "37190b7bb23b2c012f4e9f600dd8502fd97866254e3a5ce364a1b21fd6bfc604", func := "octavo/octavolaw22.FetchTells", spec := "fetchTells", unfollowed := true, recurses := true, apart := false, narrowed := true }
def FetchTellsUptoSaid : Prop := fetchTellsUptoRow.holds Try.pinned (OpenSpec.upto fetchTellsSpec)

/-- 'octavolaw22.FetchAll', WHERE WHAT IT READS IS OF BULK AT MOST 1048576: true; the input reads as it did. -/
def fetchAllUptoRow : OpenClaim := { program := "ytegmddgbdjlidaa", sum := "37190b7bb23b2c012f4e9f600dd8502fd97866254e3a5ce364a1b21fd6bfc604", func := "octavo/octavolaw22.FetchAll", spec := "fetchAll", unfollowed := true, recurses := true, apart := false, narrowed := true }
def FetchAllUptoSaid : Prop := fetchAllUptoRow.holds Try.pinned (OpenSpec.upto fetchAllSpec)

/-- 'octavolaw22.FetchAgain', WHERE WHAT IT READS IS OF BULK AT MOST 1048576: true; the input reads as it did. -/
def fetchAgainUptoRow : OpenClaim := { program := "ytegmddgbdjlidaa", sum := "37190b7bb23b2c012f4e9f600dd8502fd97866254e3a5ce364a1b21fd6bfc604", func := "octavo/octavolaw22.FetchAgain", spec := "fetchAgain", unfollowed := true, recurses := true, apart := false, narrowed := true }
def FetchAgainUptoSaid : Prop := fetchAgainUptoRow.holds Try.pinned (OpenSpec.upto fetchAgainSpec)

/-- 'octavolaw19.ShelfVictim', WHERE WHAT IT READS IS OF BULK AT MOST 1048576: true; the input reads as it did. -/
def shelfVictimUptoRow : OpenClaim := { program := "ytegmddgbdjlidaa", sum := "37190b7bb23b2c012f4e9f600dd8502fd97866254e3a5ce364a1b21fd6bfc604", func := "octavo/octavolaw19.ShelfVictim", spec := "shelfVictim", inPlace := ["slices.overlaps[octavo/api.Entry]"], unfollowed := true, recurses := true, apart := false, narrowed := true }
def ShelfVictimUptoSaid : Prop := shelfVictimUptoRow.holds Try.pinned (OpenSpec.upto shelfVictimSpec)

/-- 'octavolaw19.ShelfNames', WHERE WHAT IT READS IS OF BULK AT MOST 1048576: true; the input reads as it did. -/
def shelfNamesUptoRow : OpenClaim := { program := "ytegmddgbdjlidaa", sum := "37190b7bb23b2c012f4e9f600dd8502fd97866254e3a5ce364a1b21fd6bfc604", func := "octavo/octavolaw19.ShelfNames", spec := "shelfNames", inPlace := ["slices.overlaps[octavo/api.Entry]"], unfollowed := true, recurses := true, apart := false, narrowed := true }
def ShelfNamesUptoSaid : Prop := shelfNamesUptoRow.holds Try.pinned (OpenSpec.upto shelfNamesSpec)

/-- 'octavolaw19.ShelfTells', WHERE WHAT IT READS IS OF BULK AT MOST 1048576: true; the input reads as it did. -/
def shelfTellsUptoRow : OpenClaim := { program := "ytegmddgbdjlidaa", sum := "37190b7bb23b2c012f4e9f600dd8502fd97866254e3a5ce364a1b21fd6bfc604", func := "octavo/octavolaw19.ShelfTells", spec := "shelfTells", inPlace := ["slices.overlaps[octavo/api.Entry]"], unfollowed := true, recurses := true, apart := false, narrowed := true }
def ShelfTellsUptoSaid : Prop := shelfTellsUptoRow.holds Try.pinned (OpenSpec.upto shelfTellsSpec)

/-- 'octavolaw19.ShelfPuts', WHERE WHAT IT READS IS OF BULK AT MOST 1048576: true; the input reads as it did. -/
def shelfPutsUptoRow : OpenClaim := { program := "ytegmddgbdjlidaa", sum := "37190b7bb23b2c012f4e9f600dd8502fd97866254e3a5ce364a1b21fd6bfc604", func := "octavo/octavolaw19.ShelfPuts", spec := "shelfPuts", inPlace := ["slices.overlaps[octavo/api.Entry]"], unfollowed := true, recurses := true, apart := false, narrowed := true }
def ShelfPutsUptoSaid : Prop := shelfPutsUptoRow.holds Try.pinned (OpenSpec.upto shelfPutsSpec)

end Rows
end Go.Proofs.Ytegmddgbdjlidaa
