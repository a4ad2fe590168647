/-
  A region that draws its order, whose operations only read, and whose callees may lay blocks of their own: one walk in the text's order. No program in sight.
-/
import Derived.Test.YteoodmilcpmmpaaGreatBase
import Derived.WalkKit
import Derived.WalkSpells
import Derived.WalkLawsBesides
import Derived.Deep.QuietTactic
import Derived.BigQuiet
import Derived.Deep.RegionWith
import Derived.Deep.RegionHeld3
namespace Go.Proofs.YteoodmilcpmmpaaGreat

open Go.RowKit

/-- A world that came of w, nothing of w turned. -/
structure Wd (w : World) where
  v : World
  h : Bl w v

instance {w : World} : Inhabited (Wd w) := ⟨⟨w, Bl.refl w⟩⟩

theorem wp_region_wd {P : Program} {id : Nat} {Q : Exit → Act → World → Prop} {a : Act} {w : World} {l : List Oper} (hm : P.follows .mixedOrders = true) (hB : Region.lexB .any l.toArray = true)
    (h : wpQuiet P l.toArray (fun w' => ∃ p : Wd w, w' = p.v) (fun a' => ∀ w', (∃ p : Wd w, w' = p.v) → Q .normal a' w') l a) : (Code.region id l.toArray true).wp P Q a w :=
  wp_region_quiet (C := fun w' => ∃ p : Wd w, w' = p.v) hm hB ⟨⟨w.drew, (Bl.refl w).drew⟩, rfl⟩ (by simpa using h)

theorem _root_.Go.Calls.wd {P : Program} {f : FuncId} {args : Array Value} {w : World} {p : Wd w} {v : Value}
    (h : Calls P f args p.v fun e w' => e = .returned v ∧ Bl p.v w') : Calls P f args p.v fun e w'' => e = .returned v ∧ ∃ q : Wd w, w'' = q.v :=
  h.mono fun _ _ ⟨he, hb⟩ => ⟨he, ⟨⟨_, p.h.trans hb⟩, rfl⟩⟩

/-- A cell of w, in every world that came of it. -/
theorem Wd.cell {w : World} {b o : Nat} {u : Value} (h : w.cell? ⟨b, o, none⟩ = some u) (hb : b < w.heap.size) (p : Wd w) : p.v.cell? ⟨b, o, none⟩ = some u := (p.h.cell hb).trans h

end Go.Proofs.YteoodmilcpmmpaaGreat
