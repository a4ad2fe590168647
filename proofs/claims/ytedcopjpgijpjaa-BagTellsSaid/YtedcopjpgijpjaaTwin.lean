/-
  The walks of shelf.Twin, and of the references Own and Twin of layer 19.
-/
import Derived.Test.YtedcopjpgijpjaaOwn
namespace Go.Proofs.Ytedcopjpgijpjaa
open Go.RowKit

theorem cell_set_other {w : World} {b o b' o' : Nat} {u v : Value} (h : (⟨b', o', none⟩ : Addr) ≠ ⟨b, o, none⟩) (hc : w.cell? ⟨b', o', none⟩ = some v) : (w.setCell ⟨b, o, none⟩ u).cell? ⟨b', o', none⟩ = some v :=
  (World.cell?_setCell_other w _ _ u (fun e => h e.symm)).trans hc
theorem cell_set_same {w : World} {b o : Nat} {u v : Value} (hc : w.cell? ⟨b, o, none⟩ = some v) : (w.setCell ⟨b, o, none⟩ u).cell? ⟨b, o, none⟩ = some u :=
  World.cell?_setCell_same' _ _ _ (by rw [hc]; rfl)

end Go.Proofs.Ytedcopjpgijpjaa
