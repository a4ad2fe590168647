/-
  The walk of law 7's inner function spoil: numbers are written over, and nothing else.
-/
import Derived.Test.YtkolimhkfiebeaaSpan
import Derived.Test.YtkolimhkfiebeaaBox
import Derived.StillTailTactics
namespace Go.Proofs.Ytkolimhkfiebeaa
open Go.RowKit

/-- Each cell holds what it held, or another number of that kind in a number's place. -/
def KnI (u v : Value) : Prop := v = u ∨ ∃ k a b, u = .int k a ∧ v = .int k b

theorem KnI.trans {u v x : Value} (h : KnI u v) (k : KnI v x) : KnI u x := by
  rcases h with rfl | ⟨i, a, b, rfl, rfl⟩
  · exact k
  · rcases k with rfl | ⟨_, c, d, e, rfl⟩
    · exact .inr ⟨i, a, b, rfl, rfl⟩
    · injection e with e1 e2
      subst e1
      exact .inr ⟨_, a, d, rfl, rfl⟩

def SmI (w w' : World) : Prop := ∀ b o u, w.cell? ⟨b, o, none⟩ = some u → (∃ u', w'.cell? ⟨b, o, none⟩ = some u' ∧ KnI u u') ∧ w'.frozen? ⟨b, o, none⟩ = w.frozen? ⟨b, o, none⟩

theorem SmI.refl (w : World) : SmI w w := fun _ _ u h => ⟨⟨u, h, .inl rfl⟩, rfl⟩

theorem SmI.bl {w w' w'' : World} (h : SmI w w') (hb : Bl w' w'') : SmI w w'' := fun b o u hu => by
  obtain ⟨⟨u', h1, h2⟩, h3⟩ := h b o u hu
  have hlt := World.block_lt_of_cell? _ _ h1
  exact ⟨⟨u', (hb.cell hlt).trans h1, h2⟩, (hb.frozen hlt).trans h3⟩

theorem SmI.set {w w' : World} (h : SmI w w') {b o : Nat} {k : IntKind} {a c : Int} (hc : w'.cell? ⟨b, o, none⟩ = some (.int k a)) : SmI w (w'.setCell ⟨b, o, none⟩ (.int k c)) := fun b' o' x hx => by
  obtain ⟨⟨u', h1, h2⟩, h3⟩ := h b' o' x hx
  refine ⟨?_, by rw [World.frozen?_setCell]; exact h3⟩
  by_cases e : (⟨b', o', none⟩ : Addr) = ⟨b, o, none⟩
  · injection e with e1 e2 _
    subst e1 e2
    rw [hc] at h1
    obtain rfl := Option.some.inj h1
    exact ⟨_, box_set_same hc, h2.trans (.inr ⟨k, a, c, rfl, rfl⟩)⟩
  · exact ⟨u', box_set_other e h1, h2⟩

theorem SmI.slice {w w' : World} (h : SmI w w') {b o : Nat} {A : Option Addr} {n c : Nat} (hc : w.cell? ⟨b, o, none⟩ = some (.slice A n c)) : w'.cell? ⟨b, o, none⟩ = some (.slice A n c) := by
  obtain ⟨⟨u, h1, h2⟩, _⟩ := h b o _ hc
  rcases h2 with rfl | ⟨_, a, b, e, _⟩
  · exact h1
  · cases e

theorem SmI.int {w w' : World} (h : SmI w w') {b o : Nat} {k : IntKind} {a : Int} (hc : w.cell? ⟨b, o, none⟩ = some (.int k a)) (hf : w.frozen? ⟨b, o, none⟩ = false) : (∃ a', w'.cell? ⟨b, o, none⟩ = some (.int k a')) ∧ w'.frozen? ⟨b, o, none⟩ = false := by
  obtain ⟨⟨u, h1, h2⟩, h3⟩ := h b o _ hc
  refine ⟨?_, h3.trans hf⟩
  rcases h2 with rfl | ⟨_, c, d, e, rfl⟩
  · exact ⟨a, h1⟩
  · injection e with e1 e2
    subst e1
    exact ⟨d, h1⟩

theorem R.spanF {lo : Nat} {w : World} {b off k : Nat} {l : List Span} {x : Span} (h : R cSpan lo w (some ⟨b, off, none⟩) l) (hk : l[k]? = some x) : lo ≤ b ∧ w.cell? ⟨b, off + k * 2 + 1, none⟩ = some (.int .u32 x.t) ∧ w.frozen? ⟨b, off + k * 2 + 1, none⟩ = false := by
  obtain ⟨h1, m, ⟨ho, rfl⟩, ha⟩ := R.get h hk
  exact ⟨h1.1, ha 1 _ rfl⟩

end Go.Proofs.Ytkolimhkfiebeaa
