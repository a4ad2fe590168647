/-
  slices.Insert of one entry, into a slice of the call's own: what it reads as.
-/
import Derived.Test.YtkolimhkfiebeaaInsert
namespace Go.Proofs.Ytkolimhkfiebeaa
open Go.RowKit Go.Shelf Go.Lib

theorem below_setCells {B : Nat} {w : World} {g : Nat} (hg : B ≤ g) : ∀ (vs : List Value) (o : Nat) {w' : World}, Below B w w' → Below B w (w'.setCells g o vs)
  | [], _, _, h => h
  | v :: r, o, _, h => below_setCells hg r (o + 1) (h.setCell (p := ⟨g, o, none⟩) hg v)
theorem keeps_setCells {S : Nat → Prop} {g : Nat} (hg : ∀ b, S b → b ≠ g) : ∀ (vs : List Value) (o : Nat) (w : World), Keeps S w (w.setCells g o vs)
  | [], _, w => Keeps.refl _ _
  | v :: r, o, w => fun b hb => (keeps_setCells hg r (o + 1) (w.setCell ⟨g, o, none⟩ v) b hb).trans (Below.heap_setCell w ⟨g, o, none⟩ v b (by intro e; exact hg b hb e))
theorem Keeps.trans {S : Nat → Prop} {a b c : World} (h : Keeps S a b) (k : Keeps S b c) : Keeps S a c := fun x hx => (k x hx).trans (h x hx)
theorem Keeps.drew (S : Nat → Prop) (w : World) : Keeps S w w.drew := fun _ _ => rfl
theorem drew_heap (w : World) : w.drew.heap = w.heap := rfl
theorem drew_frozen (w : World) (a : Addr) : w.drew.frozen? a = w.frozen? a := rfl
theorem size_setCells (g : Nat) : ∀ (vs : List Value) (o : Nat) (w : World), (w.setCells g o vs).heap.size = w.heap.size
  | [], _, _ => rfl
  | v :: r, o, w => by rw [World.setCells, size_setCells g r, show (w.setCell ⟨g, o, none⟩ v).heap.size = w.heap.size by simp [World.setCell]]
/-- The cells of a row behind the two copies, in either order. -/
theorem ins_cells {W : World} {g p q : Nat} {a vs b : List Value} (ha : a.length = p) (hv : vs.length = q) (hs : ∀ j, j < p + q + b.length → (W.cell? ⟨g, j, none⟩).isSome = true) (hh : ∀ (j : Nat) u, a[j]? = some u → W.cell? ⟨g, j, none⟩ = some u) :
    (∀ (j : Nat) u, (a ++ (vs ++ b))[j]? = some u → ((W.setCells g (p + q) b).setCells g p vs).cell? ⟨g, j, none⟩ = some u) ∧ (∀ (j : Nat) u, (a ++ (vs ++ b))[j]? = some u → ((W.setCells g p vs).setCells g (p + q) b).cell? ⟨g, j, none⟩ = some u) := by
  have hk : ∀ (j : Nat) u, (a ++ (vs ++ b))[j]? = some u → (j < p ∧ a[j]? = some u) ∨ (p ≤ j ∧ j < p + q ∧ vs[j - p]? = some u) ∨ (p + q ≤ j ∧ j < p + q + b.length ∧ b[j - (p + q)]? = some u) := by
    intro j u hu
    by_cases h1 : j < p
    · rw [List.getElem?_append_left (by omega)] at hu
      exact .inl ⟨h1, hu⟩
    · rw [List.getElem?_append_right (by omega), ha] at hu
      by_cases h2 : j - p < q
      · rw [List.getElem?_append_left (by omega)] at hu
        exact .inr (.inl ⟨by omega, by omega, hu⟩)
      · rw [List.getElem?_append_right (by omega), hv] at hu
        have := (List.getElem?_eq_some_iff.1 hu).1
        exact .inr (.inr ⟨by omega, by omega, by rwa [show j - p - q = j - (p + q) by omega] at hu⟩)
  constructor
  · intro j u hu
    rcases hk j u hu with ⟨h1, h2⟩ | ⟨h1, h2, h3⟩ | ⟨h1, h2, h3⟩
    · rw [World.cell?_setCells_out g vs p _ ⟨g, j, none⟩ (fun _ _ => .inl h1), World.cell?_setCells_out g b (p + q) _ ⟨g, j, none⟩ (fun _ _ => .inl (by show j < p + q; omega))]
      exact hh j u h2
    · have hj : j - p < vs.length := by omega
      have := World.cell?_setCells_in g vs p (W.setCells g (p + q) b) (fun t ht => isSome_setCells g b (p + q) W (fun t' ht' => hs _ (by omega)) _ (hs _ (by omega))) (j - p) hj
      rw [show p + (j - p) = j by omega] at this
      rw [this, ← List.getElem?_eq_getElem hj]
      exact h3
    · rw [World.cell?_setCells_out g vs p _ ⟨g, j, none⟩ (fun _ _ => .inr (by show p + vs.length ≤ j; omega))]
      have hj : j - (p + q) < b.length := by omega
      have := World.cell?_setCells_in g b (p + q) W (fun t ht => hs _ (by omega)) (j - (p + q)) hj
      rw [show p + q + (j - (p + q)) = j by omega] at this
      rw [this, ← List.getElem?_eq_getElem hj]
      exact h3
  · intro j u hu
    rcases hk j u hu with ⟨h1, h2⟩ | ⟨h1, h2, h3⟩ | ⟨h1, h2, h3⟩
    · rw [World.cell?_setCells_out g b (p + q) _ ⟨g, j, none⟩ (fun _ _ => .inl (by show j < p + q; omega)), World.cell?_setCells_out g vs p _ ⟨g, j, none⟩ (fun _ _ => .inl h1)]
      exact hh j u h2
    · rw [World.cell?_setCells_out g b (p + q) _ ⟨g, j, none⟩ (fun _ _ => .inl h2)]
      have hj : j - p < vs.length := by omega
      have := World.cell?_setCells_in g vs p W (fun t ht => hs _ (by omega)) (j - p) hj
      rw [show p + (j - p) = j by omega] at this
      rw [this, ← List.getElem?_eq_getElem hj]
      exact h3
    · have hj : j - (p + q) < b.length := by omega
      have := World.cell?_setCells_in g b (p + q) (W.setCells g p vs) (fun t ht => isSome_setCells g vs p W (fun t' ht' => hs _ (by omega)) _ (hs _ (by omega))) (j - (p + q)) hj
      rw [show p + q + (j - (p + q)) = j by omega] at this
      rw [this, ← List.getElem?_eq_getElem hj]
      exact h3

theorem add_plain' (b off j : Nat) : (⟨b, off, none⟩ : Addr).add j = ⟨b, off + j, none⟩ := by
  unfold Addr.add
  split
  · rename_i h; subst h; rfl
  · rfl
/-- What a call that hands back a list says: whatever lay below base is as it was. -/
def NewFrom {α : Type} (C : Codec α) (base : Nat) (l : List α) (w : World) (e : Ending) (w' : World) : Prop := ∃ A c, e = .returned (.slice A l.length c) ∧ l.length ≤ c ∧ c ≤ maxLen ∧ R C base w' A l ∧ Below base w w'

end Go.Proofs.Ytkolimhkfiebeaa
