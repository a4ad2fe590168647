/-
  A list in a row of the call's own whose elements' further memory lies anywhere. No program in sight.
-/
import Derived.Test.YteoodmilcpmmpaaGreatBase
namespace Go.Proofs.YteoodmilcpmmpaaGreat

open Go.RowKit

section

variable {α : Type} {C : Codec α} {e : TypeId} {base : Nat} {w w' : World} {v v' : Value} {xs ys : List α} {x : α}

/-- A list in a row of the call's own; what its elements lead to lies anywhere. -/
def OwnA (C : Codec α) (e : TypeId) (base : Nat) (w : World) (v : Value) (xs : List α) : Prop := Own C e 0 w v xs ∧ ∀ b, v.ownBlock = some b → base ≤ b

theorem OwnA.nil : OwnA C e base w (.slice none 0 0) [] := ⟨Own.nil, fun b h => by cases h⟩

theorem OwnA.bl (h : OwnA C e base w v xs) (hb : Bl w w') : OwnA C e base w' v xs := ⟨h.1.bl hb, h.2⟩

theorem OwnA.app {a b c : World} (h : Bl a b) (ho : OwnA C e base b v xs) (hb : a.heap.size ≤ base) (hg : b.grownBy c v.ownBlock) : Bl a c := Below.grown h hg h.size (fun k hk => Nat.le_trans hb (ho.2 k hk))

theorem OwnA.next (ho : OwnA C e base w v xs) (hb : base ≤ w.heap.size) (h2 : Own C e 0 w' v' ys) (hf : Far w v w' v') : OwnA C e base w' v' ys :=
  ⟨h2, fun b hb2 => Nat.le_of_not_lt fun hlt => (hf.2 b (Nat.lt_of_lt_of_le hlt hb) (fun e => by have := ho.2 b e; omega)).2 hb2⟩

theorem OwnA.src {w0 : World} {cs : List Value} {t : TypeId} (ho : OwnA C e base w v xs) (hb : Bl w0 w) (hbase : w0.heap.size ≤ base) (h : C.rd w0 (Fresh 0 w0) x cs) :
    ∃ news, RdL C (w.alloc (.cells cs.toArray t)) (fun b => (0 ≤ b ∧ b < (w.alloc (.cells cs.toArray t)).heap.size) ∧ v.ownBlock ≠ some b) [x] news ∧ (∀ ad, some (⟨w.heap.size, 0, none⟩ : Addr) = some ad → ∀ (j : Nat) (u : Value), news[j]? = some u → (w.alloc (.cells cs.toArray t)).cell? (ad.add j) = some u) ∧ (some (⟨w.heap.size, 0, none⟩ : Addr) = none → [x] = []) := by
  refine ⟨cs, RdL.one1 (C.keep (((hb.alloc _)).keeps fun b h => h.2) (fun b h => ⟨⟨Nat.zero_le _, Nat.lt_of_lt_of_le h.2 (hb.alloc _).size⟩, fun e => ?_⟩) h), fun ad e j u hu => ?_, fun e => by cases e⟩
  · have := ho.2 b e
    have := h.2
    omega
  cases e
  have hadd : (⟨w.heap.size, 0, none⟩ : Addr).add j = ⟨w.heap.size, j, none⟩ := by
    unfold Addr.add
    split
    · rename_i h0; subst h0; rfl
    · simp
  rw [hadd, cell_of_row _ w.heap.size j cs.toArray t (0, 0) (heap_alloc_new w _)]
  simpa using hu

theorem OwnA.reads (h : OwnA C e base w v xs) : ∃ A c, v = .slice A xs.length c ∧ R C 0 w A xs ∧ xs.length ≤ c ∧ c ≤ maxLen := h.1.reads

end

/-- What a call that hands back a list says, whose elements stand anywhere. -/
def NewA {α : Type} (C : Codec α) (l : List α) (w : World) (e : Ending) (w' : World) : Prop := ∃ A c, e = .returned (.slice A l.length c) ∧ l.length ≤ c ∧ c ≤ maxLen ∧ R C 0 w' A l ∧ Bl w w'

end Go.Proofs.YteoodmilcpmmpaaGreat
