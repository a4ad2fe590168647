/-
  The walk of BagOrder.
-/
import Derived.Test.YteoodmilcpmmpaaGreatBagC
import Derived.Test.YteoodmilcpmmpaaGreatOwnA
namespace Go.Proofs.YteoodmilcpmmpaaGreat

open Go.RowKit

theorem R.rdOp {w : World} {b off k : Nat} {l : List Op} {x : Op} {lo : Nat} (h : R cOp lo w (some ⟨b, off, none⟩) l) (hk : l[k]? = some x) :
    ∃ A c, cOp.rd w (Fresh lo w) x (opCells x A c) ∧ w.cell? ⟨b, off + k * 5, none⟩ = some (.int .u8 x.kind) ∧ w.cell? ⟨b, off + k * 5 + 1, none⟩ = some (.int .u32 x.id.t) ∧ w.cell? ⟨b, off + k * 5 + 2, none⟩ = some (.int .u8 x.id.r) ∧
      w.cell? ⟨b, off + k * 5 + 3, none⟩ = some (.slice A x.pl.length c) ∧ w.cell? ⟨b, off + k * 5 + 4, none⟩ = some (.int .i64 x.pt) := by
  obtain ⟨_, ho, A, c, a1, a2, hr, c0, c1, c2, c3, c4⟩ := h.op hk
  exact ⟨A, c, ⟨ho, A, c, a1, a2, rfl, hr⟩, c0, c1, c2, c3, c4⟩

theorem R.pre {α : Type} {C : Codec α} {lo : Nat} {w : World} {A : Option Addr} {xs : List α} (h : R C lo w A xs) (n : Nat) : R C lo w A (xs.take n) := by
  obtain ⟨cells, hr, hs⟩ := h
  rw [← List.take_append_drop n xs] at hr
  obtain ⟨a, b, rfl, ha, hb⟩ := hr.split
  refine ⟨a, ha, fun hne => ?_⟩
  obtain ⟨bl, off, e, hS, hat⟩ := hs (by simp [hne])
  exact ⟨bl, off, e, hS, hat.left⟩

theorem R.head {w : World} {blk off n : Nat} {l : List Op} (hB : R cOp 0 w (some ⟨blk, off, none⟩) l) : R cOp 0 w (some ⟨blk, off, none⟩) (l.take n) := by
  have := hB.sub 0 n
  rw [List.drop_zero, Option.map_some] at this
  simpa [Addr.add] using this

theorem R.tail {w : World} {A : Option Addr} {n c : Nat} {l : List Op} (hB : R cOp 0 w A l) (hc : l.length ≤ c) : R cOp 0 w (if c = n then A else A.map fun x => x.add (n * 5)) (l.drop n) := by
  by_cases h : c = n
  · rw [List.drop_eq_nil_of_le (by omega)]
    exact R.nil
  · rw [if_neg h]
    have := hB.sub n (l.length - n)
    rw [List.take_of_length_le (by rw [List.length_drop]; exact Nat.le_refl _)] at this
    exact this

end Go.Proofs.YteoodmilcpmmpaaGreat
