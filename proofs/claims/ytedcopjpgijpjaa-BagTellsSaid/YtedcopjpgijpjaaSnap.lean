/-
  The walks of snap.Chunks, snap.Cut; of slices.Contains of bools.
-/
import Derived.Test.YtedcopjpgijpjaaEq
namespace Go.Proofs.Ytedcopjpgijpjaa
open Go.RowKit

theorem addr_add (b off n : Nat) : (⟨b, off, none⟩ : Addr).add n = ⟨b, off + n, none⟩ := by
  unfold Addr.add
  split
  · rename_i h; subst h; rfl
  · rfl
/-- A piece of a slice. -/
theorem R.sub {α : Type} {C : Codec α} {lo : Nat} {w : World} {A : Option Addr} {xs : List α} (h : R C lo w A xs) (k m : Nat) : R C lo w (A.map (fun x => x.add (k * C.size))) ((xs.drop k).take m) := by
  obtain ⟨cells, hr, hs⟩ := h
  by_cases hk : k < xs.length
  · have e : xs = xs.take k ++ ((xs.drop k).take m ++ (xs.drop k).drop m) := by rw [List.take_append_drop, List.take_append_drop]
    rw [e] at hr
    obtain ⟨a, b, rfl, ha, hb⟩ := hr.split
    obtain ⟨b1, b2, rfl, hb1, hb2⟩ := hb.split
    refine ⟨b1, hb1, fun hne => ?_⟩
    obtain ⟨bl, off, e', hS, hat⟩ := hs (by simp [hne])
    subst e'
    have hl := ha.length
    rw [List.length_take, Nat.min_eq_left (by omega)] at hl
    refine ⟨bl, off + k * C.size, by rw [Option.map_some, addr_add], hS, ?_⟩
    have := (hat.right (cs := a)).left
    rwa [hl] at this
  · rw [List.drop_eq_nil_of_le (by omega)]
    exact ⟨[], by simp [RdL], fun h => absurd rfl h⟩

theorem clockIds_length (l : List Times) : (clockIds l).length ≤ 1024 := by
  unfold clockIds
  cases h : clockMay l
  · simp
  · by_cases h2 : clockMany l ≤ 1024
    · have := clockAll_length l (clockFrom_all _ (show clockFrom (-1) l = true from h))
      simp [h2]; omega
    · simp [h2]
/-- snap.Chunks. -/
def chunksOf (c : List Times) : Int := ((clockIds c).length + 7 : Nat) / 8

def Two (n e : Int) (w : World) (en : Ending) (w' : World) : Prop := en = .returned (.tuple #[.int .i64 n, .int .i64 e]) ∧ Bl w w'

/-- snap.Cut. -/
def cutErr (c : List Times) (n : Int) : Int := if clockIdsErr c = 0 then (if n < 0 ∨ chunksOf c ≤ n then 2 else 0) else clockIdsErr c
def cutIds (c : List Times) (n : Int) : List Id := if cutErr c n = 0 then ((clockIds c).drop (n.toNat * 8)).take 8 else []

/-- slices.Contains(l, false). -/
def someNot (l : List Bool) : Bool := l.any (!·)

end Go.Proofs.Ytedcopjpgijpjaa
