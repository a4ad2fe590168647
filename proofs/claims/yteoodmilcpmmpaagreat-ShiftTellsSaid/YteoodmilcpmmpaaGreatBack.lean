/-
  slices.Backward over entries: the contract of its function value.
-/
import Derived.Test.YteoodmilcpmmpaaGreatOwnB
import Derived.RangeFuncNested
import Derived.RangeFuncBound
import Derived.RangeFuncCalls
import Derived.RangeFuncLeaves
import Derived.Shelf.Abstract
import Derived.Shelf.RegionOpen
import Derived.OwnWalkIn
import Derived.TacticsInMore
import Derived.LoopNIn
import Derived.LoopIn
namespace Go.Proofs.YteoodmilcpmmpaaGreat

open Go.RowKit Go.Shelf

attribute [local go_sem] Oper.semAt_some

/-- The numbers below n, the greatest first. -/
def rv (n : Nat) : List (Fin n) := (List.finRange n).reverse

theorem rv_length (n : Nat) : (rv n).length = n := by unfold rv; simp

theorem rv_get {n k : Nat} (h : k < n) : (rv n)[k]? = some ⟨n - 1 - k, by omega⟩ := by
  unfold rv
  rw [List.getElem?_reverse (by simpa using h), List.length_finRange, List.getElem?_eq_getElem (by simp; omega)]
  simp

set_option maxRecDepth 100000 in
set_option maxHeartbeats 2000000 in
/-- The closure: for every loop body that keeps what lay below n₀. -/
theorem back1 (F : Fence) (n : Nat) (hf : F.fn 195) (hro : F.round = none) (hn : 1 ≤ n) (lp Bs n₀ N cap : Nat) (A : Option Addr) (hN : N ≤ 1099511627776) (hBn : Bs < n₀)
    (le : Fin N → Entry) (fA fB : Fin N → Option Addr) (fc fd : Fin N → Nat) (J Jx : List (Fin N) → World → Prop)
    (hY : ∀ pre (x : Fin N) W, J pre W → pre.length < N → YieldAt F (n - 1) Tryz.prog lp #[.int .i64 (x.1 : Int), .agg #[.int .u32 (le x).id.t, .int .u8 (le x).id.r, .bool (le x).ready, .bool (le x).pin, .int .i64 (le x).used, .bool (le x).known, .slice (fA x) (le x).snap.length (fc x), .slice (fB x) (le x).got.length (fd x)]] W fun e W' =>
      (e = .returned (.bool true) ∧ J (pre ++ [x]) W' ∧ Below n₀ W W') ∨ (e = .returned (.bool false) ∧ Jx (pre ++ [x]) W'))
    (W : World) (hBs : W.cell? ⟨Bs, 0, none⟩ = some (.slice A N cap)) (hA : 0 < N → ∃ b off, A = some ⟨b, off, none⟩ ∧ b < n₀ ∧ ∀ x : Fin N,
      W.cell? ⟨b, off + x.1 * 8, none⟩ = some (.int .u32 (le x).id.t) ∧ W.cell? ⟨b, off + x.1 * 8 + 1, none⟩ = some (.int .u8 (le x).id.r) ∧ W.cell? ⟨b, off + x.1 * 8 + 2, none⟩ = some (.bool (le x).ready) ∧ W.cell? ⟨b, off + x.1 * 8 + 3, none⟩ = some (.bool (le x).pin) ∧ W.cell? ⟨b, off + x.1 * 8 + 4, none⟩ = some (.int .i64 (le x).used) ∧ W.cell? ⟨b, off + x.1 * 8 + 5, none⟩ = some (.bool (le x).known) ∧ W.cell? ⟨b, off + x.1 * 8 + 6, none⟩ = some (.slice (fA x) (le x).snap.length (fc x)) ∧ W.cell? ⟨b, off + x.1 * 8 + 7, none⟩ = some (.slice (fB x) (le x).got.length (fd x))) (h0 : J [] W) :
    CallsIn F n Tryz.prog 195 #[.func (.yield lp) #[] #[], .pointer (some ⟨Bs, 0, none⟩)] W fun e W' => (∃ v, e = .returned v) ∧
      ((∃ ys, ys = rv N ∧ J ys W') ∨ (∃ pre, (∃ k, k ≤ N ∧ pre = (rv N).take k) ∧ Jx pre W')) := by
  refine callsIn_of_wp Tryz.func195 rfl hf ?_ hro
  simp only [Tryz.ntmps195, List.size_toArray, List.length_cons, List.length_nil, Nat.reduceAdd, Nat.reduceSub, Array.replicate_succ, Array.replicate_zero, List.push_toArray, List.append_toArray, List.nil_append, List.cons_append]
  gi_wp2
  gi_loopw [3] (fun i wr => Below n₀ W wr ∧ ((∃ m : Nat, m < N ∧ i = .int .i64 m ∧ J ((rv N).take (N - 1 - m)) wr) ∨ (i = .int .i64 (-1) ∧ J (rv N) wr)))
    (fun i _ => (intOf i + 1).toNat)
  case atStart =>
    refine ⟨Below.refl _ _, ?_⟩
    by_cases h : N = 0
    · subst h
      exact .inr ⟨rfl, h0⟩
    · refine .inl ⟨N - 1, by omega, ?_, ?_⟩
      · rw [show ((N - 1 : Nat) : Int) = (N : Int) - 1 by omega]
      · rw [Nat.sub_self]; exact h0
  case round =>
    obtain ⟨hb, ⟨m, hm, rfl, hJ⟩ | ⟨rfl, hJ⟩⟩ := hrel
    · obtain ⟨b, off, rfl, hbn, hcs⟩ := hA (by omega)
      obtain ⟨fn, tmps, assign, body, hy, hR⟩ := hY _ ⟨m, hm⟩ wr hJ (by rw [List.length_take, rv_length]; omega)
      have hsn : (rv N).take (N - 1 - m + 1) = (rv N).take (N - 1 - m) ++ [⟨m, hm⟩] := by
        refine take_snoc ?_
        rw [rv_get (by omega)]
        congr 2
        omega
      replace hsn := hide hsn
      dsimp only at hy
      obtain ⟨c0, c1, c2, c3, c4, c5, c6, c7⟩ := hcs ⟨m, hm⟩
      have hBs' := (hb.cell (p := ⟨Bs, 0, none⟩) hBn).trans hBs
      replace c0 := (hb.cell (p := ⟨b, off + m * 8, none⟩) hbn).trans c0
      replace c1 := (hb.cell (p := ⟨b, off + m * 8 + 1, none⟩) hbn).trans c1
      replace c2 := (hb.cell (p := ⟨b, off + m * 8 + 2, none⟩) hbn).trans c2
      replace c3 := (hb.cell (p := ⟨b, off + m * 8 + 3, none⟩) hbn).trans c3
      replace c4 := (hb.cell (p := ⟨b, off + m * 8 + 4, none⟩) hbn).trans c4
      replace c5 := (hb.cell (p := ⟨b, off + m * 8 + 5, none⟩) hbn).trans c5
      replace c6 := (hb.cell (p := ⟨b, off + m * 8 + 6, none⟩) hbn).trans c6
      replace c7 := (hb.cell (p := ⟨b, off + m * 8 + 7, none⟩) hbn).trans c7
      clear hcs hA hBs
      gi_wp2
      refine hR.mono ?_
      rintro e W3 (⟨rfl, hJ3, hk3⟩ | ⟨rfl, hJx3⟩)
      · rw [← hsn.out] at hJ3
        gi_wp2
        go_roundw
        case rel =>
          refine ⟨hb.trans hk3, ?_⟩
          by_cases h : m = 0
          · subst h
            refine .inr ⟨rfl, ?_⟩
            rw [show N - 1 - 0 + 1 = N by omega, List.take_of_length_le (by rw [rv_length]; exact Nat.le_refl _)] at hJ3
            exact hJ3
          · refine .inl ⟨m - 1, by omega, ?_, ?_⟩
            · rw [show ((m - 1 : Nat) : Int) = (m : Int) - 1 by omega]
            · rw [show N - 1 - (m - 1) = N - 1 - m + 1 by omega]
              exact hJ3
        case measure => simp [intOf]
      · gi_wp2
        refine bodyPost_ret (results_none rfl _ _ _) rfl ?_
        exact ⟨⟨_, rfl⟩, .inr ⟨_, ⟨N - 1 - m + 1, by omega, hsn.out.symm⟩, hJx3⟩⟩
    · gi_wp2
      go_end0
      exact ⟨⟨_, rfl⟩, .inl ⟨_, rfl, hJ⟩⟩

/-- slices.Backward(l). -/
theorem back (F : Fence) (n : Nat) (hf : F.fn 149) (hro : F.round = none) (a : Option Addr) (len cap : Nat) (w : World) :
    CallsIn F n Tryz.prog 149 #[.slice a len cap] w fun e w' => e = .returned (.func (.func 195) #[] #[.pointer (some ⟨w.heap.size, 0, none⟩)]) ∧ w' = w.alloc (.cells #[.slice a len cap] 56) := by
  refine callsIn_of_wp Tryz.func149 rfl hf ?_ hro
  simp only [Tryz.ntmps149, List.size_toArray, List.length_cons, List.length_nil, Nat.reduceAdd, Nat.reduceSub, Array.replicate_succ, Array.replicate_zero, List.push_toArray, List.append_toArray, List.nil_append, List.cons_append]
  gi_wp2
  go_ret
  exact ⟨rfl, rfl⟩

theorem back_stops (F : Fence) (n : Nat) (hf : F.fn 195) (hro : F.round = none) (hn : 1 ≤ n) (Bs N cap : Nat) (A : Option Addr) (hN : N ≤ 1099511627776)
    (le : Fin N → Entry) (fA fB : Fin N → Option Addr) (fc fd : Fin N → Nat)
    (w : World) (hBs : w.cell? ⟨Bs, 0, none⟩ = some (.slice A N cap)) (hA : 0 < N → ∃ b off, A = some ⟨b, off, none⟩ ∧ b < w.heap.size ∧ ∀ x : Fin N,
      w.cell? ⟨b, off + x.1 * 8, none⟩ = some (.int .u32 (le x).id.t) ∧ w.cell? ⟨b, off + x.1 * 8 + 1, none⟩ = some (.int .u8 (le x).id.r) ∧ w.cell? ⟨b, off + x.1 * 8 + 2, none⟩ = some (.bool (le x).ready) ∧ w.cell? ⟨b, off + x.1 * 8 + 3, none⟩ = some (.bool (le x).pin) ∧ w.cell? ⟨b, off + x.1 * 8 + 4, none⟩ = some (.int .i64 (le x).used) ∧ w.cell? ⟨b, off + x.1 * 8 + 5, none⟩ = some (.bool (le x).known) ∧ w.cell? ⟨b, off + x.1 * 8 + 6, none⟩ = some (.slice (fA x) (le x).snap.length (fc x)) ∧ w.cell? ⟨b, off + x.1 * 8 + 7, none⟩ = some (.slice (fB x) (le x).got.length (fd x))) :
    SeqStopsK F n Tryz.prog 195 #[.pointer (some ⟨Bs, 0, none⟩)] (fun x : Fin N => #[.int .i64 (x.1 : Int), .agg #[.int .u32 (le x).id.t, .int .u8 (le x).id.r, .bool (le x).ready, .bool (le x).pin, .int .i64 (le x).used, .bool (le x).known, .slice (fA x) (le x).snap.length (fc x), .slice (fB x) (le x).got.length (fd x)]]) (Below w.heap.size) (fun ys => ys = rv N)
      (fun pre => ∃ k, k ≤ N ∧ pre = (rv N).take k) N w := fun l J Jx W hW _ _ hY h0 => by
  have hlt := World.block_lt_of_cell? w _ hBs
  refine back1 F n hf hro hn l Bs w.heap.size N cap A hN hlt le fA fB fc fd J Jx hY W ((hW.cell (p := ⟨Bs, 0, none⟩) hlt).trans hBs) (fun h => ?_) h0
  obtain ⟨b, off, e, hb, hc⟩ := hA h
  refine ⟨b, off, e, hb, fun x => ?_⟩
  obtain ⟨c0, c1, c2, c3, c4, c5, c6, c7⟩ := hc x
  exact ⟨(hW.cell (p := ⟨b, _, none⟩) hb).trans c0, (hW.cell (p := ⟨b, _, none⟩) hb).trans c1, (hW.cell (p := ⟨b, _, none⟩) hb).trans c2, (hW.cell (p := ⟨b, _, none⟩) hb).trans c3, (hW.cell (p := ⟨b, _, none⟩) hb).trans c4, (hW.cell (p := ⟨b, _, none⟩) hb).trans c5, (hW.cell (p := ⟨b, _, none⟩) hb).trans c6, (hW.cell (p := ⟨b, _, none⟩) hb).trans c7⟩

end Go.Proofs.YteoodmilcpmmpaaGreat
