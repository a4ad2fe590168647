/-
  slices.Grow of nothing, and slices.Concat of two, at spans.
-/
import Derived.Test.YtkolimhkfiebeaaSpan
import Derived.Lib.AppendZeros
namespace Go.Proofs.Ytkolimhkfiebeaa
open Go.RowKit

theorem Own.made {w : World} {lo n : Nat} {cur : Array Value} {cap : Nat} {e : TypeId} (h : lo ≤ w.heap.size) (hm : cap ≤ maxLen) (hs : cur.size = cap * 2) (hn : n = w.heap.size) : Own cSpan e lo (w.alloc (.cells cur e)) (.slice (some ⟨n, 0, none⟩) 0 cap) [] := by
  subst hn
  exact ⟨[], World.ownsRow_made w cur cap h hm hs, rfl⟩

/-- An append whose run is known. -/
theorem wpList_append_run {P : Program} {w w' : World} {ops : Array Oper} {rest : List Oper} {o : Oper} {a : Act} {Q : Exit → Act → World → Prop} (hgd : o.guard = none) (s x : Operand) (t u : TypeId)
    (ho : o.op = .call { callee := .builtin .append, args := #[s, x], argTypes := #[t, u] }) (vs vx v' : Value) (hs : a.eval s = vs) (hx : a.eval x = vx)
    (hrun : (Builtin.append_ #[t, u] o.type #[vs, vx]).run P w = .ok v' w') (h : wpList P ops Q rest (a.put o.dst v') w') : wpList P ops Q (o :: rest) a w :=
  wpList_plain hgd fun _ hK => by
    unfold Oper.wp execOp
    simp only [ho, resolve, invoke, builtin, Sem.run_bind, Sem.run_pure, Result.andThen_ok, List.map_toArray, List.map_cons, List.map_nil, hs, hx, hrun]
    exact hK _ _ h

set_option maxRecDepth 100000 in
set_option maxHeartbeats 1000000 in
theorem growSpan (n : Nat) (w : World) (hn : n ≤ 1099511627776) :
    Calls Try.prog 215 #[.slice none 0 0, .int .i64 n] w fun e w' => ∃ v, e = .returned v ∧ Own cSpan 93 w.heap.size w' v [] ∧ Bl w w' := by
  obtain ⟨i0, hi, hz0, hz1, hz2⟩ := info_parts Try.infoSpan
  by_cases h0 : n = 0
  · subst h0
    go_enter Try.func215, Try.ntmps215
    go_wp2
    go_ret
    exact ⟨_, rfl, Own.nil, Bl.refl _⟩
  · have hrz : ∀ ty, (Builtin.append_ #[94, 3] ty #[.slice none 0 0, .int .i64 n]).run Try.prog w = .ok (.slice (some ⟨w.heap.size, 0, none⟩) n (grownCap w n 0 93)) (w.drew.alloc (.cells (Builtin.zeroCells (Value.agg #[.int .u32 0, .int .u32 0]).cells n ++ Builtin.zeroCells (Value.agg #[.int .u32 0, .int .u32 0]).cells (grownCap w n 0 93 - n)) 93)) := fun ty =>
      Lib.run_append_nil_zeros w _ _ ty _ i0 _ .i64 .i64 Try.underlying94 Try.underlying3 hi hz0 n (by omega) (by rw [hz1]; omega) (by omega) (by rw [hz2]; omega)
    have hG := grownCap_ge w n 0 93
    have hGm := grownCap_le_maxLen w n 0 93 (by unfold maxLen; omega)
    generalize grownCap w n 0 93 = G at *
    obtain ⟨ROW, hROW⟩ : ∃ ROW, ROW = Builtin.zeroCells (Value.agg #[.int .u32 0, .int .u32 0]).cells n ++ Builtin.zeroCells (Value.agg #[.int .u32 0, .int .u32 0]).cells (G - n) := ⟨_, rfl⟩
    rw [← hROW] at hrz
    have hsz : ROW.size = G * 2 := by
      rw [hROW]
      simp [Builtin.zeroCells, Value.cells]
      omega
    clear hROW
    have hn' : ¬ ((n : Int) < 0) := by omega
    have hn2 : (0 : Int) < (n : Int) := by omega
    go_enter Try.func215, Try.ntmps215
    replace hrz := hide hrz
    go_wp2_with (at_builtin; refine Hid.out ?_)
    refine hide ?_
    refine wpList_append_run rfl (.tmp 20) (.tmp 21) 94 3 rfl _ _ _ rfl rfl (hrz.out _) ?_
    go_wp2
    go_ret
    exact ⟨_, rfl, Own.made (w := w.drew) (Nat.le_refl _) hGm hsz rfl, (Bl.refl w).drew.alloc _⟩

set_option maxRecDepth 100000 in
set_option maxHeartbeats 1000000 in
theorem concatSpan (Z c0 c1 : Nat) (A B : Option Addr) (a b : List Span) (w : World) (hl : a.length ≤ 1048576) (hm : b.length ≤ 1048576) (hZ : w.cell? ⟨Z, 0, none⟩ = some (.slice A a.length c0)) (hZ1 : w.cell? ⟨Z, 1, none⟩ = some (.slice B b.length c1)) (hA : R cSpan 0 w A a) (hB : R cSpan 0 w B b) :
    Calls Try.prog 193 #[.slice (some ⟨Z, 0, none⟩) 2 2] w (New cSpan (a ++ b) w) := by
  obtain ⟨i0, hi, hz0, hz1, hz2⟩ := info_parts Try.infoSpan
  have h1 : ¬ ((a.length : Int) < 0) := by omega
  have h2 : ¬ ((a.length : Int) + (b.length : Int) < 0) := by omega
  have hZl := World.block_lt_of_cell? w _ hZ
  have hgr := hide (fun V => growSpan (a.length + b.length) V (by omega))
  go_enter Try.func193, Try.ntmps193
  go_wp2
  refine wp_loop_rounds 3 ?_
  rw [rounds_succ]
  go_wp2
  rw [rounds_succ]
  go_wp2
  rw [rounds_succ]
  go_wp2_with fail
  have hg := hgr.out w
  rw [show (((a.length + b.length : Nat)) : Int) = (a.length : Int) + (b.length : Int) by omega] at hg
  refine hg.mono ?_
  rintro e w1 ⟨v, rfl, hown, hb1⟩
  have hc0 := (hb1.cell (b := Z) (o := 0) hZl).trans hZ
  have hc1 := (hb1.cell (b := Z) (o := 1) hZl).trans hZ1
  have hbw := hb1
  go_wp2
  refine wp_loop_rounds 3 ?_
  rw [rounds_succ]
  go_wp2_with (at_builtin; refine Hid.out ?_)
  refine hide ?_
  refine wpList_append_any2 (C := cSpan) (xs := []) (ys := a) rfl (.tmp 31) (.tmp 32) _ rfl 93 i0 _ 8 Try.underlying94 hi hz0 hz1 hz2 rfl v w.heap.size rfl hown A a.length c0 rfl rfl ((hA.bl hb1).source flatSpan) (by unfold maxLen; simp; omega) (by simp; omega) hb1.size ?_
  intro v2 w2 hown2 hg2 hf2
  have hb2 : Bl w w2 := hb1.app hown (Nat.le_refl _) hg2
  have hc1' := (hb2.cell (b := Z) (o := 1) hZl).trans hZ1
  clear hc0 hc1 hown
  go_wp2
  rw [rounds_succ]
  go_wp2_with (at_builtin; refine Hid.out ?_)
  refine hide ?_
  refine wpList_append_any2 (C := cSpan) (xs := [] ++ a) (ys := b) rfl (.tmp 31) (.tmp 32) _ rfl 93 i0 _ 8 Try.underlying94 hi hz0 hz1 hz2 rfl v2 w.heap.size rfl hown2 B b.length c1 rfl rfl ((hB.bl hb2).source flatSpan) (by unfold maxLen; simp; omega) (by simp; omega) hb2.size ?_
  intro v3 w3 hown3 hg3 hf3
  have hb3 : Bl w w3 := hb2.app hown2 (Nat.le_refl _) hg3
  rw [List.nil_append] at hown3
  obtain ⟨A3, c3, rfl, hr3, h31, h32⟩ := hown3.reads
  clear hc1' hown2 hown3
  go_wp2
  rw [rounds_succ]
  go_wp2
  go_ret
  exact ⟨A3, c3, by rw [List.length_append]; rfl, h31, h32, hr3, hb3⟩
end Go.Proofs.Ytkolimhkfiebeaa
