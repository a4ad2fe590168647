/-
  The walk of bag.Less, over slices.DeleteFunc and IndexFunc.
-/
import Derived.Test.YtedcopjpgijpjaaBagPlain
import Derived.Test.YtedcopjpgijpjaaHas
namespace Go.Proofs.Ytedcopjpgijpjaa
open Go.RowKit Go.Shelf Go.Lib

theorem zero_one (m : Nat) : ∀ v ∈ (Builtin.zeroCells zeroO.cells m).toList, v.oneCell' = true := by
  intro v hv
  unfold Builtin.zeroCells at hv
  simp at hv
  obtain ⟨i, hi, rfl⟩ := hv
  have h : i % zeroO.cells.size < 5 := Nat.mod_lt _ (by decide)
  generalize i % zeroO.cells.size = j at h
  match j, h with
  | 0, _ => rfl
  | 1, _ => rfl
  | 2, _ => rfl
  | 3, _ => rfl
  | 4, _ => rfl
theorem zero_len (m : Nat) : (Builtin.zeroCells zeroO.cells m).toList.length = m * 5 := by
  unfold Builtin.zeroCells
  rw [zeroO_size]
  simp
theorem run_clear_ops (w : World) (ty : TypeId) (b o m c : Nat) (hm : 0 < m) (hc : ∀ j, j < m * 5 → (w.cell? ⟨b, o + j, none⟩).isSome = true) (hf : ∀ j, j < m * 5 → w.frozen? ⟨b, o + j, none⟩ = false) :
    (Builtin.clear_ #[22] ty #[.slice (some ⟨b, o, none⟩) m c]).run Try.prog w = .ok (.tuple #[]) (w.setCells b o (Builtin.zeroCells zeroO.cells m).toList) := by
  obtain ⟨i0, hi0, hz0, hzs, hzb⟩ := info_parts opInfo
  obtain ⟨m, rfl⟩ : ∃ m', m = m' + 1 := ⟨m - 1, by omega⟩
  have hst := run_storeCells_cells (P := Try.prog) b o (Builtin.zeroCells zeroO.cells (m + 1)).toList 0 w (by intro j hj; rw [Nat.add_zero]; rw [zero_len] at hj; exact hc j hj) (by intro j hj; rw [Nat.add_zero]; rw [zero_len] at hj; exact hf j hj) (zero_one _)
  simp only [Nat.add_zero] at hst
  simp [Builtin.clear_, run_underlying Try.underlying22, zeroValue, typeInfo, hi0, hz0, hst]
theorem wpList_clear_runO (w : World) {ops : Array Oper} {rest : List Oper} {o : Oper} {a : Act} {Q : Exit → Act → World → Prop} (hgd : o.guard = none) (d : Operand) (t : TypeId)
    (ho : o.op = .call { callee := .builtin .clear, args := #[d], argTypes := #[t] }) (v : Value) (hd : a.eval d = v) {v' : Value} {w' : World}
    (hr : (Builtin.clear_ #[t] o.type #[v]).run Try.prog w = .ok v' w') (h : wpList Try.prog ops Q rest (a.put o.dst v') w') : wpList Try.prog ops Q (o :: rest) a w :=
  wpList_plain hgd fun _ hK => by
    unfold Oper.wp
    simp [execOp, ho, resolve, invoke, builtin, hd, hr, Result.andThen]
    exact hK _ _ h

set_option maxRecDepth 100000 in
set_option maxHeartbeats 1000000 in
theorem bagLess1 (x : Op) (A C : Option Addr) (c d Y : Nat) (l : List Times) (w : World) (hx : OpIn w x A c) (hl : l.length ≤ 140737488355328) (hC : R cTimes 0 w C l) (hY : w.cell? ⟨Y, 0, none⟩ = some (.slice C l.length d)) :
    Calls Try.prog 44 #[.agg #[.int .u8 x.kind, .int .u32 x.id.t, .int .u8 x.id.r, .slice A x.pl.length c, .int .i64 x.pt], .pointer (some ⟨Y, 0, none⟩)] w fun e w' => e = .returned (.bool (clockHas l x.id)) ∧ Bl w w' := by
  have hYl : Y < w.heap.size := World.block_lt_of_cell? w _ hY
  have hne : Y ≠ w.heap.size := by omega
  have hV0 : Bl w (w.alloc (.cells #[Value.int IntKind.u8 x.kind, Value.int IntKind.u32 x.id.t, Value.int IntKind.u8 x.id.r, Value.slice A x.pl.length c, Value.int IntKind.i64 x.pt] 33)) := (Bl.refl _).alloc _
  have hh := hide (clockHasC C d l x.id (w.alloc (.cells #[Value.int IntKind.u8 x.kind, Value.int IntKind.u32 x.id.t, Value.int IntKind.u8 x.id.r, Value.slice A x.pl.length c, Value.int IntKind.i64 x.pt] 33)) hl hx.ok.2.1 (hC.bl hV0))
  go_enter Try.func44, Try.ntmps44
  go_wp2_with fail
  refine hh.out.mono ?_
  rintro e w1 ⟨rfl, hb1⟩
  go_wp2_with fail
  go_ret
  exact ⟨rfl, hV0.trans hb1⟩

/-- What a predicate's closure does, in whatever world came of w0. -/
def PredO (w0 : World) (Y : Nat) (p : Op → Bool) : Prop := ∀ V x A c, Bl w0 V → OpIn V x A c → Calls Try.prog 44 #[.agg #[.int .u8 x.kind, .int .u32 x.id.t, .int .u8 x.id.r, .slice A x.pl.length c, .int .i64 x.pt], .pointer (some ⟨Y, 0, none⟩)] V fun e w' => e = .returned (.bool (p x)) ∧ Bl V w'
def FirstO (l : List Op) (p : Op → Bool) (r : Int) : Prop := (r = -1 ∧ ∀ x ∈ l, p x = false) ∨ ∃ (k : Nat) (x : Op), r = (k : Int) ∧ l[k]? = some x ∧ p x = true ∧ ∀ y ∈ l.take k, p y = false

set_option maxRecDepth 100000 in
set_option maxHeartbeats 1000000 in
theorem opIndexFunc (A : Option Addr) (c Y : Nat) (l : List Op) (p : Op → Bool) (w0 w : World) (hb0 : Bl w0 w) (hl : l.length ≤ 1048576) (hA : R cOp 0 w A l) (hp : PredO w0 Y p) :
    Calls Try.prog 70 #[.slice A l.length c, .func (.func 44) #[] #[.pointer (some ⟨Y, 0, none⟩)]] w fun e w' => ∃ r : Int, e = .returned (.int .i64 r) ∧ FirstO l p r ∧ Bl w w' := by
  replace hp := hide hp
  go_enter Try.func70, Try.ntmps70
  go_wp2
  go_loopw [8] (fun i wr => Bl w wr ∧ ∃ k : Nat, k ≤ l.length ∧ i = .int .i64 k ∧ Hid (∀ y ∈ l.take k, p y = false)) (fun i _ => l.length - (RowKit.intOf i).toNat)
  case atStart => exact ⟨Bl.refl _, 0, Nat.zero_le _, rfl, fun y hy => by simp at hy⟩
  case round =>
    obtain ⟨hbl, k, hk, rfl, hf⟩ := hrel
    by_cases hlt : k < l.length
    · have hR := hA.bl hbl
      obtain ⟨b, off, rfl, _, hb⟩ := hR.addr (by omega)
      obtain ⟨x, hx⟩ := get_lt hlt
      obtain ⟨_, ho, S, sc, s1, s2, hS, c0, c1, c2, c3, c4⟩ := hR.op hx
      have hki : (k : Int) < (l.length : Int) := by omega
      have hcl := hp.out wr x S sc (hb0.trans hbl) ⟨ho, s1, s2, hS⟩
      cases hq : p x
      · rw [hq] at hcl
        have g := hide (show ∀ y ∈ l.take (k + 1), p y = false from fun y hy => by
          rw [take_snoc hx, List.mem_append] at hy
          rcases hy with hy | hy
          · exact hf.out y hy
          · rw [List.mem_singleton] at hy; subst hy; exact hq)
        replace hcl := hide hcl
        clear hx hq hf
        go_wp2_with fail
        refine hcl.out.mono ?_
        rintro e w1 ⟨rfl, hb1⟩
        go_wp2_with fail
        go_roundw
        case rel => exact ⟨hbl.trans hb1, k + 1, by omega, by go_num, g.out⟩
        case measure => simp [RowKit.intOf]; omega
      · rw [hq] at hcl
        have g := hide (show FirstO l p (k : Int) from .inr ⟨k, x, rfl, hx, hq, hf.out⟩)
        replace hcl := hide hcl
        clear hx hq hf
        go_wp2_with fail
        refine hcl.out.mono ?_
        rintro e w1 ⟨rfl, hb1⟩
        go_wp2_with fail
        go_ret
        exact ⟨_, rfl, g.out, hbl.trans hb1⟩
    · have hkl : k = l.length := by omega
      have g := hide (show FirstO l p (-1) from .inl ⟨rfl, by have := hf.out; rwa [hkl, List.take_length] at this⟩)
      clear hf
      go_wp2
      go_ret
      exact ⟨_, rfl, g.out, hbl⟩
end Go.Proofs.Ytedcopjpgijpjaa
