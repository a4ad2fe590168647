/-
  The walk of bag.Twin.
-/
import Derived.Test.YtedcopjpgijpjaaBag2
import Derived.Test.YtedcopjpgijpjaaInsert2
namespace Go.Proofs.Ytedcopjpgijpjaa
open Go.RowKit Go.Shelf Go.Lib

/-! ### A block's cells, all of them -/
def RowAt (w : World) (g : Nat) (t : TypeId) (cs : List Value) : Prop := w.heap[g]? = some (.cells cs.toArray t (0, 0))
section
variable {w w' : World} {g o : Nat} {t : TypeId} {cs p q vs old : List Value} {u v : Value}
theorem RowAt.lt (h : RowAt w g t cs) : g < w.heap.size := (Array.getElem?_eq_some_iff.1 h).1
theorem RowAt.bl (h : RowAt w g t cs) (hb : Bl w w') : RowAt w' g t cs := (hb.block g h.lt).trans h
theorem RowAt.new (w : World) (cs : Array Value) (t : TypeId) : RowAt (w.alloc (.cells cs t)) w.heap.size t cs.toList := by
  unfold RowAt
  rw [Array.toArray_toList]
  exact heap_alloc_new w _
theorem RowAt.set (h : RowAt w g t (p ++ v :: q)) (u : Value) : RowAt (w.setCell ⟨g, p.length, none⟩ u) g t (p ++ u :: q) := by
  unfold RowAt at *
  simp [World.setCell, Array.getElem?_modify, h]
theorem RowAt.sets : ∀ (vs old p : List Value) (w : World), old.length = vs.length → RowAt w g t (p ++ (old ++ q)) → RowAt (w.setCells g p.length vs) g t (p ++ (vs ++ q))
  | [], [], p, w, _, h => h
  | u :: vs, v :: old, p, w, hl, h => by
    have h1 : RowAt (w.setCell ⟨g, p.length, none⟩ u) g t ((p ++ [u]) ++ (old ++ q)) := by
      have := RowAt.set (p := p) (v := v) (q := old ++ q) h u
      simpa using this
    have h2 := RowAt.sets vs old (p ++ [u]) _ (by simpa using hl) h1
    rw [List.length_append] at h2
    simpa [World.setCells] using h2
theorem RowAt.at (h : RowAt w g t cs) : At w g 0 cs := fun j u hu => by
  rw [Nat.zero_add]
  refine ⟨?_, ?_⟩
  · rw [cell_of_row w g j _ _ (0, 0) h]
    simpa using hu
  · unfold RowAt at h
    simp [World.frozen?, h]
theorem RowAt.own {base n size : Nat} (h : RowAt w g t cs) (hl : cs.length = n * size) (hb : base ≤ g) (hm : n ≤ maxLen) : w.ownsRow base t size (.slice (some ⟨g, 0, none⟩) n n) n cs :=
  ⟨hl, .inr ⟨g, n, cs.toArray, rfl, hb, h, Nat.le_refl _, hm, by simpa using hl, List.take_of_length_le (by simp; omega)⟩⟩
theorem RowAt.part {m : List Value} (h : RowAt w g t (p ++ (m ++ q))) : At w g p.length m := by
  have h1 := (h.at.right (cs := p)).left
  rwa [Nat.zero_add] at h1
end

theorem Try.infoOp : (Try.prog.info? 33).map (fun i => (i.zero, i.size, i.bytes)) = some (some (.agg #[.int .u8 0, .int .u32 0, .int .u8 0, .slice none 0 0, .int .i64 0]), 5, 48) := by kernel_rfl

/-- What hands back a bag of the call's own. -/
def NewBag (l : List Op) (w : World) (e : Ending) (w' : World) : Prop := ∃ g, e = .returned (.slice (some ⟨g, 0, none⟩) l.length l.length) ∧ Own cOp 33 w.heap.size w' (.slice (some ⟨g, 0, none⟩) l.length l.length) l ∧ Bl w w'
def smallB (l : List Op) : Prop := l.length ≤ 1048576 ∧ ∀ x ∈ l, x.pl.length ≤ 1048576

theorem run_copy_none (w : World) (dT sT ty elem : TypeId) (g : Nat) (hu : Try.prog.underlying dT = some (.slice elem)) (i : TypeInfo) (hi : Try.prog.info? elem = some i) (c : Nat) :
    (Builtin.copy_ #[dT, sT] ty #[.slice (some ⟨g, 0, none⟩) 0 0, .slice none 0 c]).run Try.prog w = .ok (goInt 0) w := by
  simp [Builtin.copy_, run_underlying hu, Builtin.lenOf, Builtin.firstCells, sizeOf, typeInfo, hi, storeCells]

set_option maxRecDepth 100000 in
set_option maxHeartbeats 2000000 in
theorem bagTwin (A : Option Addr) (c : Nat) (l : List Op) (w : World) (hl : smallB l) (hA : R cOp 0 w A l) :
    Calls Try.prog 31 #[.slice A l.length c] w (NewBag l w) := by
  obtain ⟨i0, hi, hz0, hz1, hz2⟩ := info_parts Try.infoOp
  obtain ⟨hl, hsm⟩ := hl
  obtain ⟨n, hn⟩ : ∃ n, n = l.length := ⟨_, rfl⟩
  have hmk : ∀ V, (Instr.makeSlice 22 (.int .i64 (n : Int)) (.int .i64 (n : Int))).run Try.prog V = .ok (.slice (some ⟨V.heap.size, 0, none⟩) n n) (V.alloc (.cells (madeCells #[Value.int IntKind.u8 0, Value.int IntKind.u32 0, Value.int IntKind.u8 0, Value.slice none 0 0, Value.int IntKind.i64 0] (n * 5)) 33)) := by
    intro V
    have := run_make (P := Try.prog) V 22 33 i0 _ Try.underlying22 hi hz0 .i64 .i64 (n : Int) (n : Int) (by omega) (Int.le_refl _) (by rw [hz2]; omega) (by omega)
    rw [hz1, Int.toNat_natCast] at this
    exact this
  obtain ⟨cs, hrd, hsl⟩ := hA
  have hcl : cs.length = n * 5 := by rw [hn]; exact hrd.length
  have hsz : (Try.prog.info? 33).map (·.size) = some 5 := by rw [hi]; simp [hz1]
  obtain ⟨V1, hV1⟩ : ∃ V1, V1 = w.alloc (.cells (madeCells #[Value.int IntKind.u8 0, Value.int IntKind.u32 0, Value.int IntKind.u8 0, Value.slice none 0 0, Value.int IntKind.i64 0] (n * 5)) 33) := ⟨_, rfl⟩
  have hb1 : Bl w V1 := by rw [hV1]; exact (Bl.refl _).alloc _
  have hmadel : (madeCells #[Value.int IntKind.u8 0, Value.int IntKind.u32 0, Value.int IntKind.u8 0, Value.slice none 0 0, Value.int IntKind.i64 0] (n * 5)).size = n * 5 := by simp [madeCells]
  have hrow1 : RowAt V1 w.heap.size 33 (madeCells #[Value.int IntKind.u8 0, Value.int IntKind.u32 0, Value.int IntKind.u8 0, Value.slice none 0 0, Value.int IntKind.i64 0] (n * 5)).toList := by rw [hV1]; exact RowAt.new w _ _
  have hcp : ∀ ty, (Builtin.copy_ #[22, 22] ty #[.slice (some ⟨w.heap.size, 0, none⟩) n n, .slice A n c]).run Try.prog V1 = .ok (goInt (n : Int)) (V1.setCells w.heap.size 0 cs) := fun ty => by
    cases A with
    | none =>
      have hcs : cs = [] := by
        by_cases h : cs = []
        · exact h
        · obtain ⟨b, off, e, _⟩ := hsl h
          cases e
      have hn0 : n = 0 := by rw [hcs, List.length_nil] at hcl; omega
      rw [hcs, hn0]
      exact run_copy_none V1 _ _ ty 33 w.heap.size Try.underlying22 i0 hi c
    | some ad =>
      refine run_copy_cellsK V1 _ _ ty 33 5 w.heap.size 0 n n ad n c cs Try.underlying22 hsz n (by simp) hcl (fun j v hj => ?_) (fun j hj => ?_) (fun j hj => ?_) hrd.one
      · obtain ⟨b, off, e, hS, ha⟩ := hsl (by intro e; subst e; simp at hj)
        cases e
        rw [add_plain']
        exact (hb1.cell hS.2).trans (ha j v hj).1
      · have h1 := (hrow1.at j ((madeCells #[Value.int IntKind.u8 0, Value.int IntKind.u32 0, Value.int IntKind.u8 0, Value.slice none 0 0, Value.int IntKind.i64 0] (n * 5)).toList[j]'(by rw [Array.length_toList, hmadel]; omega)) (List.getElem?_eq_getElem _)).1
        rw [h1]
        rfl
      · exact (hrow1.at j ((madeCells #[Value.int IntKind.u8 0, Value.int IntKind.u32 0, Value.int IntKind.u8 0, Value.slice none 0 0, Value.int IntKind.i64 0] (n * 5)).toList[j]'(by rw [Array.length_toList, hmadel]; omega)) (List.getElem?_eq_getElem _)).2
  have hrow2 : RowAt (V1.setCells w.heap.size 0 cs) w.heap.size 33 cs := by
    have := RowAt.sets (q := []) cs (madeCells #[Value.int IntKind.u8 0, Value.int IntKind.u32 0, Value.int IntKind.u8 0, Value.slice none 0 0, Value.int IntKind.i64 0] (n * 5)).toList [] V1 (by rw [Array.length_toList, hmadel, hcl]) (by simpa using hrow1)
    simpa using this
  obtain ⟨V2, hV2⟩ : ∃ V2, V2 = V1.setCells w.heap.size 0 cs := ⟨_, rfl⟩
  have hb2 : Bl w V2 := by rw [hV2]; exact below_setCells (Nat.le_refl _) _ _ hb1
  rw [← hV2] at hcp hrow2
  have hrel0 : Bl w V2 ∧ ∃ (k : Nat) (ca cb : List Value), k ≤ n ∧ Value.int .i64 0 = .int .i64 (k : Int) ∧ RowAt V2 w.heap.size 33 (ca ++ cb) ∧ RdL cOp V2 (fun b => (w.heap.size ≤ b ∧ b < V2.heap.size) ∧ b ≠ w.heap.size) (l.take k) ca ∧ RdL cOp w (Fresh 0 w) (l.drop k) cb :=
    ⟨hb2, 0, [], cs, Nat.zero_le _, rfl, hrow2, rfl, hrd⟩
  replace hrel0 := hide hrel0
  replace hn := hide hn
  have hnm : n ≤ 1048576 := by rw [hn.out]; exact hl
  rw [← hn.out]
  replace hsm := hide hsm
  subst hV1
  clear hrow2 hrow1 hb2 hrd hsl hcl hmadel hl
  go_enter Try.func31, Try.ntmps31
  go_wp2_with (at_builtin
               refine wpList_copy_runI _ rfl _ _ 22 22 rfl _ _ rfl rfl (hcp _) ?_)
  rw [← hV2]
  clear hcp hV2 hb1 hmk
  go_loopw [13] (fun i wr => Bl w wr ∧ ∃ (k : Nat) (ca cb : List Value), k ≤ n ∧ i = .int .i64 (k : Int) ∧ RowAt wr w.heap.size 33 (ca ++ cb) ∧ RdL cOp wr (fun b => (w.heap.size ≤ b ∧ b < wr.heap.size) ∧ b ≠ w.heap.size) (l.take k) ca ∧ RdL cOp w (Fresh 0 w) (l.drop k) cb) (fun i _ => n - (RowKit.intOf i).toNat)
  case atStart => exact hrel0.out
  case round =>
    obtain ⟨hbl, k, ca, cb, hk, rfl, hrow, hra, hrb⟩ := hrel
    have hkl : k ≤ l.length := by rw [← hn.out]; exact hk
    have hcal : ca.length = k * 5 := by
      have := hra.length
      rw [List.length_take, Nat.min_eq_left hkl] at this
      exact this
    by_cases hlt : k < n
    · obtain ⟨x, hx⟩ := get_lt (show k < l.length by rw [← hn.out]; exact hlt)
      rw [drop_cons hx] at hrb
      obtain ⟨m, cb', rfl, ⟨ho, B, d, hcd, hdm, rfl, hB⟩, hrb'⟩ := hrb
      have hts := hide (take_snoc hx)
      have hxs := hsm.out x (List.mem_of_getElem? hx)
      clear hx
      have hki : (k : Int) < (n : Int) := by omega
      have hbx : OpIn wr x B d := ⟨ho, hcd, hdm, R.bl hB hbl⟩
      have hpa : At wr w.heap.size (k * 5) (opCells x B d) := by rw [← hcal]; exact RowAt.part hrow
      have hc0 := (hpa 0 _ rfl).1
      have hc1 := (hpa 1 _ rfl).1
      have hc2 := (hpa 2 _ rfl).1
      have hc3 := (hpa 3 _ rfl).1
      have hc4 := (hpa 4 _ rfl).1
      simp only [Nat.add_zero] at hc0
      have hgl := hrow.lt
      have hnel : (opCells x B d).length = 5 := rfl
      have htw := hide (opTwin x B d wr hbx hxs)
      go_wp2_with fail
      refine htw.out.mono ?_
      rintro e w1 ⟨A1, n1, rfl, q1, q2, hr1, hb1⟩
      have hpa1 := hpa.bl hb1 (by rw [hnel]; omega)
      clear hc0 hc1 hc2 hc3 hc4
      have hc0 := (hpa1 0 _ rfl).1
      have hc1 := (hpa1 1 _ rfl).1
      have hc2 := (hpa1 2 _ rfl).1
      have hc3 := (hpa1 3 _ rfl).1
      have hc4 := (hpa1 4 _ rfl).1
      have hf0 := (hpa1 0 _ rfl).2
      have hf1 := (hpa1 1 _ rfl).2
      have hf2 := (hpa1 2 _ rfl).2
      have hf3 := (hpa1 3 _ rfl).2
      have hf4 := (hpa1 4 _ rfl).2
      simp only [Nat.add_zero] at hc0 hf0
      have hg1 := Nat.lt_of_lt_of_le hgl hb1.size
      have hrow1 : RowAt (w1.setCells w.heap.size (k * 5) (opCells x A1 n1)) w.heap.size 33 ((ca ++ opCells x A1 n1) ++ cb') := by
        have := RowAt.sets (opCells x A1 n1) (opCells x B d) ca w1 rfl (hrow.bl hb1)
        rw [hcal] at this
        rw [List.append_assoc]
        exact this
      have hra1 : RdL cOp (w1.setCells w.heap.size (k * 5) (opCells x A1 n1)) (fun b => (w.heap.size ≤ b ∧ b < (w1.setCells w.heap.size (k * 5) (opCells x A1 n1)).heap.size) ∧ b ≠ w.heap.size) (l.take (k + 1)) (ca ++ opCells x A1 n1) := by
        rw [hts.out]
        refine RdL.append ((hra.keep (hb1.keeps fun b h => h.1.2) (fun b h => (⟨⟨h.1.1, Nat.lt_of_lt_of_le h.1.2 hb1.size⟩, h.2⟩ : (w.heap.size ≤ b ∧ b < w1.heap.size) ∧ b ≠ w.heap.size))).keep (keeps_setCells (fun b h => h.2) _ _ _) fun b h => ⟨⟨h.1.1, by rw [size_setCells]; exact h.1.2⟩, h.2⟩) (RdL.one1 ⟨ho, A1, n1, q1, q2, rfl, ?_⟩)
        refine RS.keep (RS.up (S' := fun b => (w.heap.size ≤ b ∧ b < w1.heap.size) ∧ b ≠ w.heap.size) hr1 (fun b h => ⟨⟨Nat.le_trans hbl.size h.1, h.2⟩, by have := h.1; omega⟩)) (keeps_setCells (fun b h => h.2) _ _ _) fun b h => ⟨⟨h.1.1, by rw [size_setCells]; exact h.1.2⟩, h.2⟩
      have hbl1 : Bl w (w1.setCells w.heap.size (k * 5) (opCells x A1 n1)) := below_setCells (Nat.le_refl _) _ _ (hbl.trans hb1)
      have hrn : Bl w (w1.setCells w.heap.size (k * 5) (opCells x A1 n1)) ∧ ∃ (k' : Nat) (ca cb : List Value), k' ≤ n ∧ Value.int .i64 ((k : Int) + 1) = .int .i64 (k' : Int) ∧ RowAt (w1.setCells w.heap.size (k * 5) (opCells x A1 n1)) w.heap.size 33 (ca ++ cb) ∧ RdL cOp (w1.setCells w.heap.size (k * 5) (opCells x A1 n1)) (fun b => (w.heap.size ≤ b ∧ b < (w1.setCells w.heap.size (k * 5) (opCells x A1 n1)).heap.size) ∧ b ≠ w.heap.size) (l.take k') ca ∧ RdL cOp w (Fresh 0 w) (l.drop k') cb :=
        ⟨hbl1, k + 1, _, cb', by omega, by go_num, hrow1, hra1, hrb'⟩
      replace hrn := hide hrn
      clear hrow hrow1 hra1 hbl1 hra hrb' hpa hpa1
      go_wp2_with fail
      go_roundw
      case rel => exact hrn.out
      case measure => simp [RowKit.intOf]; omega
    · have hkn : k = n := by omega
      subst hkn
      have e1 : l.take k = l := List.take_of_length_le (by rw [← hn.out]; exact Nat.le_refl _)
      have e2 : l.drop k = [] := List.drop_eq_nil_of_le (by rw [← hn.out]; exact Nat.le_refl _)
      rw [e1] at hra
      rw [e2] at hrb
      obtain rfl : cb = [] := hrb
      rw [List.append_nil] at hrow
      have hg := hide (show NewBag l w (.returned (.slice (some ⟨w.heap.size, 0, none⟩) k k)) wr from by
        rw [hn.out]
        refine ⟨w.heap.size, rfl, ⟨ca, RowAt.own hrow (by rw [hcal, hn.out]; rfl) (Nat.le_refl _) (by rw [← hn.out]; unfold maxLen; omega), hra.keep (Keeps.refl _ _) fun b h => ⟨h.1, fun e => h.2 (by cases e; rfl)⟩⟩, hbl⟩)
      clear e1 e2 hra hrow
      go_wp2
      go_ret
      exact hg.out
end Go.Proofs.Ytedcopjpgijpjaa
