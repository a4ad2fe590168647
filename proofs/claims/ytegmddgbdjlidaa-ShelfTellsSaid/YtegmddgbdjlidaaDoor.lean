/-
  The walk of fetch.settled; what stands at the door of its callers.
-/
import Derived.Test.YtegmddgbdjlidaaSettled
import Derived.Laws.OwnMore
namespace Go.Proofs.Ytegmddgbdjlidaa
open Go.RowKit

theorem run_makeFunc (fn : Fn) (first cap : Array Value) (w : World) : (Instr.makeFunc fn first cap).run Try.prog w = .ok (.func fn first cap) w := rfl

theorem settled (p q : Option Addr) (w : World) :
    Calls Try.prog 57 #[.pointer p, .pointer q] w fun e w' => ∃ B2 B3, w.heap.size ≤ B2 ∧ w.heap.size ≤ B3 ∧ e = .returned (.func (.func 89) #[] #[.pointer (some ⟨B3, 0, none⟩), .pointer (some ⟨B2, 0, none⟩)]) ∧
      w'.cell? ⟨B2, 0, none⟩ = some (.pointer p) ∧ w'.cell? ⟨B3, 0, none⟩ = some (.pointer q) ∧ Bl w w' := by
  have hmf := run_makeFunc
  go_enter Try.func57, Try.ntmps57
  go_wp2
  go_ret
  exact ⟨w.heap.size, w.heap.size + 1, Nat.le_refl _, Nat.le_succ _, rfl, by simp, by simp, ((Bl.refl w).alloc _).alloc _⟩

/-- At the door of a function that defers that closure. -/
theorem leaves_settled {fn : Func} {tmps : Array Value} {Rr : Ending → World → Prop} {y : Entry} {n : Int} {S G : Option Addr} {sc gc : Nat} {w : World} {B2 B3 Y E lo : Nat} (hs : y.snap.length ≤ sc ∧ sc ≤ maxLen) (hg : y.got.length ≤ gc ∧ gc ≤ maxLen)
    (h2 : w.cell? ⟨B2, 0, none⟩ = some (.pointer (some ⟨Y, 0, none⟩))) (h3 : w.cell? ⟨B3, 0, none⟩ = some (.pointer (some ⟨E, 0, none⟩))) (hE : w.cell? ⟨E, 0, none⟩ = some (.int .i64 n))
    (hY : EntAt w Y y S sc G gc) (hYl : Y < w.heap.size) (hYE : Y ≠ E) (hS : R cTimes lo w S y.snap) (hG : R cBool lo w G y.got)
    (hres : ∀ w', w.grownBy w' (some Y) → w'.cell? ⟨E, 0, none⟩ = some (.int .i64 n) → ∀ A c B d, EntAt w' Y (setE n y) A c B d → (setE n y).snap.length ≤ c → c ≤ maxLen → (setE n y).got.length ≤ d → d ≤ maxLen → R cTimes lo w' A (setE n y).snap → R cBool lo w' B (setE n y).got → ∃ v, (results fn tmps).run Try.prog w' = .ok v w' ∧ Rr (.returned v) w') :
    Leaves Try.prog fn tmps Rr [{ target := .fn (.func 89) #[.pointer (some ⟨B3, 0, none⟩), .pointer (some ⟨B2, 0, none⟩)], args := #[] }] .returning w := by
  refine leaves_cons (f := 89) (args := #[.pointer (some ⟨B3, 0, none⟩), .pointer (some ⟨B2, 0, none⟩)]) (by simp) (by simp [go_sem]) ?_
  refine (settled1 y n S G sc gc .returning w B2 B3 Y E lo hs hg h2 h3 hE hY hYl hS hG).mono ?_
  rintro e u' w' ⟨rfl, rfl, hgr, A, c, B, d, hat, l1, l2, l3, l4, hS', hG'⟩
  obtain ⟨v, hv, hR⟩ := hres w' hgr (hgr.cell hE (fun e => hYE (Option.some.inj e).symm)) A c B d hat l1 l2 l3 l4 hS' hG'
  exact ⟨v, hv, hR⟩


theorem EntAt.bl {w w' : World} {Y : Nat} {y : Entry} {A B : Option Addr} {c d : Nat} (h : EntAt w Y y A c B d) (hb : Bl w w') : EntAt w' Y y A c B d := fun j u hu =>
  have hl := World.block_lt_of_cell? w _ (h j u hu).1
  ⟨(hb.cell hl).trans (h j u hu).1, (hb.frozen hl).trans (h j u hu).2⟩
theorem EntAt.other {w : World} {Y E o : Nat} {y : Entry} {A B : Option Addr} {c d : Nat} (h : EntAt w Y y A c B d) (hne : E ≠ Y) (v : Value) : EntAt (w.setCell ⟨E, o, none⟩ v) Y y A c B d := fun j u hu =>
  ⟨cell_set_other (fun e => hne (by injection e with e _; exact e.symm)) (h j u hu).1, by rw [World.frozen?_setCell]; exact (h j u hu).2⟩
theorem EntAt.lt {w : World} {Y : Nat} {y : Entry} {A B : Option Addr} {c d : Nat} (h : EntAt w Y y A c B d) : Y < w.heap.size := World.block_lt_of_cell? w _ (h 0 _ rfl).1
theorem EntAt.cells {w : World} {Y : Nat} {y : Entry} {A B : Option Addr} {c d : Nat} (h : EntAt w Y y A c B d) :
    w.cell? ⟨Y, 0, none⟩ = some (.int .u32 y.id.t) ∧ w.cell? ⟨Y, 1, none⟩ = some (.int .u8 y.id.r) ∧ w.cell? ⟨Y, 2, none⟩ = some (.bool y.ready) ∧ w.cell? ⟨Y, 3, none⟩ = some (.bool y.pin) ∧ w.cell? ⟨Y, 4, none⟩ = some (.int .i64 y.used) ∧ w.cell? ⟨Y, 5, none⟩ = some (.bool y.known) ∧ w.cell? ⟨Y, 6, none⟩ = some (.slice A y.snap.length c) ∧ w.cell? ⟨Y, 7, none⟩ = some (.slice B y.got.length d) :=
  ⟨(h 0 _ rfl).1, (h 1 _ rfl).1, (h 2 _ rfl).1, (h 3 _ rfl).1, (h 4 _ rfl).1, (h 5 _ rfl).1, (h 6 _ rfl).1, (h 7 _ rfl).1⟩
theorem EntAt.frozens {w : World} {Y : Nat} {y : Entry} {A B : Option Addr} {c d : Nat} (h : EntAt w Y y A c B d) :
    w.frozen? ⟨Y, 0, none⟩ = false ∧ w.frozen? ⟨Y, 1, none⟩ = false ∧ w.frozen? ⟨Y, 2, none⟩ = false ∧ w.frozen? ⟨Y, 3, none⟩ = false ∧ w.frozen? ⟨Y, 4, none⟩ = false ∧ w.frozen? ⟨Y, 5, none⟩ = false ∧ w.frozen? ⟨Y, 6, none⟩ = false ∧ w.frozen? ⟨Y, 7, none⟩ = false :=
  ⟨(h 0 _ rfl).2, (h 1 _ rfl).2, (h 2 _ rfl).2, (h 3 _ rfl).2, (h 4 _ rfl).2, (h 5 _ rfl).2, (h 6 _ rfl).2, (h 7 _ rfl).2⟩
theorem set8_bl {a w : World} {Y : Nat} (h : Bl a w) (hY : a.heap.size ≤ Y) (y : Entry) (A : Option Addr) (c : Nat) (B : Option Addr) (d : Nat) : Bl a (set8 w Y y A c B d) :=
  (((((((h.setCell (p := ⟨Y, 0, none⟩) hY _).setCell (p := ⟨Y, 1, none⟩) hY _).setCell (p := ⟨Y, 2, none⟩) hY _).setCell (p := ⟨Y, 3, none⟩) hY _).setCell (p := ⟨Y, 4, none⟩) hY _).setCell (p := ⟨Y, 5, none⟩) hY _).setCell (p := ⟨Y, 6, none⟩) hY _).setCell (p := ⟨Y, 7, none⟩) hY _
theorem set8_cell {w : World} {Y b o : Nat} {v : Value} (hne : b ≠ Y) (h : w.cell? ⟨b, o, none⟩ = some v) (y : Entry) (A : Option Addr) (c : Nat) (B : Option Addr) (d : Nat) : (set8 w Y y A c B d).cell? ⟨b, o, none⟩ = some v := by
  have hq : ∀ j, (⟨b, o, none⟩ : Addr) ≠ ⟨Y, j, none⟩ := fun j e => hne (by injection e)
  exact cell_set_other (hq _) (cell_set_other (hq _) (cell_set_other (hq _) (cell_set_other (hq _) (cell_set_other (hq _) (cell_set_other (hq _) (cell_set_other (hq _) (cell_set_other (hq _) h)))))))
theorem set8_R {α : Type} {C : Codec α} {lo Y : Nat} {w : World} {A : Option Addr} {xs : List α} (h : R C lo w A xs) (hY : Y < lo) (y : Entry) (A' : Option Addr) (c : Nat) (B : Option Addr) (d : Nat) : R C lo (set8 w Y y A' c B d) A xs :=
  R.set (R.set (R.set (R.set (R.set (R.set (R.set (R.set h hY _) hY _) hY _) hY _) hY _) hY _) hY _) hY _
theorem Bl.grownAt {a w w' : World} {Y : Nat} (h : Bl a w) (hg : w.grownBy w' (some Y)) (hY : a.heap.size ≤ Y) : Bl a w' :=
  Below.grown h hg h.size (fun k hk => by cases hk; exact hY)

/-- The three variables that stand when such a function begins. -/
def start3 (w : World) (x : Entry) (A : Option Addr) (c : Nat) (B : Option Addr) (d : Nat) : World :=
  ((w.alloc (.cells #[Value.int IntKind.u32 x.id.t, Value.int IntKind.u8 x.id.r, Value.bool x.ready, Value.bool x.pin, Value.int IntKind.i64 x.used, Value.bool x.known, Value.slice A x.snap.length c, Value.slice B x.got.length d] 31)).alloc (.cells #[Value.int IntKind.u32 0, Value.int IntKind.u8 0, Value.bool false, Value.bool false, Value.int IntKind.i64 0, Value.bool false, Value.slice none 0 0, Value.slice none 0 0] 31)).alloc (.cells #[Value.int IntKind.i64 0] 35)
theorem start3_at {w V : World} {x : Entry} {A B : Option Addr} {c d : Nat} (h : Bl (start3 w x A c B d) V) :
    EntAt V w.heap.size x A c B d ∧ EntAt V (w.heap.size + 1) zeroE none 0 none 0 ∧ V.cell? ⟨w.heap.size + 1 + 1, 0, none⟩ = some (.int .i64 0) ∧ V.frozen? ⟨w.heap.size + 1 + 1, 0, none⟩ = false ∧ w.heap.size + 1 + 1 < V.heap.size ∧ Bl w V := by
  have hs := h.size
  unfold start3 at h hs
  simp only [World.size_alloc] at hs
  refine ⟨EntAt.bl (fun j u hu => ⟨?_, ?_⟩) h, EntAt.bl (fun j u hu => ⟨?_, ?_⟩) h, ?_, ?_, by omega, (((Bl.refl w).alloc _).alloc _).alloc _ |>.trans h⟩
  · have h1 := ((((Bl.refl (w.alloc (.cells #[Value.int IntKind.u32 x.id.t, Value.int IntKind.u8 x.id.r, Value.bool x.ready, Value.bool x.pin, Value.int IntKind.i64 x.used, Value.bool x.known, Value.slice A x.snap.length c, Value.slice B x.got.length d] 31))).alloc (.cells #[Value.int IntKind.u32 0, Value.int IntKind.u8 0, Value.bool false, Value.bool false, Value.int IntKind.i64 0, Value.bool false, Value.slice none 0 0, Value.slice none 0 0] 31)).alloc (.cells #[Value.int IntKind.i64 0] 35)).cell (b := w.heap.size) (o := j) (by rw [World.size_alloc]; omega))
    rw [h1, cell_of_row _ w.heap.size j _ _ (0, 0) (heap_alloc_new w _)]
    simpa [entryCells] using hu
  · exact ((((Bl.refl (w.alloc (.cells #[Value.int IntKind.u32 x.id.t, Value.int IntKind.u8 x.id.r, Value.bool x.ready, Value.bool x.pin, Value.int IntKind.i64 x.used, Value.bool x.known, Value.slice A x.snap.length c, Value.slice B x.got.length d] 31))).alloc (.cells #[Value.int IntKind.u32 0, Value.int IntKind.u8 0, Value.bool false, Value.bool false, Value.int IntKind.i64 0, Value.bool false, Value.slice none 0 0, Value.slice none 0 0] 31)).alloc (.cells #[Value.int IntKind.i64 0] 35)).frozen (b := w.heap.size) (o := j) (by rw [World.size_alloc]; omega)).trans (frozen_new _ _ _ _)
  · rw [cell_mid]
    simpa [entryCells, zeroE] using hu
  · exact frozen_mid _ _ _ _ _ _
  · rw [h.cell (by simp only [World.size_alloc]; omega)]
    have := cell_of_row _ _ 0 _ _ (0, 0) (heap_alloc_new ((w.alloc (.cells #[Value.int IntKind.u32 x.id.t, Value.int IntKind.u8 x.id.r, Value.bool x.ready, Value.bool x.pin, Value.int IntKind.i64 x.used, Value.bool x.known, Value.slice A x.snap.length c, Value.slice B x.got.length d] 31)).alloc (.cells #[Value.int IntKind.u32 0, Value.int IntKind.u8 0, Value.bool false, Value.bool false, Value.int IntKind.i64 0, Value.bool false, Value.slice none 0 0, Value.slice none 0 0] 31)) (.cells #[Value.int IntKind.i64 0] 35))
    rw [World.size_alloc, World.size_alloc] at this
    exact this
  · rw [h.frozen (by simp only [World.size_alloc]; omega)]
    have := frozen_new ((w.alloc (.cells #[Value.int IntKind.u32 x.id.t, Value.int IntKind.u8 x.id.r, Value.bool x.ready, Value.bool x.pin, Value.int IntKind.i64 x.used, Value.bool x.known, Value.slice A x.snap.length c, Value.slice B x.got.length d] 31)).alloc (.cells #[Value.int IntKind.u32 0, Value.int IntKind.u8 0, Value.bool false, Value.bool false, Value.int IntKind.i64 0, Value.bool false, Value.slice none 0 0, Value.slice none 0 0] 31)) #[Value.int IntKind.i64 0] 35 0
    rw [World.size_alloc, World.size_alloc] at this
    exact this

/-- A made row of false ones. -/
theorem R.made (n lo : Nat) (W : World) (t : TypeId) (hlo : lo ≤ W.heap.size) : R cBool lo (W.alloc (.cells (madeCells (Value.bool false).cells n) t)) (some ⟨W.heap.size, 0, none⟩) (List.replicate n false) := by
  have hr : ∀ (k : Nat) (V : World) (S : Nat → Prop), RdL cBool V S (List.replicate k false) (List.replicate k (Value.bool false)) := by
    intro k V S
    induction k with
    | zero => rfl
    | succ k ih => exact ⟨[.bool false], _, rfl, rfl, ih⟩
  refine ⟨List.replicate n (.bool false), hr n _ _, fun _ => ⟨W.heap.size, 0, rfl, ⟨hlo, by rw [World.size_alloc]; omega⟩, fun j u hu => ⟨?_, ?_⟩⟩⟩
  · rw [Nat.zero_add, cell_of_row _ W.heap.size j _ t (0, 0) (heap_alloc_new W _), ← Array.getElem?_toList, show (Value.bool false).cells = #[.bool false] from rfl, toList_madeCells_one]
    exact hu
  · rw [Nat.zero_add]
    exact frozen_new W _ t j

/-- How the world stands within such a function: its result's variables, and what the closure holds. -/
structure St (w V : World) (B2 B3 : Nat) (y : Entry) (n : Int) (S : Option Addr) (sc : Nat) (G : Option Addr) (gc : Nat) : Prop where
  ent : EntAt V (w.heap.size + 1) y S sc G gc
  err : V.cell? ⟨w.heap.size + 1 + 1, 0, none⟩ = some (.int .i64 n)
  gerr : V.frozen? ⟨w.heap.size + 1 + 1, 0, none⟩ = false
  b2 : V.cell? ⟨B2, 0, none⟩ = some (.pointer (some ⟨w.heap.size + 1, 0, none⟩))
  b3 : V.cell? ⟨B3, 0, none⟩ = some (.pointer (some ⟨w.heap.size + 1 + 1, 0, none⟩))
  q2 : w.heap.size + 1 + 1 + 1 ≤ B2
  q3 : w.heap.size + 1 + 1 + 1 ≤ B3
  bl : Bl w V
  ls : y.snap.length ≤ sc ∧ sc ≤ maxLen
  lg : y.got.length ≤ gc ∧ gc ≤ maxLen
  rs : R cTimes (w.heap.size + 1 + 1 + 1) V S y.snap
  rg : R cBool (w.heap.size + 1 + 1 + 1) V G y.got
theorem St.go {w V V' : World} {B2 B3 : Nat} {y : Entry} {n : Int} {S G : Option Addr} {sc gc : Nat} (h : St w V B2 B3 y n S sc G gc) (hb : Bl V V') : St w V' B2 B3 y n S sc G gc :=
  ⟨h.ent.bl hb, (hb.cell (World.block_lt_of_cell? V _ h.err)).trans h.err, (hb.frozen (World.block_lt_of_cell? V _ h.err)).trans h.gerr, (hb.cell (World.block_lt_of_cell? V _ h.b2)).trans h.b2, (hb.cell (World.block_lt_of_cell? V _ h.b3)).trans h.b3, h.q2, h.q3, h.bl.trans hb, h.ls, h.lg, h.rs.bl hb, h.rg.bl hb⟩
theorem St.put {w V : World} {B2 B3 : Nat} {y : Entry} {n : Int} {S G : Option Addr} {sc gc : Nat} (h : St w V B2 B3 y n S sc G gc) (m : Int) : St w (V.setCell ⟨w.heap.size + 1 + 1, 0, none⟩ (.int .i64 m)) B2 B3 y m S sc G gc :=
  have hne : ∀ b, w.heap.size + 1 + 1 + 1 ≤ b → (⟨b, 0, none⟩ : Addr) ≠ ⟨w.heap.size + 1 + 1, 0, none⟩ := fun b hb e => by injection e with e _; omega
  ⟨h.ent.other (by omega) _, cell_set_same h.err, by rw [World.frozen?_setCell]; exact h.gerr, cell_set_other (hne _ h.q2) h.b2, cell_set_other (hne _ h.q3) h.b3, h.q2, h.q3, h.bl.setCell (by show w.heap.size ≤ w.heap.size + 1 + 1; omega) _, h.ls, h.lg, h.rs.set (by show w.heap.size + 1 + 1 < _; omega) _, h.rg.set (by show w.heap.size + 1 + 1 < _; omega) _⟩
theorem St.set {w V : World} {B2 B3 : Nat} {y : Entry} {n : Int} {S G : Option Addr} {sc gc : Nat} (h : St w V B2 B3 y n S sc G gc) (y' : Entry) (S' : Option Addr) (sc' : Nat) (G' : Option Addr) (gc' : Nat)
    (ls : y'.snap.length ≤ sc' ∧ sc' ≤ maxLen) (lg : y'.got.length ≤ gc' ∧ gc' ≤ maxLen) (rs : R cTimes (w.heap.size + 1 + 1 + 1) V S' y'.snap) (rg : R cBool (w.heap.size + 1 + 1 + 1) V G' y'.got) :
    St w (set8 V (w.heap.size + 1) y' S' sc' G' gc') B2 B3 y' n S' sc' G' gc' :=
  ⟨set8_at h.ent y' S' sc' G' gc', set8_cell (by omega) h.err _ _ _ _ _, by unfold set8; simp only [World.frozen?_setCell]; exact h.gerr, set8_cell (by have := h.q2; omega) h.b2 _ _ _ _ _, set8_cell (by have := h.q3; omega) h.b3 _ _ _ _ _, h.q2, h.q3, set8_bl h.bl (by omega) _ _ _ _ _, ls, lg, set8_R rs (by omega) _ _ _ _ _, set8_R rg (by omega) _ _ _ _ _⟩
theorem St.leaves {fn : Func} {tmps : Array Value} {w V : World} {B2 B3 : Nat} {y : Entry} {n : Int} {S G : Option Addr} {sc gc : Nat} (h : St w V B2 B3 y n S sc G gc) {y' : Entry} {n' : Int} (hn : n' = n) (hy : y' = setE n y)
    (hres : ∀ w' A c B d, EntAt w' (w.heap.size + 1) (setE n y) A c B d → w'.cell? ⟨w.heap.size + 1 + 1, 0, none⟩ = some (.int .i64 n) → (results fn tmps).run Try.prog w' = .ok (.tuple #[.agg #[.int .u32 (setE n y).id.t, .int .u8 (setE n y).id.r, .bool (setE n y).ready, .bool (setE n y).pin, .int .i64 (setE n y).used, .bool (setE n y).known, .slice A (setE n y).snap.length c, .slice B (setE n y).got.length d], .int .i64 n]) w') :
    Leaves Try.prog fn tmps (Ent2 y' n' w) [{ target := .fn (.func 89) #[.pointer (some ⟨B3, 0, none⟩), .pointer (some ⟨B2, 0, none⟩)], args := #[] }] .returning V := by
  subst hn hy
  exact leaves_settled (lo := w.heap.size) h.ls h.lg h.b2 h.b3 h.err h.ent h.ent.lt (by omega) (h.rs.more (by omega)) (h.rg.more (by omega)) fun w' hgr hE A c B d hat l1 l2 l3 l4 hS hG =>
    ⟨_, hres w' A c B d hat hE, A, c, B, d, rfl, l1, l2, l3, l4, hS, hG, h.bl.grownAt hgr (by omega)⟩
theorem St.start {w V V' : World} {x : Entry} {A B : Option Addr} {c d : Nat} {B2 B3 : Nat} (h : Bl (start3 w x A c B d) V) (q2 : w.heap.size + 1 + 1 + 1 ≤ B2) (q3 : w.heap.size + 1 + 1 + 1 ≤ B3)
    (k2 : V.cell? ⟨B2, 0, none⟩ = some (.pointer (some ⟨w.heap.size + 1, 0, none⟩))) (k3 : V.cell? ⟨B3, 0, none⟩ = some (.pointer (some ⟨w.heap.size + 1 + 1, 0, none⟩))) (hb : Bl V V') : St w V' B2 B3 zeroE 0 none 0 none 0 :=
  have h3 := start3_at h
  St.go ⟨h3.2.1, h3.2.2.1, h3.2.2.2.1, k2, k3, q2, q3, h3.2.2.2.2.2, ⟨Nat.le_refl _, Nat.zero_le _⟩, ⟨Nat.le_refl _, Nat.zero_le _⟩, R.nil, R.nil⟩ hb
theorem set3_at {w : World} {Y : Nat} {y : Entry} {A0 B0 : Option Addr} {c0 d0 : Nat} (h : EntAt w Y y A0 c0 B0 d0) (m : List Times) (g : List Bool) (A : Option Addr) (c : Nat) (B : Option Addr) (d : Nat) :
    EntAt (((w.setCell ⟨Y, 5, none⟩ (.bool true)).setCell ⟨Y, 6, none⟩ (.slice A m.length c)).setCell ⟨Y, 7, none⟩ (.slice B g.length d)) Y ⟨y.id, y.ready, y.pin, y.used, true, m, g⟩ A c B d := by
  obtain ⟨k0, k1, k2, k3, k4, k5, k6, k7⟩ := h.cells
  obtain ⟨f0, f1, f2, f3, f4, f5, f6, f7⟩ := h.frozens
  have hne : ∀ {i j : Nat}, i ≠ j → (⟨Y, j, none⟩ : Addr) ≠ ⟨Y, i, none⟩ := fun h e => by injection e with _ e; exact h e.symm
  intro j u hu
  have hj : j < 8 := by
    have := (List.getElem?_eq_some_iff.1 hu).1
    simpa [entryCells] using this
  refine ⟨?_, ?_⟩
  · match j, hj, hu with
    | 0, _, hu => simp only [entryCells, List.getElem?_cons_zero, Option.some.injEq] at hu; subst hu; exact (cell_set_other (hne (by decide)) (cell_set_other (hne (by decide)) (cell_set_other (hne (by decide)) k0)))
    | 1, _, hu => simp only [entryCells, List.getElem?_cons_zero, List.getElem?_cons_succ, Option.some.injEq] at hu; subst hu; exact (cell_set_other (hne (by decide)) (cell_set_other (hne (by decide)) (cell_set_other (hne (by decide)) k1)))
    | 2, _, hu => simp only [entryCells, List.getElem?_cons_zero, List.getElem?_cons_succ, Option.some.injEq] at hu; subst hu; exact (cell_set_other (hne (by decide)) (cell_set_other (hne (by decide)) (cell_set_other (hne (by decide)) k2)))
    | 3, _, hu => simp only [entryCells, List.getElem?_cons_zero, List.getElem?_cons_succ, Option.some.injEq] at hu; subst hu; exact (cell_set_other (hne (by decide)) (cell_set_other (hne (by decide)) (cell_set_other (hne (by decide)) k3)))
    | 4, _, hu => simp only [entryCells, List.getElem?_cons_zero, List.getElem?_cons_succ, Option.some.injEq] at hu; subst hu; exact (cell_set_other (hne (by decide)) (cell_set_other (hne (by decide)) (cell_set_other (hne (by decide)) k4)))
    | 5, _, hu => simp only [entryCells, List.getElem?_cons_zero, List.getElem?_cons_succ, Option.some.injEq] at hu; subst hu; exact (cell_set_other (hne (by decide)) (cell_set_other (hne (by decide)) (cell_set_same k5)))
    | 6, _, hu => simp only [entryCells, List.getElem?_cons_zero, List.getElem?_cons_succ, Option.some.injEq] at hu; subst hu; exact (cell_set_other (hne (by decide)) (cell_set_same (cell_set_other (hne (by decide)) k6)))
    | 7, _, hu => simp only [entryCells, List.getElem?_cons_zero, List.getElem?_cons_succ, Option.some.injEq] at hu; subst hu; exact (cell_set_same (cell_set_other (hne (by decide)) (cell_set_other (hne (by decide)) k7)))
  · simp only [World.frozen?_setCell]
    match j, hj with
    | 0, _ => exact f0
    | 1, _ => exact f1
    | 2, _ => exact f2
    | 3, _ => exact f3
    | 4, _ => exact f4
    | 5, _ => exact f5
    | 6, _ => exact f6
    | 7, _ => exact f7
theorem St.three {w V : World} {B2 B3 : Nat} {y : Entry} {n : Int} {S G : Option Addr} {sc gc : Nat} (h : St w V B2 B3 y n S sc G gc) (m : List Times) (g : List Bool) (S' : Option Addr) (sc' : Nat) (G' : Option Addr) (gc' : Nat)
    (ls : m.length ≤ sc' ∧ sc' ≤ maxLen) (lg : g.length ≤ gc' ∧ gc' ≤ maxLen) (rs : R cTimes (w.heap.size + 1 + 1 + 1) V S' m) (rg : R cBool (w.heap.size + 1 + 1 + 1) V G' g) :
    St w (((V.setCell ⟨w.heap.size + 1, 5, none⟩ (.bool true)).setCell ⟨w.heap.size + 1, 6, none⟩ (.slice S' m.length sc')).setCell ⟨w.heap.size + 1, 7, none⟩ (.slice G' g.length gc')) B2 B3 ⟨y.id, y.ready, y.pin, y.used, true, m, g⟩ n S' sc' G' gc' := by
  have q2 := h.q2
  have q3 := h.q3
  have hne : ∀ b j, b ≠ w.heap.size + 1 → (⟨b, 0, none⟩ : Addr) ≠ ⟨w.heap.size + 1, j, none⟩ := fun b j hb e => hb (by injection e)
  have hc : ∀ b v, b ≠ w.heap.size + 1 → V.cell? ⟨b, 0, none⟩ = some v → (((V.setCell ⟨w.heap.size + 1, 5, none⟩ (.bool true)).setCell ⟨w.heap.size + 1, 6, none⟩ (.slice S' m.length sc')).setCell ⟨w.heap.size + 1, 7, none⟩ (.slice G' g.length gc')).cell? ⟨b, 0, none⟩ = some v := fun b v hb hv => cell_set_other (hne b _ hb) (cell_set_other (hne b _ hb) (cell_set_other (hne b _ hb) hv))
  have hl : w.heap.size + 1 < w.heap.size + 1 + 1 + 1 := by omega
  have hg : w.heap.size ≤ w.heap.size + 1 := by omega
  exact ⟨set3_at h.ent m g S' sc' G' gc', hc _ _ (by omega) h.err, by simp only [World.frozen?_setCell]; exact h.gerr, hc _ _ (by omega) h.b2, hc _ _ (by omega) h.b3, q2, q3, ((h.bl.setCell (p := ⟨w.heap.size + 1, 5, none⟩) hg _).setCell (p := ⟨w.heap.size + 1, 6, none⟩) hg _).setCell (p := ⟨w.heap.size + 1, 7, none⟩) hg _, ls, lg, ((rs.set (p := ⟨w.heap.size + 1, 5, none⟩) hl _).set (p := ⟨w.heap.size + 1, 6, none⟩) hl _).set (p := ⟨w.heap.size + 1, 7, none⟩) hl _, ((rg.set (p := ⟨w.heap.size + 1, 5, none⟩) hl _).set (p := ⟨w.heap.size + 1, 6, none⟩) hl _).set (p := ⟨w.heap.size + 1, 7, none⟩) hl _⟩
theorem St.three3 {w V : World} {B2 B3 : Nat} {y : Entry} {n : Int} {S G : Option Addr} {sc gc : Nat} (h : St w V B2 B3 y n S sc G gc) (m : List Times) (ng : Nat) (S' : Option Addr) (sc' : Nat) (G' : Option Addr)
    (ls : m.length ≤ sc' ∧ sc' ≤ maxLen) (lg : ng ≤ maxLen) (rs : R cTimes (w.heap.size + 1 + 1 + 1) V S' m) (rg : R cBool (w.heap.size + 1 + 1 + 1) V G' (List.replicate ng false)) :
    St w (((V.setCell ⟨w.heap.size + 1, 5, none⟩ (.bool true)).setCell ⟨w.heap.size + 1, 6, none⟩ (.slice S' m.length sc')).setCell ⟨w.heap.size + 1, 7, none⟩ (.slice G' ng ng)) B2 B3 ⟨y.id, y.ready, y.pin, y.used, true, m, List.replicate ng false⟩ n S' sc' G' ng := by
  have hl : (List.replicate ng false).length = ng := List.length_replicate
  have := h.three m (List.replicate ng false) S' sc' G' ng ls ⟨by rw [hl]; exact Nat.le_refl _, lg⟩ rs rg
  rw [hl] at this
  exact this
theorem St.three4 {w V : World} {B2 B3 : Nat} {y : Entry} {n : Int} {S G : Option Addr} {sc gc : Nat} (h : St w V B2 B3 y n S sc G gc) (m : List Times) (ng : Nat) (S' : Option Addr) (sc' : Nat) (t : TypeId)
    (ls : m.length ≤ sc' ∧ sc' ≤ maxLen) (lg : ng ≤ maxLen) (rs : R cTimes (w.heap.size + 1 + 1 + 1) V S' m) :
    St w ((((V.setCell ⟨w.heap.size + 1, 5, none⟩ (.bool true)).setCell ⟨w.heap.size + 1, 6, none⟩ (.slice S' m.length sc')).setCell ⟨w.heap.size + 1, 7, none⟩ (.slice (some ⟨V.heap.size, 0, none⟩) ng ng)).alloc (.cells (madeCells (Value.bool false).cells ng) t)) B2 B3 ⟨y.id, y.ready, y.pin, y.used, true, m, List.replicate ng false⟩ n S' sc' (some ⟨V.heap.size, 0, none⟩) ng := by
  have hl : (List.replicate ng false).length = ng := List.length_replicate
  have hat := set3_at h.ent m (List.replicate ng false) S' sc' (some ⟨V.heap.size, 0, none⟩) ng
  rw [hl] at hat
  have q2 := h.q2
  have q3 := h.q3
  have hV : w.heap.size + 1 + 1 < V.heap.size := World.block_lt_of_cell? V _ h.err
  have hne : ∀ b j, b ≠ w.heap.size + 1 → (⟨b, 0, none⟩ : Addr) ≠ ⟨w.heap.size + 1, j, none⟩ := fun b j hb e => hb (by injection e)
  have hc : ∀ b v, b ≠ w.heap.size + 1 → V.cell? ⟨b, 0, none⟩ = some v → (((V.setCell ⟨w.heap.size + 1, 5, none⟩ (.bool true)).setCell ⟨w.heap.size + 1, 6, none⟩ (.slice S' m.length sc')).setCell ⟨w.heap.size + 1, 7, none⟩ (.slice (some ⟨V.heap.size, 0, none⟩) ng ng)).cell? ⟨b, 0, none⟩ = some v := fun b v hb hv => cell_set_other (hne b _ hb) (cell_set_other (hne b _ hb) (cell_set_other (hne b _ hb) hv))
  replace hl : w.heap.size + 1 < w.heap.size + 1 + 1 + 1 := by omega
  have hg : w.heap.size ≤ w.heap.size + 1 := by omega
  have hf : (((V.setCell ⟨w.heap.size + 1, 5, none⟩ (.bool true)).setCell ⟨w.heap.size + 1, 6, none⟩ (.slice S' m.length sc')).setCell ⟨w.heap.size + 1, 7, none⟩ (.slice (some ⟨V.heap.size, 0, none⟩) ng ng)).frozen? ⟨w.heap.size + 1 + 1, 0, none⟩ = false := by simp only [World.frozen?_setCell]; exact h.gerr
  have hb : Bl w (((V.setCell ⟨w.heap.size + 1, 5, none⟩ (.bool true)).setCell ⟨w.heap.size + 1, 6, none⟩ (.slice S' m.length sc')).setCell ⟨w.heap.size + 1, 7, none⟩ (.slice (some ⟨V.heap.size, 0, none⟩) ng ng)) := ((h.bl.setCell (p := ⟨w.heap.size + 1, 5, none⟩) hg _).setCell (p := ⟨w.heap.size + 1, 6, none⟩) hg _).setCell (p := ⟨w.heap.size + 1, 7, none⟩) hg _
  have hr := ((rs.set (p := ⟨w.heap.size + 1, 5, none⟩) hl (.bool true)).set (p := ⟨w.heap.size + 1, 6, none⟩) hl (.slice S' m.length sc')).set (p := ⟨w.heap.size + 1, 7, none⟩) hl (.slice (some ⟨V.heap.size, 0, none⟩) ng ng)
  have c1 := hc _ _ (by omega) h.err
  have c2 := hc _ _ (by omega) h.b2
  have c3 := hc _ _ (by omega) h.b3
  have hX : (((V.setCell ⟨w.heap.size + 1, 5, none⟩ (.bool true)).setCell ⟨w.heap.size + 1, 6, none⟩ (.slice S' m.length sc')).setCell ⟨w.heap.size + 1, 7, none⟩ (.slice (some ⟨V.heap.size, 0, none⟩) ng ng)).heap.size = V.heap.size := by simp [World.setCell]
  generalize (((V.setCell ⟨w.heap.size + 1, 5, none⟩ (.bool true)).setCell ⟨w.heap.size + 1, 6, none⟩ (.slice S' m.length sc')).setCell ⟨w.heap.size + 1, 7, none⟩ (.slice (some ⟨V.heap.size, 0, none⟩) ng ng)) = X at *
  have made := R.made ng (w.heap.size + 1 + 1 + 1) X t (by omega)
  rw [hX] at made
  have hal : Bl X (X.alloc (.cells (madeCells (Value.bool false).cells ng) t)) := (Bl.refl X).alloc _
  exact ⟨hat.bl hal, (hal.cell (World.block_lt_of_cell? X _ c1)).trans c1, (hal.frozen (World.block_lt_of_cell? X _ c1)).trans hf, (hal.cell (World.block_lt_of_cell? X _ c2)).trans c2, (hal.cell (World.block_lt_of_cell? X _ c3)).trans c3, q2, q3, hb.trans hal, ls, ⟨by rw [List.length_replicate]; exact Nat.le_refl _, lg⟩, hr.bl hal, made⟩

/-- Behind a cut no other exit counts. -/
theorem wp_then_false {P : Program} {c : Code} {K : Act → World → Prop} {Q : Exit → Act → World → Prop} {a : Act} {w : World} (h : c.wp P (Exit.then K fun _ _ _ => False) a w) : c.wp P (Exit.then K Q) a w :=
  Code.wp_mono (fun e a w h => by cases e <;> first | exact h | exact False.elim h) h
end Go.Proofs.Ytegmddgbdjlidaa
