/-
  Small words: a new block's cells, a stamp's box.
-/
import Derived.Test.YteoodmilcpmmpaaGreatBase
namespace Go.Proofs.YteoodmilcpmmpaaGreat

open Go.RowKit

theorem frozen_new (w : World) (cs : Array Value) (t : TypeId) (o : Nat) : (w.alloc (.cells cs t)).frozen? ⟨w.heap.size, o, none⟩ = false := by
  have := heap_alloc_new w (.cells cs t)
  simp only [World.frozen?, this]
  simp

section

variable {w : World} {b off : Nat}

theorem At.lt {cs : List Value} (h : At w b off cs) (hn : 0 < cs.length) : b < w.heap.size := World.block_lt_of_cell? w _ (h 0 cs[0] (List.getElem?_eq_getElem hn)).1

theorem At.bl {w' : World} {cs : List Value} (h : At w b off cs) (hb : Bl w w') (hn : 0 < cs.length) : At w' b off cs := h.keep (hb.block b (h.lt hn))

theorem At.new (w : World) (cs : List Value) (t : TypeId) : At (w.alloc (.cells cs.toArray t)) w.heap.size 0 cs := fun j u hu => by
  refine ⟨?_, frozen_new w _ _ _⟩
  rw [World.cell?_alloc_at (w := w) _ _ w.heap.size _ rfl, Nat.zero_add]
  simpa using hu

end

/-- A stamp's two cells, in a box. -/
structure IdBox (W : World) (Y : Nat) (s : Id) : Prop where
  c0 : W.cell? ⟨Y, 0, none⟩ = some (.int .u32 s.t)
  c1 : W.cell? ⟨Y, 1, none⟩ = some (.int .u8 s.r)
  f0 : W.frozen? ⟨Y, 0, none⟩ = false
  f1 : W.frozen? ⟨Y, 1, none⟩ = false

theorem IdBox.lt {W : World} {Y : Nat} {s : Id} (h : IdBox W Y s) : Y < W.heap.size := World.block_lt_of_cell? W _ h.c0

theorem IdBox.bl {W W' : World} {Y : Nat} {s : Id} (h : IdBox W Y s) (hb : Bl W W') : IdBox W' Y s := ⟨(hb.cell h.lt).trans h.c0, (hb.cell h.lt).trans h.c1, (hb.frozen h.lt).trans h.f0, (hb.frozen h.lt).trans h.f1⟩

theorem box_set_other {w : World} {b o b' o' : Nat} {u v : Value} (h : (⟨b', o', none⟩ : Addr) ≠ ⟨b, o, none⟩) (hc : w.cell? ⟨b', o', none⟩ = some v) : (w.setCell ⟨b, o, none⟩ u).cell? ⟨b', o', none⟩ = some v :=
  (World.cell?_setCell_other w _ _ u (fun e => h e.symm)).trans hc

theorem box_set_same {w : World} {b o : Nat} {u v : Value} (hc : w.cell? ⟨b, o, none⟩ = some v) : (w.setCell ⟨b, o, none⟩ u).cell? ⟨b, o, none⟩ = some u :=
  World.cell?_setCell_same' _ _ _ (by rw [hc]; rfl)

theorem IdBox.set {W : World} {Y : Nat} {s : Id} (h : IdBox W Y s) (r : Id) : IdBox ((W.setCell ⟨Y, 0, none⟩ (.int .u32 r.t)).setCell ⟨Y, 1, none⟩ (.int .u8 r.r)) Y r :=
  ⟨box_set_other (by intro e; injection e with _ e; omega) (box_set_same h.c0), box_set_same (box_set_other (by intro e; injection e with _ e; omega) h.c1), by simp only [World.frozen?_setCell]; exact h.f0, by simp only [World.frozen?_setCell]; exact h.f1⟩

theorem IdBox.new (w : World) (s : Id) (t : TypeId) : IdBox (w.alloc (.cells #[Value.int IntKind.u32 s.t, Value.int IntKind.u8 s.r] t)) w.heap.size s := by
  have h := At.new w [Value.int IntKind.u32 s.t, Value.int IntKind.u8 s.r] t
  exact ⟨(h 0 _ rfl).1, (h 1 _ rfl).1, (h 0 _ rfl).2, (h 1 _ rfl).2⟩

end Go.Proofs.YteoodmilcpmmpaaGreat
