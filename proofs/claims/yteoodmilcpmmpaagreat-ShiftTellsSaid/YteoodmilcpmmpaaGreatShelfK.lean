/-
  What entries need out of the walks of fetch (by bin/shelfk.py), and the walks of shelf.Find, shelf.Put, the references Of, Find of layer 19.
  The walks of slices.Delete (entries), shelf.Drop; plain: what a shelf is behind Put, Drop (by bin/shelfk.py).
-/
import Derived.Test.YteoodmilcpmmpaaGreatShelfRef
import Derived.Test.YteoodmilcpmmpaaGreatAt
import Derived.Test.YteoodmilcpmmpaaGreatInsert2
import Derived.Deep.Cut
import Derived.Deep.CutRange
import Derived.Defers
import Derived.StillTailTactics
namespace Go.Proofs.YteoodmilcpmmpaaGreat

open Go.RowKit

/-- At a block stand an entry's cells. -/
def EntAt (w : World) (Y : Nat) (y : Entry) (A : Option Addr) (c : Nat) (B : Option Addr) (d : Nat) : Prop := ∀ (j : Nat) (u : Value), (entryCells y A c B d)[j]? = some u → w.cell? ⟨Y, j, none⟩ = some u ∧ w.frozen? ⟨Y, j, none⟩ = false

/-- The eight stores. -/
def set8 (w : World) (Y : Nat) (y : Entry) (A : Option Addr) (c : Nat) (B : Option Addr) (d : Nat) : World :=
  ((((((((w.setCell ⟨Y, 0, none⟩ (.int .u32 y.id.t)).setCell ⟨Y, 1, none⟩ (.int .u8 y.id.r)).setCell ⟨Y, 2, none⟩ (.bool y.ready)).setCell ⟨Y, 3, none⟩ (.bool y.pin)).setCell ⟨Y, 4, none⟩ (.int .i64 y.used)).setCell ⟨Y, 5, none⟩ (.bool y.known)).setCell ⟨Y, 6, none⟩ (.slice A y.snap.length c)).setCell ⟨Y, 7, none⟩ (.slice B y.got.length d))

theorem set8_at {w : World} {Y : Nat} {y0 : Entry} {A0 B0 : Option Addr} {c0 d0 : Nat} (h : EntAt w Y y0 A0 c0 B0 d0) (y : Entry) (A : Option Addr) (c : Nat) (B : Option Addr) (d : Nat) : EntAt (set8 w Y y A c B d) Y y A c B d := by
  obtain ⟨k0, f0⟩ := h 0 _ rfl
  obtain ⟨k1, f1⟩ := h 1 _ rfl
  obtain ⟨k2, f2⟩ := h 2 _ rfl
  obtain ⟨k3, f3⟩ := h 3 _ rfl
  obtain ⟨k4, f4⟩ := h 4 _ rfl
  obtain ⟨k5, f5⟩ := h 5 _ rfl
  obtain ⟨k6, f6⟩ := h 6 _ rfl
  obtain ⟨k7, f7⟩ := h 7 _ rfl
  have hne : ∀ {i j : Nat}, i ≠ j → (⟨Y, j, none⟩ : Addr) ≠ ⟨Y, i, none⟩ := fun h e => by injection e with _ e; exact h e.symm
  intro j u hu
  unfold set8
  have hj : j < 8 := by
    have := (List.getElem?_eq_some_iff.1 hu).1
    simpa [entryCells] using this
  refine ⟨?_, ?_⟩
  · match j, hj, hu with
    | 0, _, hu => simp only [entryCells, List.getElem?_cons_zero, Option.some.injEq] at hu; subst hu; exact (cell_set_other (hne (by decide)) (cell_set_other (hne (by decide)) (cell_set_other (hne (by decide)) (cell_set_other (hne (by decide)) (cell_set_other (hne (by decide)) (cell_set_other (hne (by decide)) (cell_set_other (hne (by decide)) (cell_set_same k0))))))))
    | 1, _, hu => simp only [entryCells, List.getElem?_cons_zero, List.getElem?_cons_succ, Option.some.injEq] at hu; subst hu; exact (cell_set_other (hne (by decide)) (cell_set_other (hne (by decide)) (cell_set_other (hne (by decide)) (cell_set_other (hne (by decide)) (cell_set_other (hne (by decide)) (cell_set_other (hne (by decide)) (cell_set_same (cell_set_other (hne (by decide)) k1))))))))
    | 2, _, hu => simp only [entryCells, List.getElem?_cons_zero, List.getElem?_cons_succ, Option.some.injEq] at hu; subst hu; exact (cell_set_other (hne (by decide)) (cell_set_other (hne (by decide)) (cell_set_other (hne (by decide)) (cell_set_other (hne (by decide)) (cell_set_other (hne (by decide)) (cell_set_same (cell_set_other (hne (by decide)) (cell_set_other (hne (by decide)) k2))))))))
    | 3, _, hu => simp only [entryCells, List.getElem?_cons_zero, List.getElem?_cons_succ, Option.some.injEq] at hu; subst hu; exact (cell_set_other (hne (by decide)) (cell_set_other (hne (by decide)) (cell_set_other (hne (by decide)) (cell_set_other (hne (by decide)) (cell_set_same (cell_set_other (hne (by decide)) (cell_set_other (hne (by decide)) (cell_set_other (hne (by decide)) k3))))))))
    | 4, _, hu => simp only [entryCells, List.getElem?_cons_zero, List.getElem?_cons_succ, Option.some.injEq] at hu; subst hu; exact (cell_set_other (hne (by decide)) (cell_set_other (hne (by decide)) (cell_set_other (hne (by decide)) (cell_set_same (cell_set_other (hne (by decide)) (cell_set_other (hne (by decide)) (cell_set_other (hne (by decide)) (cell_set_other (hne (by decide)) k4))))))))
    | 5, _, hu => simp only [entryCells, List.getElem?_cons_zero, List.getElem?_cons_succ, Option.some.injEq] at hu; subst hu; exact (cell_set_other (hne (by decide)) (cell_set_other (hne (by decide)) (cell_set_same (cell_set_other (hne (by decide)) (cell_set_other (hne (by decide)) (cell_set_other (hne (by decide)) (cell_set_other (hne (by decide)) (cell_set_other (hne (by decide)) k5))))))))
    | 6, _, hu => simp only [entryCells, List.getElem?_cons_zero, List.getElem?_cons_succ, Option.some.injEq] at hu; subst hu; exact (cell_set_other (hne (by decide)) (cell_set_same (cell_set_other (hne (by decide)) (cell_set_other (hne (by decide)) (cell_set_other (hne (by decide)) (cell_set_other (hne (by decide)) (cell_set_other (hne (by decide)) (cell_set_other (hne (by decide)) k6))))))))
    | 7, _, hu => simp only [entryCells, List.getElem?_cons_zero, List.getElem?_cons_succ, Option.some.injEq] at hu; subst hu; exact (cell_set_same (cell_set_other (hne (by decide)) (cell_set_other (hne (by decide)) (cell_set_other (hne (by decide)) (cell_set_other (hne (by decide)) (cell_set_other (hne (by decide)) (cell_set_other (hne (by decide)) (cell_set_other (hne (by decide)) k7))))))))
  · simp only [World.frozen?_setCell]
    match j, hj with
    | 0, _ => exact f0
    | 1, _ => exact f1
    | 2, _ => exact f2
    | 3, _ => exact f3
    | 4, _ => exact f4
    | 5, _ => exact f5
    | 6, _ => exact f6
    | 7, _ => exact f7

theorem run_makeFunc (fn : Fn) (first cap : Array Value) (w : World) : (Instr.makeFunc fn first cap).run Tryz.prog w = .ok (.func fn first cap) w := rfl

theorem EntAt.bl {w w' : World} {Y : Nat} {y : Entry} {A B : Option Addr} {c d : Nat} (h : EntAt w Y y A c B d) (hb : Bl w w') : EntAt w' Y y A c B d := fun j u hu =>
  have hl := World.block_lt_of_cell? w _ (h j u hu).1
  ⟨(hb.cell hl).trans (h j u hu).1, (hb.frozen hl).trans (h j u hu).2⟩

theorem EntAt.other {w : World} {Y E o : Nat} {y : Entry} {A B : Option Addr} {c d : Nat} (h : EntAt w Y y A c B d) (hne : E ≠ Y) (v : Value) : EntAt (w.setCell ⟨E, o, none⟩ v) Y y A c B d := fun j u hu =>
  ⟨cell_set_other (fun e => hne (by injection e with e _; exact e.symm)) (h j u hu).1, by rw [World.frozen?_setCell]; exact (h j u hu).2⟩

theorem EntAt.lt {w : World} {Y : Nat} {y : Entry} {A B : Option Addr} {c d : Nat} (h : EntAt w Y y A c B d) : Y < w.heap.size := World.block_lt_of_cell? w _ (h 0 _ rfl).1

theorem EntAt.cells {w : World} {Y : Nat} {y : Entry} {A B : Option Addr} {c d : Nat} (h : EntAt w Y y A c B d) :
    w.cell? ⟨Y, 0, none⟩ = some (.int .u32 y.id.t) ∧ w.cell? ⟨Y, 1, none⟩ = some (.int .u8 y.id.r) ∧ w.cell? ⟨Y, 2, none⟩ = some (.bool y.ready) ∧ w.cell? ⟨Y, 3, none⟩ = some (.bool y.pin) ∧ w.cell? ⟨Y, 4, none⟩ = some (.int .i64 y.used) ∧ w.cell? ⟨Y, 5, none⟩ = some (.bool y.known) ∧ w.cell? ⟨Y, 6, none⟩ = some (.slice A y.snap.length c) ∧ w.cell? ⟨Y, 7, none⟩ = some (.slice B y.got.length d) :=
  ⟨(h 0 _ rfl).1, (h 1 _ rfl).1, (h 2 _ rfl).1, (h 3 _ rfl).1, (h 4 _ rfl).1, (h 5 _ rfl).1, (h 6 _ rfl).1, (h 7 _ rfl).1⟩

theorem EntAt.frozens {w : World} {Y : Nat} {y : Entry} {A B : Option Addr} {c d : Nat} (h : EntAt w Y y A c B d) :
    w.frozen? ⟨Y, 0, none⟩ = false ∧ w.frozen? ⟨Y, 1, none⟩ = false ∧ w.frozen? ⟨Y, 2, none⟩ = false ∧ w.frozen? ⟨Y, 3, none⟩ = false ∧ w.frozen? ⟨Y, 4, none⟩ = false ∧ w.frozen? ⟨Y, 5, none⟩ = false ∧ w.frozen? ⟨Y, 6, none⟩ = false ∧ w.frozen? ⟨Y, 7, none⟩ = false :=
  ⟨(h 0 _ rfl).2, (h 1 _ rfl).2, (h 2 _ rfl).2, (h 3 _ rfl).2, (h 4 _ rfl).2, (h 5 _ rfl).2, (h 6 _ rfl).2, (h 7 _ rfl).2⟩

theorem set8_bl {a w : World} {Y : Nat} (h : Bl a w) (hY : a.heap.size ≤ Y) (y : Entry) (A : Option Addr) (c : Nat) (B : Option Addr) (d : Nat) : Bl a (set8 w Y y A c B d) :=
  (((((((h.setCell (p := ⟨Y, 0, none⟩) hY _).setCell (p := ⟨Y, 1, none⟩) hY _).setCell (p := ⟨Y, 2, none⟩) hY _).setCell (p := ⟨Y, 3, none⟩) hY _).setCell (p := ⟨Y, 4, none⟩) hY _).setCell (p := ⟨Y, 5, none⟩) hY _).setCell (p := ⟨Y, 6, none⟩) hY _).setCell (p := ⟨Y, 7, none⟩) hY _

theorem set8_R {α : Type} {C : Codec α} {lo Y : Nat} {w : World} {A : Option Addr} {xs : List α} (h : R C lo w A xs) (hY : Y < lo) (y : Entry) (A' : Option Addr) (c : Nat) (B : Option Addr) (d : Nat) : R C lo (set8 w Y y A' c B d) A xs :=
  R.set (R.set (R.set (R.set (R.set (R.set (R.set (R.set h hY _) hY _) hY _) hY _) hY _) hY _) hY _) hY _

theorem R.int {lo : Nat} {w : World} {b off k : Nat} {l : List Int} {x : Int} (h : R cInt lo w (some ⟨b, off, none⟩) l) (hk : l[k]? = some x) :
    (lo ≤ b ∧ b < w.heap.size) ∧ i64ok x ∧ w.cell? ⟨b, off + k, none⟩ = some (.int .i64 x) := by
  obtain ⟨h1, m, ⟨h2, rfl⟩, ha⟩ := R.get h hk
  have := ha 0 _ rfl
  rw [show off + k * cInt.size + 0 = off + k from by show off + k * 1 + 0 = _; omega] at this
  exact ⟨h1, h2, this.1⟩

theorem EntAt.new (w : World) (x : Entry) (A : Option Addr) (c : Nat) (B : Option Addr) (d : Nat) (t : TypeId) : EntAt (w.alloc (.cells #[Value.int IntKind.u32 x.id.t, Value.int IntKind.u8 x.id.r, Value.bool x.ready, Value.bool x.pin, Value.int IntKind.i64 x.used, Value.bool x.known, Value.slice A x.snap.length c, Value.slice B x.got.length d] t)) w.heap.size x A c B d := fun j u hu =>
  ⟨by rw [cell_of_row _ w.heap.size j _ t (0, 0) (heap_alloc_new w _)]; simpa [entryCells] using hu, frozen_new w _ t j⟩

/-- An entry that a world holds. -/
structure Held (V : World) (x : Entry) (A : Option Addr) (c : Nat) (B : Option Addr) (d : Nat) : Prop where
  l1 : x.snap.length ≤ c
  l2 : c ≤ maxLen
  l3 : x.got.length ≤ d
  l4 : d ≤ maxLen
  hS : R cTimes 0 V A x.snap
  hG : R cBool 0 V B x.got

theorem Held.bl {V V' : World} {x : Entry} {A B : Option Addr} {c d : Nat} (h : Held V x A c B d) (hb : Bl V V') : Held V' x A c B d := ⟨h.l1, h.l2, h.l3, h.l4, h.hS.bl hb, h.hG.bl hb⟩

theorem zeroE_held (V : World) : Held V zeroE none 0 none 0 := ⟨Nat.le_refl _, Nat.zero_le _, Nat.le_refl _, Nat.zero_le _, R.nil, R.nil⟩

/-- The blocks that were there, but two. -/
def Off (Y G : Nat) (w : World) : Nat → Prop := fun b => b < w.heap.size ∧ b ≠ Y ∧ b ≠ G

theorem Off.bl {Y G : Nat} {w w' : World} (hb : Bl w w') : ∀ b, Off Y G w b → Off Y G w' b := fun _ h => ⟨Nat.lt_of_lt_of_le h.1 hb.size, h.2⟩

theorem Off.keeps {Y G b o : Nat} {w : World} {u : Value} (h : b = Y ∨ b = G) : Keeps (Off Y G w) w (w.setCell ⟨b, o, none⟩ u) := fun k hk => Below.heap_setCell w ⟨b, o, none⟩ u k (by have := hk.2; intro e; simp only at e; omega)

theorem Off.same {Y G b o : Nat} {w : World} {u : Value} : ∀ k, Off Y G w k → Off Y G (w.setCell ⟨b, o, none⟩ u) k := fun _ h => ⟨by simpa [World.setCell] using h.1, h.2⟩

/-- An entry that a world holds, clear of two blocks. -/
structure HeldO (Y G : Nat) (V : World) (x : Entry) (A : Option Addr) (c : Nat) (B : Option Addr) (d : Nat) : Prop where
  l1 : x.snap.length ≤ c
  l2 : c ≤ maxLen
  l3 : x.got.length ≤ d
  l4 : d ≤ maxLen
  hS : RS cTimes V (Off Y G V) A x.snap
  hG : RS cBool V (Off Y G V) B x.got

theorem HeldO.bl {Y G : Nat} {V V' : World} {x : Entry} {A B : Option Addr} {c d : Nat} (h : HeldO Y G V x A c B d) (hb : Bl V V') : HeldO Y G V' x A c B d :=
  ⟨h.l1, h.l2, h.l3, h.l4, h.hS.keep (hb.keeps fun _ h => h.1) (Off.bl hb), h.hG.keep (hb.keeps fun _ h => h.1) (Off.bl hb)⟩

theorem HeldO.set {Y G b o : Nat} {V : World} {x : Entry} {A B : Option Addr} {c d : Nat} {u : Value} (h : HeldO Y G V x A c B d) (hb : b = Y ∨ b = G) : HeldO Y G (V.setCell ⟨b, o, none⟩ u) x A c B d :=
  ⟨h.l1, h.l2, h.l3, h.l4, h.hS.keep (Off.keeps hb) Off.same, h.hG.keep (Off.keeps hb) Off.same⟩

theorem HeldO.set8 {Y G : Nat} {V : World} {x y : Entry} {A B A' B' : Option Addr} {c d c' d' : Nat} (h : HeldO Y G V x A c B d) : HeldO Y G (set8 V Y y A' c' B' d') x A c B d :=
  (((((((h.set (.inl rfl)).set (.inl rfl)).set (.inl rfl)).set (.inl rfl)).set (.inl rfl)).set (.inl rfl)).set (.inl rfl)).set (.inl rfl)

theorem HeldO.held {Y G : Nat} {V : World} {x : Entry} {A B : Option Addr} {c d : Nat} (h : HeldO Y G V x A c B d) : Held V x A c B d :=
  ⟨h.l1, h.l2, h.l3, h.l4, h.hS.up fun _ h => ⟨Nat.zero_le _, h.1⟩, h.hG.up fun _ h => ⟨Nat.zero_le _, h.1⟩⟩

/-- What lay before them both. -/
theorem HeldO.old {Y G : Nat} {V V' : World} {x : Entry} {A B : Option Addr} {c d : Nat} (h : Held V x A c B d) (hb : Bl V V') (hY : V.heap.size ≤ Y) (hG : V.heap.size ≤ G) : HeldO Y G V' x A c B d :=
  ⟨h.l1, h.l2, h.l3, h.l4, h.hS.keep (hb.keeps fun _ h => h.2) fun b h => ⟨Nat.lt_of_lt_of_le h.2 hb.size, by have := h.2; omega, by have := h.2; omega⟩, h.hG.keep (hb.keeps fun _ h => h.2) fun b h => ⟨Nat.lt_of_lt_of_le h.2 hb.size, by have := h.2; omega, by have := h.2; omega⟩⟩

theorem EntAt.set8 {w : World} {Y E : Nat} {x y : Entry} {A B A' B' : Option Addr} {c d c' d' : Nat} (h : EntAt w E x A c B d) (hne : Y ≠ E) : EntAt (set8 w Y y A' c' B' d') E x A c B d :=
  (((((((h.other hne _).other hne _).other hne _).other hne _).other hne _).other hne _).other hne _).other hne _

/-- A section's entry. -/
def entOf (l : List Entry) (s : Id) : Option Entry := l.find? fun x => decide (x.id = s)

def findE (l : List Entry) (s : Id) : Entry := if shelfMay l then (entOf l s).getD zeroE else zeroE

def findB (l : List Entry) (s : Id) : Bool := shelfMay l && (entOf l s).isSome

theorem idLess_trans {a b c : Id} (h : idLess a b = true) (k : idLess b c = true) : idLess a c = true := by
  unfold idLess at *
  simp only [Bool.or_eq_true, Bool.and_eq_true, decide_eq_true_eq] at *
  omega

theorem idLess_irrefl (a : Id) : idLess a a = false := by unfold idLess; simp

theorem idLess_asymm {a b : Id} (h : idLess a b = true) : idLess b a = false := by
  cases k : idLess b a
  · rfl
  · have := idLess_trans h k
    rw [idLess_irrefl] at this
    cases this

theorem shelfFrom_all {l : List Entry} : ∀ {prev : Option Id}, shelfFrom prev l = true → (∀ x ∈ l, entryMay x = true ∧ (∀ p, prev = some p → idLess p x.id = true)) ∧ (∀ (i j : Nat) (x y : Entry), i < j → l[i]? = some x → l[j]? = some y → idLess x.id y.id = true) := by
  induction l with
  | nil => intro prev _; exact ⟨fun x hx => (by cases hx), fun i j x y _ h => (by simp at h)⟩
  | cons z l ih =>
    intro prev h
    rw [shelfFrom, Bool.and_eq_true, Bool.and_eq_true] at h
    obtain ⟨⟨h1, h2⟩, h3⟩ := h
    obtain ⟨k1, k2⟩ := ih h3
    refine ⟨fun x hx => ?_, fun i j x y hij hi hj => ?_⟩
    · rcases List.mem_cons.1 hx with rfl | hx
      · refine ⟨h1, fun p hp => ?_⟩
        subst hp
        exact h2
      · refine ⟨(k1 x hx).1, fun p hp => ?_⟩
        subst hp
        exact idLess_trans h2 ((k1 x hx).2 _ rfl)
    · cases i with
      | zero =>
        cases j with
        | zero => omega
        | succ j =>
          simp at hi hj
          subst hi
          exact (k1 y (List.mem_of_getElem? hj)).2 _ rfl
      | succ i =>
        cases j with
        | zero => omega
        | succ j => exact k2 i j x y (by omega) (by simpa using hi) (by simpa using hj)

theorem may_from {l : List Entry} (h : shelfMay l = true) : l.length ≤ 65 ∧ shelfFrom none l = true := by
  unfold shelfMay at h
  rw [Bool.and_eq_true] at h
  exact ⟨of_decide_eq_true h.1, h.2⟩

theorem may_entry {l : List Entry} (h : shelfMay l = true) : ∀ x ∈ l, entryMay x = true := fun x hx => ((shelfFrom_all (may_from h).2).1 x hx).1

theorem may_less {l : List Entry} (h : shelfMay l = true) : ∀ (i j : Nat) (x y : Entry), i < j → l[i]? = some x → l[j]? = some y → idLess x.id y.id = true := (shelfFrom_all (may_from h).2).2

theorem may_small {l : List Entry} (h : shelfMay l = true) : smallS l := ⟨by have := (may_from h).1; omega, fun x hx => small_of_may (may_entry h x hx)⟩

/-- Where it is found. -/
theorem at_found {l : List Entry} {s : Id} {k : Nat} {x : Entry} (h : shelfMay l = true) (hx : l[k]? = some x) (hs : x.id = s) : atOf l s = ((k : Int), true) := by
  refine at_hit hx (by unfold hitOf; rw [if_pos hs]) fun j y hj hy => ?_
  have hl := may_less h k j x y hj hx hy
  rw [hs] at hl
  unfold hitOf
  rw [if_neg (fun e => by rw [e, idLess_irrefl] at hl; cases hl), idLess_asymm hl]
  rfl

theorem scan_true (s : Id) : ∀ r : List Entry, (atScan s r).2 = true → ∃ x ∈ r, x.id = s := by
  intro r
  induction r with
  | nil => intro h; cases h
  | cons x r ih =>
    intro h
    rw [atScan] at h
    unfold hitOf at h
    by_cases hx : x.id = s
    · exact ⟨x, by simp, hx⟩
    · rw [if_neg hx] at h
      cases hq : idLess x.id s
      · rw [hq] at h
        obtain ⟨y, hy, e⟩ := ih h
        exact ⟨y, by simp [hy], e⟩
      · rw [hq] at h; cases h

theorem ent_some {l : List Entry} {s : Id} {x : Entry} (h : entOf l s = some x) : ∃ k : Nat, l[k]? = some x ∧ x.id = s := by
  have h1 := List.find?_some h
  obtain ⟨k, hk⟩ := List.getElem?_of_mem (List.mem_of_find?_eq_some h)
  exact ⟨k, hk, by simpa using h1⟩

theorem ent_none {l : List Entry} {s : Id} (h : entOf l s = none) : ∀ x ∈ l, x.id ≠ s := by
  intro x hx
  have := List.find?_eq_none.1 h x hx
  simpa using this

theorem at_false {l : List Entry} {s : Id} (h : entOf l s = none) : (atOf l s).2 = false := by
  cases hb : (atOf l s).2
  · rfl
  · obtain ⟨x, hx, e⟩ := scan_true s _ hb
    exact absurd e (ent_none h x (by simpa using hx))

theorem ent_drop {l : List Entry} {s : Id} {k : Nat} (h : entOf l s = entOf (l.drop k) s) {x : Entry} (hd : l.drop k = x :: l.drop (k + 1)) : (x.id = s → entOf l s = some x) ∧ (x.id ≠ s → entOf l s = entOf (l.drop (k + 1)) s) := by
  rw [h, hd]
  unfold entOf
  rw [List.find?_cons]
  constructor
  · intro e; simp [e]
  · intro e; simp [e]

/-- What hands back an entry, and a bool: in memory of its own. -/
def EntB (y : Entry) (b : Bool) (w : World) (e : Ending) (w' : World) : Prop := ∃ A c B d, e = .returned (.tuple #[.agg #[.int .u32 y.id.t, .int .u8 y.id.r, .bool y.ready, .bool y.pin, .int .i64 y.used, .bool y.known, .slice A y.snap.length c, .slice B y.got.length d], .bool b]) ∧ y.snap.length ≤ c ∧ c ≤ maxLen ∧ y.got.length ≤ d ∧ d ≤ maxLen ∧ R cTimes w.heap.size w' A y.snap ∧ R cBool w.heap.size w' B y.got ∧ Bl w w'

/-- .. held. -/
def EntH (y : Entry) (b : Bool) (w : World) (e : Ending) (w' : World) : Prop := ∃ A c B d, e = .returned (.tuple #[.agg #[.int .u32 y.id.t, .int .u8 y.id.r, .bool y.ready, .bool y.pin, .int .i64 y.used, .bool y.known, .slice A y.snap.length c, .slice B y.got.length d], .bool b]) ∧ Held w' y A c B d ∧ Bl w w'

theorem entzero_o (w : World) (o : Obj) : EntAt ((w.alloc o).alloc (Obj.cells #[Value.int IntKind.u32 0, Value.int IntKind.u8 0, Value.bool false, Value.bool false, Value.int IntKind.i64 0, Value.bool false, Value.slice none 0 0, Value.slice none 0 0] 62)) (w.heap.size + 1) zeroE none 0 none 0 := by
  have := EntAt.new (w.alloc o) zeroE none 0 none 0 62
  rw [World.size_alloc] at this
  exact this

theorem pairbox (w : World) (s : Id) : ∃ W, W = (w.alloc (.cells #[Value.int IntKind.u32 s.t, Value.int IntKind.u8 s.r] 25)).alloc (Obj.cells #[Value.int IntKind.u32 0, Value.int IntKind.u8 0, Value.bool false, Value.bool false, Value.int IntKind.i64 0, Value.bool false, Value.slice none 0 0, Value.slice none 0 0] 62) ∧
    Bl w W ∧ w.heap.size + 1 < W.heap.size ∧ W.cell? ⟨w.heap.size, 0, none⟩ = some (.int .u32 s.t) ∧ W.cell? ⟨w.heap.size, 1, none⟩ = some (.int .u8 s.r) ∧ EntAt W (w.heap.size + 1) zeroE none 0 none 0 := by
  refine ⟨_, rfl, ((Bl.refl _).alloc _).alloc _, by simp, ?_, ?_, entzero_o w _⟩
  · rw [((Bl.refl (w.alloc (.cells #[Value.int IntKind.u32 s.t, Value.int IntKind.u8 s.r] 25))).alloc _).cell (by rw [World.size_alloc]; omega), cell_of_row _ w.heap.size 0 _ _ (0, 0) (heap_alloc_new w _)]
    rfl
  · rw [((Bl.refl (w.alloc (.cells #[Value.int IntKind.u32 s.t, Value.int IntKind.u8 s.r] 25))).alloc _).cell (by rw [World.size_alloc]; omega), cell_of_row _ w.heap.size 1 _ _ (0, 0) (heap_alloc_new w _)]
    rfl

set_option maxRecDepth 100000 in
set_option maxHeartbeats 1000000 in
theorem shelfFind (A : Option Addr) (c : Nat) (l : List Entry) (s : Id) (w : World) (hl : l.length ≤ 1099511627776) (hs : s.ok) (hA : R cEntry 0 w A l) :
    Calls Tryz.prog 34 #[.slice A l.length c, .agg #[.int .u32 s.t, .int .u8 s.r]] w (EntB (findE l s) (findB l s) w) := by
  have hchk := fun W (hb : Bl w W) => shelfCheck A c l W (by unfold maxLen; omega) (hA.bl hb)
  cases hm : shelfMay l
  · have e1 := hide (show findE l s = zeroE by unfold findE; rw [hm]; rfl)
    have e2 := hide (show findB l s = false by unfold findB; rw [hm]; rfl)
    rw [hm, okOr_false] at hchk
    replace hchk := hide hchk
    clear hm
    go_enter Tryz.func34, Tryz.ntmps34
    go_wp2_with fail
    obtain ⟨W, hW, hbl, hz, s0, s1, at1⟩ := pairbox w s
    rw [← hW]
    clear hW
    refine (hchk.out _ hbl).mono ?_
    rintro e w1 ⟨rfl, hb1⟩
    obtain ⟨y0, y1, y2, y3, y4, y5, y6, y7⟩ := (at1.bl hb1).cells
    obtain ⟨f0, f1, f2, f3, f4, f5, f6, f7⟩ := (at1.bl hb1).frozens
    go_wp2_with fail
    refine bodyPost_ret (v := .tuple #[.agg #[.int .u32 0, .int .u8 0, .bool false, .bool false, .int .i64 0, .bool false, .slice none 0 0, .slice none 0 0], .bool false]) (by simp [results, Tryz.results34, go_sem, y0, y1, y2, y3, y4, y5, y6, y7]) rfl ?_
    rw [e1.out, e2.out]
    exact ⟨none, 0, none, 0, rfl, Nat.le_refl _, Nat.zero_le _, Nat.le_refl _, Nat.zero_le _, R.nil, R.nil, set8_bl (hbl.trans hb1) (Y := w.heap.size + 1) (by omega) zeroE none 0 none 0⟩
  have hsm := hide (may_small hm)
  have hat := fun W (hb : Bl w W) => shelfAt A c l s W hl hs (hA.bl hb)
  cases hf : entOf l s
  · have e1 := hide (show findE l s = zeroE by unfold findE; rw [hm, hf]; rfl)
    have e2 := hide (show findB l s = false by unfold findB; rw [hm, hf]; rfl)
    rw [hm, okOr_true] at hchk
    rw [at_false hf] at hat
    generalize (atOf l s).1 = n at *
    replace hchk := hide hchk
    replace hat := hide hat
    clear hm hf
    go_enter Tryz.func34, Tryz.ntmps34
    go_wp2_with fail
    obtain ⟨W, hW, hbl, hz, s0, s1, at1⟩ := pairbox w s
    rw [← hW]
    clear hW
    refine (hchk.out _ hbl).mono ?_
    rintro e w1 ⟨rfl, hb1⟩
    have S0 := (hb1.cell (by omega)).trans s0
    have S1 := (hb1.cell (by omega)).trans s1
    have hz1 := hb1.size
    go_wp2_with fail
    refine (hat.out _ (hbl.trans hb1)).mono ?_
    rintro e w2 ⟨rfl, hb2⟩
    have hb12 := hb1.trans hb2
    obtain ⟨y0, y1, y2, y3, y4, y5, y6, y7⟩ := (at1.bl hb12).cells
    obtain ⟨f0, f1, f2, f3, f4, f5, f6, f7⟩ := (at1.bl hb12).frozens
    go_wp2_with fail
    refine bodyPost_ret (v := .tuple #[.agg #[.int .u32 0, .int .u8 0, .bool false, .bool false, .int .i64 0, .bool false, .slice none 0 0, .slice none 0 0], .bool false]) (by simp [results, Tryz.results34, go_sem, y0, y1, y2, y3, y4, y5, y6, y7]) rfl ?_
    rw [e1.out, e2.out]
    exact ⟨none, 0, none, 0, rfl, Nat.le_refl _, Nat.zero_le _, Nat.le_refl _, Nat.zero_le _, R.nil, R.nil, set8_bl (hbl.trans hb12) (Y := w.heap.size + 1) (by omega) zeroE none 0 none 0⟩
  · rename_i y
    have e1 := hide (show findE l s = y by unfold findE; rw [hm, hf]; rfl)
    have e2 := hide (show findB l s = true by unfold findB; rw [hm, hf]; rfl)
    obtain ⟨k, hk, hks⟩ := ent_some hf
    rw [hm, okOr_true] at hchk
    rw [at_found hm hk hks] at hat
    have hkl : k < l.length := (List.getElem?_eq_some_iff.1 hk).1
    have hysm := hide (hsm.out.2 y (List.mem_of_getElem? hk))
    replace hchk := hide hchk
    replace hat := hide hat
    obtain ⟨b, off, rfl, _, hb⟩ := hA.addr (by omega)
    obtain ⟨_, ho, S, sc, G, gc, q1, q2, q3, q4, hS, hG, c0, c1, c2, c3, c4, c5, c6, c7⟩ := hA.entry hk
    clear hm hf hks hk
    go_enter Tryz.func34, Tryz.ntmps34
    go_wp2_with fail
    obtain ⟨W, hW, hbl, hz, s0, s1, at1⟩ := pairbox w s
    rw [← hW]
    clear hW
    refine (hchk.out _ hbl).mono ?_
    rintro e w1 ⟨rfl, hb1⟩
    have S0 := (hb1.cell (by omega)).trans s0
    have S1 := (hb1.cell (by omega)).trans s1
    have hz1 := hb1.size
    go_wp2_with fail
    refine (hat.out _ (hbl.trans hb1)).mono ?_
    rintro e w2 ⟨rfl, hb2⟩
    have hb12 := hb1.trans hb2
    have hb02 := hbl.trans hb12
    replace c0 := (hb02.cell hb).trans c0
    replace c1 := (hb02.cell hb).trans c1
    replace c2 := (hb02.cell hb).trans c2
    replace c3 := (hb02.cell hb).trans c3
    replace c4 := (hb02.cell hb).trans c4
    replace c5 := (hb02.cell hb).trans c5
    replace c6 := (hb02.cell hb).trans c6
    replace c7 := (hb02.cell hb).trans c7
    have hz2 := hb12.size
    clear S0 S1 s0 s1
    go_wp2_with fail
    refine (shelfOwn y S G sc gc _ hysm.out (hS.bl hb02) (hG.bl hb02)).mono ?_
    rintro e w3 ⟨A3, d1, B3, d2, rfl, l1, l2, l3, l4, hS3, hG3, hb3⟩
    have hb13 := hb12.trans hb3
    obtain ⟨y0, y1, y2, y3, y4, y5, y6, y7⟩ := (at1.bl hb13).cells
    obtain ⟨f0, f1, f2, f3, f4, f5, f6, f7⟩ := (at1.bl hb13).frozens
    have hset := set8_bl (hbl.trans hb13) (Y := w.heap.size + 1) (by omega) y A3 d1 B3 d2
    clear c0 c1 c2 c3 c4 c5 c6 c7
    go_wp2_with fail
    refine bodyPost_ret (v := .tuple #[.agg #[.int .u32 y.id.t, .int .u8 y.id.r, .bool y.ready, .bool y.pin, .int .i64 y.used, .bool y.known, .slice A3 y.snap.length d1, .slice B3 y.got.length d2], .bool true]) (by simp [results, Tryz.results34, go_sem, y0, y1, y2, y3, y4, y5, y6, y7]) rfl ?_
    rw [e1.out, e2.out]
    exact ⟨A3, d1, B3, d2, rfl, l1, l2, l3, l4, (set8_R hS3 (Y := w.heap.size + 1) (by omega) y A3 d1 B3 d2).more (by omega), (set8_R hG3 (Y := w.heap.size + 1) (by omega) y A3 d1 B3 d2).more (by omega), hset⟩

/-- What a call that hands back a list of its own says. -/
def NewOwn (l : List Entry) (w : World) (e : Ending) (w' : World) : Prop := ∃ v, e = .returned v ∧ Own cEntry 62 w.heap.size w' v l ∧ Bl w w'

set_option maxRecDepth 100000 in
set_option maxHeartbeats 1000000 in
theorem shelfTwinO (A : Option Addr) (c : Nat) (l : List Entry) (w : World) (hl : smallS l) (hA : R cEntry 0 w A l) :
    Calls Tryz.prog 75 #[.slice A l.length c] w (NewOwn l w) := by
  obtain ⟨i0, hi, hz0, hz1, hz2⟩ := info_parts Tryz.infoEntry
  obtain ⟨hl, hsm⟩ := hl
  replace hsm := hide hsm
  go_enter Tryz.func75, Tryz.ntmps75
  go_wp2
  go_loopw [2, 7] (fun v i wr => Bl w wr ∧ ∃ k : Nat, k ≤ l.length ∧ i = .int .i64 k ∧ Own cEntry 62 w.heap.size wr v (l.take k)) (fun _ i _ => l.length - (intOf i).toNat)
  case atStart => exact ⟨Bl.refl _, 0, Nat.zero_le _, rfl, Own.nil⟩
  case round =>
    obtain ⟨hbl, k, hk, rfl, hown⟩ := hrel
    by_cases hlt : k < l.length
    · have hR := hA.bl hbl
      obtain ⟨b, off, rfl, _, hb⟩ := hR.addr (by omega)
      obtain ⟨x, hx⟩ := get_lt hlt
      obtain ⟨_, ho, S, sc, G, gc, s1, s2, g1, g2, hS, hG, c0, c1, c2, c3, c4, c5, c6, c7⟩ := hR.entry hx
      have hts := hide (take_snoc hx)
      have hxs := hsm.out x (List.mem_of_getElem? hx)
      clear hx
      go_wp2_with (first
        | (go_at_call 91; refine (shelfOwn x S G sc gc _ hxs (hS.bl ((Bl.refl _).alloc _)) (hG.bl ((Bl.refl _).alloc _))).mono ?_; rintro e w1 ⟨A1, c1', B1, d1, rfl, h1, h2, h3, h4, hr1, hr2, hb0⟩; have hb1 := ((Bl.refl wr).alloc _).trans hb0; have hW1 : wr.heap.size ≤ w1.heap.size := hb1.size; have hsz := hbl.size)
        | (at_builtin
           refine wpList_append_any2 (C := cEntry) (xs := l.take k) (ys := [x]) rfl (.tmp 11) (.tmp 14) _ rfl 62 i0 _ 80 Tryz.underlying56 hi hz0 hz1 hz2 rfl _ w.heap.size rfl ((hown.bl hb1).bl ((Bl.refl _).alloc _)) (some ⟨w1.heap.size, 0, none⟩) 1 _ rfl rfl (hown.src (cs := entryCells x A1 c1' B1 d1) hb1 hsz ⟨ho, A1, c1', B1, d1, h1, h2, h3, h4, rfl, hr1.more (by simp), hr2.more (by simp)⟩) ?c1 ?c2 ?c3 ?_
           case c1 => simp [maxLen]; omega
           case c2 => simp; omega
           case c3 => simp; omega
           intro v2 w2 hown2 hg2 _
           have hbl2 : Bl w w2 := ((hbl.trans hb1).alloc _).app ((hown.bl hb1).bl ((Bl.refl _).alloc _)) (Nat.le_refl _) hg2))
      go_roundw
      case rel => exact ⟨hbl2, k + 1, by omega, by go_num, by rw [hts.out]; exact hown2⟩
      case measure => simp [intOf]; omega
    · have hkl : l.length ≤ k := by omega
      go_wp2
      go_ret
      rw [List.take_of_length_le hkl] at hown
      exact ⟨_, rfl, hown, hbl⟩

theorem atScan_bd (s : Id) : ∀ r : List Entry, 0 ≤ (atScan s r).1 ∧ (atScan s r).1 ≤ r.length := by
  intro r
  induction r with
  | nil => exact ⟨Int.le_refl _, Int.le_refl _⟩
  | cons x r ih =>
    rw [atScan]
    unfold hitOf
    by_cases hx : x.id = s
    · rw [if_pos hx]
      simp only [List.length_cons]
      omega
    · rw [if_neg hx]
      cases idLess x.id s
      · simp only [Bool.false_eq_true, if_false, List.length_cons]
        push_cast
        omega
      · simp only [if_true, List.length_cons]
        push_cast
        omega

theorem atOf_bd (l : List Entry) (s : Id) : 0 ≤ (atOf l s).1 ∧ (atOf l s).1 ≤ l.length := by
  have := atScan_bd s l.reverse
  rwa [List.length_reverse] at this

def putN (l : List Entry) (x : Entry) : Int := if shelfMay l && entryMay x then (if (atOf l x.id).2 then 0 else if l.length = 65 then 9 else 0) else 8

def putEL (l : List Entry) (x : Entry) : List Entry := if putN l x = 0 then (if (atOf l x.id).2 then l.set (atOf l x.id).1.toNat x else l.take (atOf l x.id).1.toNat ++ x :: l.drop (atOf l x.id).1.toNat) else []

/-- One of a row's elements is written. -/
theorem Own.put {base g n : Nat} {cap : Nat} {w : World} {xs : List Entry} {y : Entry} {A B : Option Addr} {c d : Nat} (h : Own cEntry 62 base w (.slice (some ⟨g, 0, none⟩) xs.length cap) xs) (hn : n < xs.length)
    (hy : cEntry.rd w (fun b => (base ≤ b ∧ b < w.heap.size) ∧ b ≠ g) y (entryCells y A c B d)) :
    R cEntry base (w.setCells g (n * 8) (entryCells y A c B d)) (some ⟨g, 0, none⟩) (xs.set n y) ∧ base ≤ g ∧ xs.length ≤ cap ∧ cap ≤ maxLen := by
  obtain ⟨cells, ⟨hcl, hnl | ⟨g', cap', cur, hv, hbg, hgc, hnc, hcm, hsz, htk⟩⟩, hr⟩ := h
  · cases hnl.1
  injection hv with hv _ hv2
  injection hv with hv
  injection hv with hv _
  subst hv hv2
  have h8 : cEntry.size = 8 := rfl
  rw [h8] at hcl hsz htk
  have hxs : xs = xs.take n ++ (xs[n]'hn :: xs.drop (n + 1)) := by rw [← List.drop_eq_getElem_cons hn, List.take_append_drop]
  have hr2 := hr
  rw [hxs] at hr2
  obtain ⟨ca, cr, hcc, hra, co, cb, hcr, hro, hrb⟩ := hr2.split
  subst hcr
  have hcal : ca.length = n * 8 := by
    have := hra.length
    rw [List.length_take, Nat.min_eq_left (by omega)] at this
    exact this
  have hcol : co.length = 8 := cEntry.len hro
  have hset : xs.set n y = xs.take n ++ (y :: xs.drop (n + 1)) := by rw [List.set_eq_take_append_cons_drop, if_pos hn]
  have hob : ∀ b, ((base ≤ b ∧ b < w.heap.size) ∧ (Value.slice (some ⟨g, 0, none⟩) xs.length cap).ownBlock ≠ some b) → b ≠ g := fun b hb e => hb.2 (by rw [e]; rfl)
  have hcell : ∀ (j : Nat) u, cells[j]? = some u → w.cell? ⟨g, j, none⟩ = some u := fun j u hu => by
    rw [cell_of_row w g j cur _ (0, 0) hgc]
    rw [← htk, List.getElem?_take] at hu
    split at hu
    · simpa using hu
    · cases hu
  have hvl : (entryCells y A c B d).length = 8 := rfl
  have hin : ∀ j, j < 8 → (w.cell? ⟨g, n * 8 + j, none⟩).isSome = true := fun j hj => by
    rw [hcell (n * 8 + j) (cells[n * 8 + j]'(by omega)) (List.getElem?_eq_getElem (by omega))]
    rfl
  refine ⟨?_, hbg, hnc, hcm⟩
  rw [hset]
  refine ⟨ca ++ (entryCells y A c B d ++ cb), (hra.keep (keeps_setCells hob _ _ _) fun b hb => ⟨hb.1.1, by rw [size_setCells]; exact hb.1.2⟩).append (RdL.append (xs := [y]) (RdL.one1 (cEntry.keep (keeps_setCells (fun b hb => hb.2) _ _ _) (fun b hb => ⟨hb.1.1, by rw [size_setCells]; exact hb.1.2⟩) hy)) (hrb.keep (keeps_setCells hob _ _ _) fun b hb => ⟨hb.1.1, by rw [size_setCells]; exact hb.1.2⟩)), fun _ => ⟨g, 0, rfl, ⟨hbg, by rw [size_setCells]; exact (Array.getElem?_eq_some_iff.1 hgc).1⟩, fun j u hu => ⟨?_, ?_⟩⟩⟩
  · rw [Nat.zero_add]
    by_cases h1 : j < n * 8
    · rw [World.cell?_setCells_out g _ (n * 8) w ⟨g, j, none⟩ (fun _ _ => .inl h1)]
      rw [List.getElem?_append_left (by omega)] at hu
      exact hcell j u (by rw [hcc, List.getElem?_append_left (by omega)]; exact hu)
    · rw [List.getElem?_append_right (by omega), hcal] at hu
      by_cases h2 : j - n * 8 < 8
      · rw [List.getElem?_append_left (by omega)] at hu
        have := World.cell?_setCells_in g (entryCells y A c B d) (n * 8) w (fun t ht => hin t (by omega)) (j - n * 8) (by omega)
        rw [show n * 8 + (j - n * 8) = j by omega] at this
        rw [this, ← List.getElem?_eq_getElem (by omega)]
        exact hu
      · rw [World.cell?_setCells_out g _ (n * 8) w ⟨g, j, none⟩ (fun _ _ => .inr (by show n * 8 + 8 ≤ j; omega))]
        rw [List.getElem?_append_right (by omega)] at hu
        exact hcell j u (by rw [hcc, List.getElem?_append_right (by omega), List.getElem?_append_right (by omega), hcal, hcol]; exact hu)
  · rw [World.frozen?_setCells]
    simp [World.frozen?, hgc]

theorem R.entryF {lo : Nat} {w : World} {b off k : Nat} {l : List Entry} {x : Entry} (h : R cEntry lo w (some ⟨b, off, none⟩) l) (hk : l[k]? = some x) :
    w.frozen? ⟨b, off + k * 8, none⟩ = false ∧ w.frozen? ⟨b, off + k * 8 + 1, none⟩ = false ∧ w.frozen? ⟨b, off + k * 8 + 2, none⟩ = false ∧ w.frozen? ⟨b, off + k * 8 + 3, none⟩ = false ∧ w.frozen? ⟨b, off + k * 8 + 4, none⟩ = false ∧ w.frozen? ⟨b, off + k * 8 + 5, none⟩ = false ∧ w.frozen? ⟨b, off + k * 8 + 6, none⟩ = false ∧ w.frozen? ⟨b, off + k * 8 + 7, none⟩ = false := by
  obtain ⟨h1, m, ⟨ho, A, c, B, d, a1, a2, a3, a4, rfl, hr, hs⟩, ha⟩ := R.get h hk
  exact ⟨(ha 0 _ rfl).2, (ha 1 _ rfl).2, (ha 2 _ rfl).2, (ha 3 _ rfl).2, (ha 4 _ rfl).2, (ha 5 _ rfl).2, (ha 6 _ rfl).2, (ha 7 _ rfl).2⟩

theorem Own.form {base : Nat} {w : World} {v : Value} {xs : List Entry} (h : Own cEntry 62 base w v xs) : (v = .slice none 0 0 ∧ xs = []) ∨ ∃ g cap, v = .slice (some ⟨g, 0, none⟩) xs.length cap ∧ base ≤ g ∧ g < w.heap.size ∧ xs.length ≤ cap ∧ cap ≤ maxLen := by
  obtain ⟨cells, ⟨hcl, hnl | ⟨g, cap, cur, hv, hbg, hgc, hnc, hcm, hsz, htk⟩⟩, hr⟩ := h
  · exact .inl ⟨hnl.1, List.eq_nil_of_length_eq_zero hnl.2⟩
  · exact .inr ⟨g, cap, hv, hbg, (Array.getElem?_eq_some_iff.1 hgc).1, hnc, hcm⟩

set_option maxRecDepth 100000 in
set_option maxHeartbeats 2000000 in
theorem shelfPut (A : Option Addr) (c : Nat) (l : List Entry) (x : Entry) (S G : Option Addr) (sc gc : Nat) (w : World) (hl : l.length ≤ 1099511627776) (hA : R cEntry 0 w A l) (hx : x.ok) (hH : Held w x S sc G gc) :
    Calls Tryz.prog 125 #[.slice A l.length c, .agg #[.int .u32 x.id.t, .int .u8 x.id.r, .bool x.ready, .bool x.pin, .int .i64 x.used, .bool x.known, .slice S x.snap.length sc, .slice G x.got.length gc]] w (New2 cEntry (putEL l x) (putN l x) w) := by
  have hchk := fun W (hb : Bl w W) => shelfCheck A c l W (by unfold maxLen; omega) (hA.bl hb)
  have hone := fun W (hb : Bl w W) => shelfOne x S G sc gc W hx (Nat.le_trans hH.l1 hH.l2) (Nat.le_trans hH.l3 hH.l4) (hH.hS.bl hb)
  obtain ⟨L, hL⟩ : ∃ L, L = putEL l x := ⟨_, rfl⟩
  obtain ⟨N, hN⟩ : ∃ N, N = putN l x := ⟨_, rfl⟩
  rw [← hL, ← hN]
  have hV0 : Bl w (w.alloc (.cells #[Value.int IntKind.u32 x.id.t, Value.int IntKind.u8 x.id.r, Value.bool x.ready, Value.bool x.pin, Value.int IntKind.i64 x.used, Value.bool x.known, Value.slice S x.snap.length sc, Value.slice G x.got.length gc] 62)) := (Bl.refl _).alloc _
  have at0 := EntAt.new w x S sc G gc 62
  cases hm : shelfMay l
  · have e2 : N = 8 := by rw [hN]; unfold putN; rw [hm]; rfl
    have e1 : L = [] := by rw [hL]; unfold putEL; rw [← hN, e2]; rfl
    subst e1 e2
    rw [hm, okOr_false] at hchk
    replace hchk := hide hchk
    clear hL hN hm hone at0
    go_enter Tryz.func125, Tryz.ntmps125
    go_wp2_with fail
    refine (hchk.out _ hV0).mono ?_
    rintro e w1 ⟨rfl, hb1⟩
    go_wp2_with fail
    go_ret2
    exact ⟨none, 0, rfl, Nat.le_refl _, Nat.zero_le _, R.nil, hV0.trans hb1⟩
  rw [hm, okOr_true] at hchk
  replace hchk := hide hchk
  cases hmx : entryMay x
  · have e2 : N = 8 := by rw [hN]; unfold putN; rw [hm, hmx]; rfl
    have e1 : L = [] := by rw [hL]; unfold putEL; rw [← hN, e2]; rfl
    subst e1 e2
    rw [hmx] at hone
    replace hone := hide hone
    clear hL hN hm hmx
    go_enter Tryz.func125, Tryz.ntmps125
    go_wp2_with fail
    refine (hchk.out _ hV0).mono ?_
    rintro e w1 ⟨rfl, hb1⟩
    obtain ⟨x0, x1, x2, x3, x4, x5, x6, x7⟩ := (at0.bl hb1).cells
    go_wp2_with fail
    refine (hone.out _ (hV0.trans hb1)).mono ?_
    rintro e w2 ⟨rfl, hb2⟩
    go_wp2_with fail
    go_ret2
    exact ⟨none, 0, rfl, Nat.le_refl _, Nat.zero_le _, R.nil, (hV0.trans hb1).trans hb2⟩
  rw [hmx] at hone
  replace hone := hide hone
  have hsml := hide (may_small hm)
  have hsmx := hide (small_of_may hmx)
  have hat := fun W (hb : Bl w W) => shelfAt A c l x.id W hl hx.1 (hA.bl hb)
  have hbd := atOf_bd l x.id
  have hput : putN l x = if (atOf l x.id).2 then 0 else if l.length = 65 then 9 else 0 := by unfold putN; rw [hm, hmx]; rfl
  have hlen65 := (may_from hm).1
  have hfd : (atOf l x.id).2 = true → ∃ k : Nat, (atOf l x.id).1 = (k : Int) ∧ k < l.length := fun h => by
    obtain ⟨y, hy, e⟩ := scan_true x.id _ h
    rw [List.mem_reverse] at hy
    obtain ⟨k, hk⟩ := List.getElem?_of_mem hy
    refine ⟨k, ?_, (List.getElem?_eq_some_iff.1 hk).1⟩
    rw [at_found hm hk e]
  obtain ⟨n, hn⟩ : ∃ n : Nat, (atOf l x.id).1 = (n : Int) := ⟨(atOf l x.id).1.toNat, by omega⟩
  have hnl : n ≤ l.length := by omega
  clear hm hmx
  cases hb2 : (atOf l x.id).2
  · rw [hb2] at hput hat
    rw [hn] at hat
    by_cases h65 : l.length = 65
    · have e2 : N = 9 := by rw [hN, hput, if_pos h65]; rfl
      have e1 : L = [] := by rw [hL]; unfold putEL; rw [← hN, e2]; rfl
      subst e1 e2
      replace hat := hide hat
      have h65' : ((l.length : Int) == 65) = true := by simp [h65]
      clear hL hN hput hfd hn hb2 hbd h65
      go_enter Tryz.func125, Tryz.ntmps125
      go_wp2_with fail
      refine (hchk.out _ hV0).mono ?_
      rintro e w1 ⟨rfl, hb1⟩
      obtain ⟨x0, x1, x2, x3, x4, x5, x6, x7⟩ := (at0.bl hb1).cells
      go_wp2_with fail
      refine (hone.out _ (hV0.trans hb1)).mono ?_
      rintro e w2 ⟨rfl, hb2⟩
      have hb12 := hb1.trans hb2
      clear x0 x1 x2 x3 x4 x5 x6 x7
      obtain ⟨x0, x1, x2, x3, x4, x5, x6, x7⟩ := (at0.bl hb12).cells
      go_wp2_with fail
      refine (hat.out _ (hV0.trans hb12)).mono ?_
      rintro e w3 ⟨rfl, hb3⟩
      have hb13 := hb12.trans hb3
      go_wp2_with fail
      refine (shelfTwin A c l _ hsml.out (hA.bl (hV0.trans hb13))).mono ?_
      rintro e w4 ⟨A4, c4, rfl, q1, q2, hr4, hb4⟩
      go_wp2_with fail
      go_ret2
      exact ⟨none, 0, rfl, Nat.le_refl _, Nat.zero_le _, R.nil, (hV0.trans hb13).trans hb4⟩
    · have e2 : N = 0 := by rw [hN, hput, if_neg h65]; rfl
      have e1 : L = l.take n ++ x :: l.drop n := by rw [hL]; unfold putEL; rw [← hN, e2, if_pos rfl, hb2, hn, Int.toNat_natCast]; rfl
      replace e1 := hide e1
      subst e2
      replace hat := hide hat
      have h65' : ((l.length : Int) == 65) = false := beq_eq_false_iff_ne.2 (by omega)
      clear hL hN hput hfd hn hb2 hbd h65
      go_enter Tryz.func125, Tryz.ntmps125
      go_wp2_with fail
      refine (hchk.out _ hV0).mono ?_
      rintro e w1 ⟨rfl, hb1⟩
      obtain ⟨x0, x1, x2, x3, x4, x5, x6, x7⟩ := (at0.bl hb1).cells
      go_wp2_with fail
      refine (hone.out _ (hV0.trans hb1)).mono ?_
      rintro e w2 ⟨rfl, hb2⟩
      have hb12 := hb1.trans hb2
      clear x0 x1 x2 x3 x4 x5 x6 x7
      obtain ⟨x0, x1, x2, x3, x4, x5, x6, x7⟩ := (at0.bl hb12).cells
      go_wp2_with fail
      refine (hat.out _ (hV0.trans hb12)).mono ?_
      rintro e w3 ⟨rfl, hb3⟩
      have hb13 := hb12.trans hb3
      have hw3 := hV0.trans hb13
      clear x0 x1 x2 x3 x4 x5 x6 x7
      go_wp2_with fail
      refine (shelfTwinO A c l _ hsml.out (hA.bl hw3)).mono ?_
      rintro e w4 ⟨v, rfl, hown, hb4⟩
      have hb14 := hb13.trans hb4
      have hw4 := hw3.trans hb4
      have hz34 := hb4.size
      have hwz := hw3.size
      obtain ⟨x0, x1, x2, x3, x4, x5, x6, x7⟩ := (at0.bl hb14).cells
      have hrest : ∀ w5 A5 c5 B5 d5, x.snap.length ≤ c5 → c5 ≤ maxLen → x.got.length ≤ d5 → d5 ≤ maxLen → R cTimes w4.heap.size w5 A5 x.snap → R cBool w4.heap.size w5 B5 x.got → Bl w4 w5 →
          Calls Tryz.prog 180 #[v, .int .i64 n, .slice (some ⟨w5.heap.size, 0, none⟩) 1 1] (w5.alloc (.cells #[Value.int IntKind.u32 x.id.t, Value.int IntKind.u8 x.id.r, Value.bool x.ready, Value.bool x.pin, Value.int IntKind.i64 x.used, Value.bool x.known, Value.slice A5 x.snap.length c5, Value.slice B5 x.got.length d5] 62)) (NewFrom cEntry w3.heap.size L w5) := fun w5 A5 c5 B5 d5 k1 k2 k3 k4 hS hG hb5 => by
        have hgne : ∀ b, w4.heap.size ≤ b → v.ownBlock ≠ some b := fun b hb e => by have := (hown.lt e).2; omega
        rw [e1.out]
        exact insertC w3.heap.size v l n x A5 B5 c5 d5 w5 (hown.bl hb5) (by have := hb5.size; omega) hnl (by omega) ⟨hx, A5, c5, B5, d5, k1, k2, k3, k4, rfl, hS.up fun b h => ⟨⟨by have := h.1; omega, h.2⟩, hgne b h.1⟩, hG.up fun b h => ⟨⟨by have := h.1; omega, h.2⟩, hgne b h.1⟩⟩
      replace hrest := hide hrest
      rcases hown.form with ⟨rfl, hl0⟩ | ⟨g, cap, rfl, hg1, hg2, hg3, hg4⟩
      · have hl0' := congrArg List.length hl0
        have h0' : l.length = 0 := hl0'
        clear hl0 hl0' h65'
        go_wp2_with fail
        refine (shelfOwn x S G sc gc _ hsmx.out (hH.hS.bl hw4) (hH.hG.bl hw4)).mono ?_
        rintro e w5 ⟨A5, c5, B5, d5, rfl, k1, k2, k3, k4, hS5, hG5, hb5⟩
        go_wp2_with fail
        refine (hrest.out w5 A5 c5 B5 d5 k1 k2 k3 k4 hS5 hG5 hb5).mono ?_
        rintro e w6 ⟨A6, c6, rfl, j1, j2, hr6, hb6⟩
        go_wp2_with fail
        go_ret2
        exact ⟨A6, c6, rfl, j1, j2, hr6.more hwz, Below.trans (B := w.heap.size) (hw4.trans hb5) (Below.mono hb6 hwz)⟩
      · go_wp2_with fail
        refine (shelfOwn x S G sc gc _ hsmx.out (hH.hS.bl hw4) (hH.hG.bl hw4)).mono ?_
        rintro e w5 ⟨A5, c5, B5, d5, rfl, k1, k2, k3, k4, hS5, hG5, hb5⟩
        go_wp2_with fail
        refine (hrest.out w5 A5 c5 B5 d5 k1 k2 k3 k4 hS5 hG5 hb5).mono ?_
        rintro e w6 ⟨A6, c6, rfl, j1, j2, hr6, hb6⟩
        go_wp2_with fail
        go_ret2
        exact ⟨A6, c6, rfl, j1, j2, hr6.more hwz, Below.trans (B := w.heap.size) (hw4.trans hb5) (Below.mono hb6 hwz)⟩
  · obtain ⟨k, hk, hkl⟩ := hfd hb2
    obtain rfl : k = n := by omega
    rw [hb2] at hput hat
    rw [hn] at hat
    have e2 : N = 0 := by rw [hN, hput]; rfl
    have e1 : L = l.set k x := by rw [hL]; unfold putEL; rw [← hN, e2, if_pos rfl, hb2, hn, Int.toNat_natCast]; rfl
    replace e1 := hide e1
    subst e2
    replace hat := hide hat
    clear hL hN hput hfd hn hb2 hbd hk
    go_enter Tryz.func125, Tryz.ntmps125
    go_wp2_with fail
    refine (hchk.out _ hV0).mono ?_
    rintro e w1 ⟨rfl, hb1⟩
    obtain ⟨x0, x1, x2, x3, x4, x5, x6, x7⟩ := (at0.bl hb1).cells
    go_wp2_with fail
    refine (hone.out _ (hV0.trans hb1)).mono ?_
    rintro e w2 ⟨rfl, hb2⟩
    have hb12 := hb1.trans hb2
    clear x0 x1 x2 x3 x4 x5 x6 x7
    obtain ⟨x0, x1, x2, x3, x4, x5, x6, x7⟩ := (at0.bl hb12).cells
    go_wp2_with fail
    refine (hat.out _ (hV0.trans hb12)).mono ?_
    rintro e w3 ⟨rfl, hb3⟩
    have hb13 := hb12.trans hb3
    have hw3 := hV0.trans hb13
    clear x0 x1 x2 x3 x4 x5 x6 x7
    go_wp2_with fail
    refine (shelfTwinO A c l _ hsml.out (hA.bl hw3)).mono ?_
    rintro e w4 ⟨v, rfl, hown, hb4⟩
    have hb14 := hb13.trans hb4
    have hw4 := hw3.trans hb4
    have hz34 := hb4.size
    have hwz := hw3.size
    obtain ⟨x0, x1, x2, x3, x4, x5, x6, x7⟩ := (at0.bl hb14).cells
    rcases hown.form with ⟨rfl, hl0⟩ | ⟨g, cap, rfl, hg1, hg2, hg3, hg4⟩
    · exact absurd (congrArg List.length hl0) (by rw [List.length_nil]; omega)
    · go_wp2_with fail
      refine (shelfOwn x S G sc gc _ hsmx.out (hH.hS.bl hw4) (hH.hG.bl hw4)).mono ?_
      rintro e w5 ⟨A5, c5, B5, d5, rfl, k1, k2, k3, k4, hS5, hG5, hb5⟩
      have hz45 := hb5.size
      have hown5 := hown.bl hb5
      obtain ⟨hset, s1, s2, s3⟩ := hown5.put (n := k) (y := x) (A := A5) (c := c5) (B := B5) (d := d5) hkl ⟨hx, A5, c5, B5, d5, k1, k2, k3, k4, rfl, hS5.up fun b h => ⟨⟨by have := h.1; omega, h.2⟩, by have := h.1; omega⟩, hG5.up fun b h => ⟨⟨by have := h.1; omega, h.2⟩, by have := h.1; omega⟩⟩
      obtain ⟨A', c', ee, hr5, _, _⟩ := hown5.reads
      injection ee with ee1 _ ee2
      subst ee1 ee2
      obtain ⟨y, hy⟩ := get_lt hkl
      obtain ⟨_, _, S', sc', G', gc', _, _, _, _, _, _, y0, y1, y2, y3, y4, y5, y6, y7⟩ := hr5.entry hy
      obtain ⟨f0, f1, f2, f3, f4, f5, f6, f7⟩ := hr5.entryF hy
      simp only [Nat.zero_add] at y0 y1 y2 y3 y4 y5 y6 y7 f0 f1 f2 f3 f4 f5 f6 f7
      have hbel : Bl w (w5.setCells g (k * 8) (entryCells x A5 c5 B5 d5)) := below_setCells (by omega) _ _ (hw4.trans hb5)
      have hki : (k : Int) < (l.length : Int) := by omega
      clear hy x0 x1 x2 x3 x4 x5 x6 x7
      go_wp2_with fail
      go_ret2
      rw [e1.out]
      have hll : (l.set k x).length = l.length := List.length_set
      exact ⟨some ⟨g, 0, none⟩, cap, (by rw [hll]; rfl), by rw [hll]; exact s2, s3, hset.more hwz, hbel⟩

def ofE (l : List Entry) (s : Id) : Entry := (entOf l s).getD zeroE

def ofB (l : List Entry) (s : Id) : Bool := (entOf l s).isSome

theorem Held.set8n {V : World} {x y : Entry} {A B A' B' : Option Addr} {c d c' d' Y : Nat} (h : HeldO Y Y V x A c B d) : Held (set8 V Y y A' c' B' d') x A c B d := (HeldO.set8 h).held

set_option maxRecDepth 100000 in
set_option maxHeartbeats 1000000 in
theorem refOf19 (A : Option Addr) (c : Nat) (l : List Entry) (s : Id) (w : World) (hl : l.length ≤ 1099511627776) (hA : R cEntry 0 w A l) :
    Calls Tryz.prog 188 #[.slice A l.length c, .agg #[.int .u32 s.t, .int .u8 s.r]] w (EntH (ofE l s) (ofB l s) w) := by
  have heq := run_eqId
  go_enter Tryz.func188, Tryz.ntmps188
  go_upto_region 2 with fail
  obtain ⟨W, hW, hbW, hz, s0, s1, at1⟩ := pairbox w s
  rw [← hW]
  clear hW
  go_loopw [6] (fun i wr => Bl W wr ∧ ∃ (k : Nat), k ≤ l.length ∧ i = .int .i64 k ∧ Hid (entOf l s = entOf (l.drop k) s)) (fun i _ => l.length - (intOf i).toNat)
  case atStart => exact ⟨Bl.refl _, 0, Nat.zero_le _, rfl, rfl⟩
  case round =>
    obtain ⟨hbl, k, hk, rfl, hf⟩ := hrel
    have hbw := hbW.trans hbl
    by_cases hlt : k < l.length
    · have hR := hA.bl hbw
      obtain ⟨b, off, rfl, _, hbb⟩ := hA.addr (by omega)
      obtain ⟨x, hx⟩ := get_lt hlt
      obtain ⟨_, ho, S, sc, G, gc, q1, q2, q3, q4, hS, hG, c0, c1, c2, c3, c4, c5, c6, c7⟩ := hA.entry hx
      have hd := hide (drop_cons hx)
      clear hx
      have C0 := fun p : Wd wr => Wd.cell ((hbw.cell hbb).trans c0) (by have := hbw.size; omega) p
      have C1 := fun p : Wd wr => Wd.cell ((hbw.cell hbb).trans c1) (by have := hbw.size; omega) p
      have S0 := fun p : Wd wr => Wd.cell ((hbl.cell (by omega)).trans s0) (by have := hbl.size; omega) p
      have S1 := fun p : Wd wr => Wd.cell ((hbl.cell (by omega)).trans s1) (by have := hbl.size; omega) p
      have hi : (k : Int) < (l.length : Int) := by omega
      have hi0 : (0 : Int) ≤ (k : Int) := by omega
      cases hq : neqId x.id s
      · have hq' : (!neqId x.id s) = true := by rw [hq]; rfl
        have g := hide ((ent_drop hf.out hd.out).1 (neqId_false hq))
        clear hq
        go_wp2
        (refine wp_region_wd (by kernel_rfl) (by kernel_rfl) ?_
         repeat (go_big_quiet_step ((fail)))
         refine wpQuiet_nil ?_
         intro w2 hw'
         obtain ⟨⟨wx, hb2⟩, hw''⟩ := hw'
         subst hw'')
        have hb12 := hbl.trans hb2
        have hb02 := hbw.trans hb2
        replace c0 := (hb02.cell hbb).trans c0
        replace c1 := (hb02.cell hbb).trans c1
        replace c2 := (hb02.cell hbb).trans c2
        replace c3 := (hb02.cell hbb).trans c3
        replace c4 := (hb02.cell hbb).trans c4
        replace c5 := (hb02.cell hbb).trans c5
        replace c6 := (hb02.cell hbb).trans c6
        replace c7 := (hb02.cell hbb).trans c7
        clear C0 C1 S0 S1
        obtain ⟨y0, y1, y2, y3, y4, y5, y6, y7⟩ := (at1.bl hb12).cells
        obtain ⟨f0, f1, f2, f3, f4, f5, f6, f7⟩ := (at1.bl hb12).frozens
        have hset := set8_bl hb02 (Y := w.heap.size + 1) (by omega) x S sc G gc
        have hxs : Held (set8 w2 (w.heap.size + 1) x S sc G gc) x S sc G gc := Held.set8n (HeldO.old (V := w) ⟨q1, q2, q3, q4, hS, hG⟩ hb02 (Nat.le_succ _) (Nat.le_succ _))
        go_wp2_with fail
        refine bodyPost_ret (v := .tuple #[.agg #[.int .u32 x.id.t, .int .u8 x.id.r, .bool x.ready, .bool x.pin, .int .i64 x.used, .bool x.known, .slice S x.snap.length sc, .slice G x.got.length gc], .bool true]) (by simp [results, Tryz.results188, go_sem, y0, y1, y2, y3, y4, y5, y6, y7]) rfl ?_
        unfold ofE ofB
        rw [g.out]
        exact ⟨S, sc, G, gc, rfl, hxs, hset⟩
      · have hq' : (!neqId x.id s) = false := by rw [hq]; rfl
        have g := hide ((ent_drop hf.out hd.out).2 (neqId_true hq))
        clear hq
        go_wp2
        (refine wp_region_wd (by kernel_rfl) (by kernel_rfl) ?_
         repeat (go_big_quiet_step ((fail)))
         refine wpQuiet_nil ?_
         intro w2 hw'
         obtain ⟨⟨wx, hb2⟩, hw''⟩ := hw'
         subst hw'')
        go_wp2
        go_roundw
        case rel => exact ⟨hbl.trans hb2, k + 1, by omega, by go_num, g⟩
        case measure => simp [intOf]; omega
    · have hkl : l.length ≤ k := by omega
      have g : Hid (entOf l s = none) := by rw [Hid, hf.out, List.drop_eq_nil_of_le hkl]; rfl
      obtain ⟨y0, y1, y2, y3, y4, y5, y6, y7⟩ := (at1.bl hbl).cells
      obtain ⟨f0, f1, f2, f3, f4, f5, f6, f7⟩ := (at1.bl hbl).frozens
      go_wp2
      refine bodyPost_ret (v := .tuple #[.agg #[.int .u32 0, .int .u8 0, .bool false, .bool false, .int .i64 0, .bool false, .slice none 0 0, .slice none 0 0], .bool false]) (by simp [results, Tryz.results188, go_sem, y0, y1, y2, y3, y4, y5, y6, y7]) rfl ?_
      unfold ofE ofB
      rw [g.out]
      exact ⟨none, 0, none, 0, rfl, zeroE_held _, set8_bl hbw (Y := w.heap.size + 1) (by omega) zeroE none 0 none 0⟩

end Go.Proofs.YteoodmilcpmmpaaGreat

namespace Go.Proofs.YteoodmilcpmmpaaGreat

open Go.RowKit

/-- A stamp's two cells. -/
structure IdAt (W : World) (Y : Nat) (s : Id) : Prop where
  c0 : W.cell? ⟨Y, 0, none⟩ = some (.int .u32 s.t)
  c1 : W.cell? ⟨Y, 1, none⟩ = some (.int .u8 s.r)
  f0 : W.frozen? ⟨Y, 0, none⟩ = false
  f1 : W.frozen? ⟨Y, 1, none⟩ = false

theorem IdAt.lt {W : World} {Y : Nat} {s : Id} (h : IdAt W Y s) : Y < W.heap.size := World.block_lt_of_cell? W _ h.c0

theorem IdAt.bl {W W' : World} {Y : Nat} {s : Id} (h : IdAt W Y s) (hb : Bl W W') : IdAt W' Y s := ⟨(hb.cell h.lt).trans h.c0, (hb.cell h.lt).trans h.c1, (hb.frozen h.lt).trans h.f0, (hb.frozen h.lt).trans h.f1⟩

theorem IdAt.new (w : World) (s : Id) : IdAt (w.alloc (.cells #[Value.int IntKind.u32 s.t, Value.int IntKind.u8 s.r] 25)) w.heap.size s :=
  ⟨by rw [cell_of_row _ w.heap.size 0 _ _ (0, 0) (heap_alloc_new w _)]; rfl, by rw [cell_of_row _ w.heap.size 1 _ _ (0, 0) (heap_alloc_new w _)]; rfl, frozen_new w _ _ _, frozen_new w _ _ _⟩

section

open Go.Shelf Go.Lib

theorem run_clear_one (w : World) (ty : TypeId) (b o c : Nat) (hc : ∀ j, j < 8 → (w.cell? ⟨b, o + j, none⟩).isSome = true) (hf : ∀ j, j < 8 → w.frozen? ⟨b, o + j, none⟩ = false) :
    (Builtin.clear_ #[56] ty #[.slice (some ⟨b, o, none⟩) 1 c]).run Tryz.prog w = .ok (.tuple #[]) (w.setCells b o zeroV.cells.toList) := by
  obtain ⟨i0, hi0, hz0, hzs, hzb⟩ := info_parts infoEntry
  have hzc : (Builtin.zeroCells zeroV.cells 1).toList = zeroV.cells.toList := by kernel_rfl
  have hst := run_storeCells_cells (P := Tryz.prog) b o zeroV.cells.toList 0 w (by intro j hj; rw [Nat.add_zero]; exact hc j hj) (by intro j hj; rw [Nat.add_zero]; exact hf j hj) (by decide)
  simp only [Nat.add_zero] at hst
  simp [Builtin.clear_, run_underlying Tryz.underlying56, zeroValue, typeInfo, hi0, hz0, hzc, hst]

theorem wpList_clear_runI (w : World) {ops : Array Oper} {rest : List Oper} {o : Oper} {a : Act} {Q : Exit → Act → World → Prop} (hgd : o.guard = none) (d : Operand) (t : TypeId)
    (ho : o.op = .call { callee := .builtin .clear, args := #[d], argTypes := #[t] }) (v : Value) (hd : a.eval d = v) {v' : Value} {w' : World}
    (hr : (Builtin.clear_ #[t] o.type #[v]).run Tryz.prog w = .ok v' w') (h : wpList Tryz.prog ops Q rest (a.put o.dst v') w') : wpList Tryz.prog ops Q (o :: rest) a w :=
  wpList_plain hgd fun _ hK => by
    unfold Oper.wp
    simp [execOp, ho, resolve, invoke, builtin, hd, hr, Result.andThen]
    exact hK _ _ h

set_option maxHeartbeats 4000000 in
set_option maxRecDepth 100000 in
theorem delete_cells (b m c k : Nat) (cs : List Value) (w : World) (hk : k ≤ m) (hnc : m + 1 ≤ c) (hc63 : c ≤ 9223372036854775807)
    (hcl : cs.length = (m + 1) * 8) (hcs : ∀ (j : Nat) v, cs[j]? = some v → w.cell? ⟨b, j, none⟩ = some v) (hfz : ∀ j, j < (m + 1) * 8 → w.frozen? ⟨b, j, none⟩ = false) (h1c : ∀ v ∈ cs, v.oneCell' = true) :
    Calls Tryz.prog 183 #[.slice (some ⟨b, 0, none⟩) (m + 1) c, .int .i64 k, .int .i64 ((k : Int) + 1)] w fun e w' =>
      e = .returned (.slice (some ⟨b, 0, none⟩) m c) ∧ w' = (w.drew.setCells b (k * 8) (cs.drop ((k + 1) * 8))).setCells b (m * 8) zeroV.cells.toList := by
  obtain ⟨i0, hi0, hz0, hzs, hzb⟩ := info_parts infoEntry
  have hsp : ∀ j, j < (m + 1) * 8 → (w.cell? ⟨b, j, none⟩).isSome = true := fun j hj => by rw [hcs j _ (List.getElem?_eq_getElem (by omega))]; rfl
  have hdl : (cs.drop ((k + 1) * 8)).length = (m - k) * 8 := by rw [List.length_drop, hcl]; omega
  have hne : ((k : Int) == (k : Int) + 1) = false := beq_eq_false_iff_ne.2 (by omega)
  have hw1 : IntKind.i64.wrap ((k : Int) + 1) = (k : Int) + 1 := by rw [IntKind.wrap_i64]; omega
  have hb1 : (0 : Int) ≤ (k : Int) + 1 := by omega
  have htn : ((k : Int) + 1).toNat = k + 1 := by omega
  have hb3 : (k : Int) + 1 ≤ (m : Int) + 1 := by omega
  have hb4 : (k : Int) ≤ (k : Int) + 1 := by omega
  have hkc : k ≤ c := by omega
  have hm1 : (m : Int) ≤ (m : Int) + 1 := by omega
  have hm0 : (0 : Int) ≤ (m : Int) := by omega
  have hmc : m + 1 ≤ c := hnc
  have hm2 : ¬ (c = m) := by omega
  have hkm : k + (m - k) = m := by omega
  have hclr : ∀ ty cc, (Builtin.clear_ #[56] ty #[.slice (some ⟨b, m * 8, none⟩) 1 cc]).run Tryz.prog (w.drew.setCells b (k * 8) (cs.drop ((k + 1) * 8))) = .ok (.tuple #[]) ((w.drew.setCells b (k * 8) (cs.drop ((k + 1) * 8))).setCells b (m * 8) zeroV.cells.toList) := fun ty cc =>
    run_clear_one _ ty b (m * 8) cc (fun j hj => isSome_setCells b (cs.drop ((k + 1) * 8)) (k * 8) w.drew (fun i hi => hsp _ (by rw [hdl] at hi; omega)) _ (hsp _ (by omega))) (fun j hj => by rw [World.frozen?_setCells]; exact hfz _ (by omega))
  generalize zeroV.cells.toList = zc at hclr ⊢
  obtain ⟨W1, hW1⟩ : ∃ W1, W1 = w.drew.setCells b (k * 8) (cs.drop ((k + 1) * 8)) := ⟨_, rfl⟩
  rw [← hW1] at hclr ⊢
  generalize W1.setCells b (m * 8) zc = W2 at hclr ⊢
  replace hW1 := hide hW1
  by_cases hce : c = k + 1
  · obtain rfl : m = k := by omega
    have hd0 : cs.drop ((m + 1) * 8) = [] := List.drop_of_length_le (by omega)
    subst hce
    replace hW1 : Hid (W1 = w.drew.setCells b (m * 8) []) := by rw [Hid, hW1.out, hd0]
    go_enter Tryz.func183, Tryz.ntmps183
    go_upto_region 5 with fail
    go_region_law (refine step_append_room rfl _ _ 56 rfl 62 i0 8 Tryz.underlying56 hi0 hzs b 0 m (m + 1) (by simp [Act.eval, Act.put]) ⟨b, 0, none⟩ 0 0 [] (by simp [Act.eval, Act.put]) rfl (by intro j u hu; simp at hu) (by intro u hu; cases hu) (by omega) (by intro j hj; simp at hj) ?_)
    rw [← hW1.out]
    go_wp2_with (at_builtin; refine wpList_clear_runI _ rfl _ _ rfl _ rfl (hclr _ _) ?_)
    go_ret
    exact ⟨rfl, rfl⟩
  · go_enter Tryz.func183, Tryz.ntmps183
    go_upto_region 5 with fail
    go_region_law (refine step_append_room rfl _ _ 56 rfl 62 i0 8 Tryz.underlying56 hi0 hzs b 0 k c (by simp [Act.eval, Act.put]) ⟨b, (k + 1) * 8, none⟩ (m - k) (c - (k + 1)) (cs.drop ((k + 1) * 8)) (by simp [Act.eval, Act.put]) hdl (fun j u hj => by rw [Addr.add_lit]; rw [List.getElem?_drop] at hj; exact hcs _ u hj) (fun u hu => h1c u (List.mem_of_mem_drop hu)) (by omega) (fun j hj => ⟨hsp _ (by omega), hfz _ (by omega)⟩) ?_)
    rw [← hW1.out]
    go_wp2_with (at_builtin; refine wpList_clear_runI _ rfl _ _ rfl _ rfl (hclr _ _) ?_)
    go_ret
    exact ⟨rfl, rfl⟩

/-- One entry taken out of a slice of the call's own. -/
theorem deleteC (base : Nat) (v : Value) (xs : List Entry) (k : Nat) (w : World) (hown : Own cEntry 62 base w v xs) (hk : k < xs.length) :
    Calls Tryz.prog 183 #[v, .int .i64 k, .int .i64 ((k : Int) + 1)] w (NewFrom cEntry base (xs.take k ++ xs.drop (k + 1)) w) := by
  obtain ⟨cells, ho, hr⟩ := hown
  obtain ⟨hcl, hnl | ⟨g, cap, cur, hv, hbg, hgc, hnc, hcm, hsz, htk⟩⟩ := ho
  · obtain ⟨_, hx0⟩ := hnl
    omega
  subst hv
  obtain ⟨m, hm⟩ : ∃ m, xs.length = m + 1 := ⟨xs.length - 1, by omega⟩
  have hcl8 : cells.length = xs.length * 8 := hcl
  have h8 : cEntry.size = 8 := rfl
  rw [hm] at hcl8
  have hcs : ∀ (j : Nat) u, cells[j]? = some u → w.cell? ⟨g, j, none⟩ = some u := fun j u hu => by
    rw [cell_of_row w g j cur _ (0, 0) hgc]
    rw [← htk, List.getElem?_take] at hu
    split at hu
    · simpa using hu
    · cases hu
  have hfr : ∀ o, w.frozen? ⟨g, o, none⟩ = false := fun o => by simp [World.frozen?, hgc]
  have hg1 : g < w.heap.size := (Array.getElem?_eq_some_iff.1 hgc).1
  have h1c := hr.one
  have hxs : xs = xs.take k ++ xs.drop k := (List.take_append_drop k xs).symm
  have hr2 := hr
  rw [hxs] at hr2
  obtain ⟨ca, cb, hcc, hra, hrb⟩ := hr2.split
  have hcal : ca.length = k * 8 := by
    have := hra.length
    rw [List.length_take, Nat.min_eq_left (by omega)] at this
    exact this
  obtain ⟨x, hx⟩ := get_lt hk
  rw [show xs.drop k = [x] ++ xs.drop (k + 1) from drop_cons hx] at hrb
  obtain ⟨cx, cd, hcb, hrx, hrd⟩ := hrb.split
  have hcxl : cx.length = 8 := by
    have := hrx.length
    simpa [h8] using this
  have hcat : cells.drop ((k + 1) * 8) = cd := by
    rw [hcc, hcb, ← List.append_assoc, List.drop_append_of_le_length (by rw [List.length_append]; omega), List.drop_of_length_le (by rw [List.length_append]; omega)]
    rfl
  have hcdl : cd.length = (m - k) * 8 := by
    have := congrArg List.length hcat
    rw [List.length_drop, hcl8] at this
    omega
  have hrall : RdL cEntry w (fun b => (base ≤ b ∧ b < w.heap.size) ∧ (Value.slice (some ⟨g, 0, none⟩) xs.length cap).ownBlock ≠ some b) (xs.take k ++ xs.drop (k + 1)) (ca ++ cd) := hra.append hrd
  have hylen : (xs.take k ++ xs.drop (k + 1)).length = m := by simp; omega
  have hob : ∀ b, ((base ≤ b ∧ b < w.heap.size) ∧ (Value.slice (some ⟨g, 0, none⟩) xs.length cap).ownBlock ≠ some b) → b ≠ g := fun b hb e => hb.2 (by rw [e]; rfl)
  have hcm' := hcm
  unfold maxLen at hcm'
  have hpos : ∀ j, j < cells.length → (w.cell? ⟨g, j, none⟩).isSome = true := fun j hj => by rw [hcs j _ (List.getElem?_eq_getElem hj)]; rfl
  have hzl : zeroV.cells.toList.length = 8 := rfl
  rw [hm]
  refine (delete_cells g m cap k cells w (by omega) (by omega) (by omega) hcl8 hcs (fun j _ => hfr j) h1c).mono ?_
  rintro e w' ⟨rfl, rfl⟩
  rw [hcat]
  refine ⟨some ⟨g, 0, none⟩, cap, by rw [hylen], by rw [hylen]; omega, hcm, ⟨_, hrall.keep (fun b hb => ?_) (fun b hb => ⟨hb.1.1, ?_⟩), fun _ => ⟨g, 0, rfl, ⟨hbg, ?_⟩, fun j u hu => ⟨?_, ?_⟩⟩⟩, ?_⟩
  · exact (((Keeps.drew _ _).trans (keeps_setCells hob _ _ _)).trans (keeps_setCells hob _ _ _)) b hb
  · rw [size_setCells, size_setCells]; exact hb.1.2
  · rw [size_setCells, size_setCells]; exact hg1
  · rw [Nat.zero_add]
    have hlen := (List.getElem?_eq_some_iff.1 hu).1
    rw [List.length_append] at hlen
    rw [World.cell?_setCells_out g _ (m * 8) _ ⟨g, j, none⟩ (fun _ _ => .inl (by show j < m * 8; omega))]
    by_cases h1 : j < k * 8
    · rw [World.cell?_setCells_out g cd (k * 8) _ ⟨g, j, none⟩ (fun _ _ => .inl h1)]
      rw [List.getElem?_append_left (by omega)] at hu
      exact hcs j u (by rw [hcc, List.getElem?_append_left (by omega)]; exact hu)
    · rw [List.getElem?_append_right (by omega), hcal] at hu
      have hj : j - k * 8 < cd.length := by omega
      have := World.cell?_setCells_in g cd (k * 8) w.drew (fun t ht => hpos _ (by omega)) (j - k * 8) hj
      rw [show k * 8 + (j - k * 8) = j by omega] at this
      rw [this, ← List.getElem?_eq_getElem hj]
      exact hu
  · rw [World.frozen?_setCells, World.frozen?_setCells]; exact hfr _
  · exact below_setCells hbg _ _ (below_setCells hbg _ _ (Below.refl _ _).drew)

end

def dropN (l : List Entry) (s : Id) : Int := if shelfMay l then (if (atOf l s).2 then 0 else 190) else 8

def dropL (l : List Entry) (s : Id) : List Entry := if dropN l s = 0 then l.take (atOf l s).1.toNat ++ l.drop ((atOf l s).1.toNat + 1) else []

/-- Found: there it is. -/
theorem at_true {l : List Entry} {s : Id} (hm : shelfMay l = true) (h : (atOf l s).2 = true) : ∃ k : Nat, (atOf l s).1 = (k : Int) ∧ ∃ x, l[k]? = some x ∧ x.id = s := by
  obtain ⟨y, hy, e⟩ := scan_true s _ h
  rw [List.mem_reverse] at hy
  obtain ⟨k, hk⟩ := List.getElem?_of_mem hy
  refine ⟨k, ?_, y, hk, e⟩
  rw [at_found hm hk e]

set_option maxRecDepth 100000 in
set_option maxHeartbeats 2000000 in
theorem shelfDrop (A : Option Addr) (c : Nat) (l : List Entry) (s : Id) (w : World) (hl : l.length ≤ 1099511627776) (hs : s.ok) (hA : R cEntry 0 w A l) :
    Calls Tryz.prog 128 #[.slice A l.length c, .agg #[.int .u32 s.t, .int .u8 s.r]] w (New2 cEntry (dropL l s) (dropN l s) w) := by
  have hchk := fun W (hb : Bl w W) => shelfCheck A c l W (by unfold maxLen; omega) (hA.bl hb)
  obtain ⟨L, hL⟩ : ∃ L, L = dropL l s := ⟨_, rfl⟩
  obtain ⟨N, hN⟩ : ∃ N, N = dropN l s := ⟨_, rfl⟩
  rw [← hL, ← hN]
  have hV0 : Bl w (w.alloc (.cells #[Value.int IntKind.u32 s.t, Value.int IntKind.u8 s.r] 25)) := (Bl.refl _).alloc _
  have at0 := IdAt.new w s
  cases hm : shelfMay l
  · have e2 : N = 8 := by rw [hN]; unfold dropN; rw [hm]; rfl
    have e1 : L = [] := by rw [hL]; unfold dropL; rw [← hN, e2]; rfl
    subst e1 e2
    rw [hm, okOr_false] at hchk
    replace hchk := hide hchk
    clear hL hN hm at0
    go_enter Tryz.func128, Tryz.ntmps128
    go_wp2_with fail
    refine (hchk.out _ hV0).mono ?_
    rintro e w1 ⟨rfl, hb1⟩
    go_wp2_with fail
    go_ret2
    exact ⟨none, 0, rfl, Nat.le_refl _, Nat.zero_le _, R.nil, hV0.trans hb1⟩
  rw [hm, okOr_true] at hchk
  replace hchk := hide hchk
  have hsml := hide (may_small hm)
  have hat := fun W (hb : Bl w W) => shelfAt A c l s W hl hs (hA.bl hb)
  cases hb2 : (atOf l s).2
  · have e2 : N = 190 := by rw [hN]; unfold dropN; rw [hm, hb2]; rfl
    have e1 : L = [] := by rw [hL]; unfold dropL; rw [← hN, e2]; rfl
    subst e1 e2
    rw [hb2] at hat
    generalize (atOf l s).1 = n at hat
    replace hat := hide hat
    clear hL hN hm hb2
    go_enter Tryz.func128, Tryz.ntmps128
    go_wp2_with fail
    refine (hchk.out _ hV0).mono ?_
    rintro e w1 ⟨rfl, hb1⟩
    obtain ⟨y0, y1, -, -⟩ := at0.bl hb1
    go_wp2_with fail
    refine (hat.out _ (hV0.trans hb1)).mono ?_
    rintro e w2 ⟨rfl, hb2⟩
    go_wp2_with fail
    go_ret2
    exact ⟨none, 0, rfl, Nat.le_refl _, Nat.zero_le _, R.nil, (hV0.trans hb1).trans hb2⟩
  · obtain ⟨k, hk, x, hx, -⟩ := at_true hm hb2
    have hkl : k < l.length := (List.getElem?_eq_some_iff.1 hx).1
    clear hx
    have e2 : N = 0 := by rw [hN]; unfold dropN; rw [hm, hb2]; rfl
    have e1 : L = l.take k ++ l.drop (k + 1) := by rw [hL]; unfold dropL; rw [← hN, e2, if_pos rfl, hk, Int.toNat_natCast]
    replace e1 := hide e1
    subst e2
    rw [hb2, hk] at hat
    replace hat := hide hat
    clear hL hN hm hb2 hk
    go_enter Tryz.func128, Tryz.ntmps128
    go_wp2_with fail
    refine (hchk.out _ hV0).mono ?_
    rintro e w1 ⟨rfl, hb1⟩
    obtain ⟨y0, y1, -, -⟩ := at0.bl hb1
    go_wp2_with fail
    refine (hat.out _ (hV0.trans hb1)).mono ?_
    rintro e w2 ⟨rfl, hb2⟩
    have hw2 := (hV0.trans hb1).trans hb2
    clear y0 y1
    go_wp2_with fail
    refine (shelfTwinO A c l _ hsml.out (hA.bl hw2)).mono ?_
    rintro e w3 ⟨v, rfl, hown, hb3⟩
    have hw3 := hw2.trans hb3
    have hdel := deleteC _ v l k w3 hown hkl
    rw [← e1.out] at hdel
    have hwz := hw2.size
    rcases hown.form with ⟨rfl, hl0⟩ | ⟨g, cap, rfl, hg1, hg2, hg3, hg4⟩
    · exact absurd (congrArg List.length hl0) (by rw [List.length_nil]; omega)
    · have hw1 : IntKind.i64.wrap ((k : Int) + 1) = (k : Int) + 1 := by rw [IntKind.wrap_i64]; omega
      go_wp2_with fail
      refine hdel.mono ?_
      rintro e w4 ⟨A4, c4, rfl, j1, j2, hr4, hb4⟩
      go_wp2_with fail
      go_ret2
      exact ⟨A4, c4, rfl, j1, j2, hr4.more hwz, Below.trans (B := w.heap.size) hw3 (Below.mono hb4 hwz)⟩

theorem idLess_tri {a b : Id} (h : a ≠ b) (k : idLess a b = false) : idLess b a = true := by
  have : ¬ (a.t = b.t ∧ a.r = b.r) := fun e => h (by obtain ⟨t, r⟩ := a; obtain ⟨t', r'⟩ := b; simp at e; rw [e.1, e.2])
  unfold idLess at *
  simp only [Bool.or_eq_true, Bool.and_eq_true, Bool.or_eq_false_iff, Bool.and_eq_false_iff, decide_eq_true_eq, decide_eq_false_iff_not] at *
  omega

theorem idLess_ne {a b : Id} (h : idLess a b = true) : a ≠ b := fun e => by rw [e, idLess_irrefl] at h; cases h

/-- One behind the other. -/
def Sorted (l : List Entry) : Prop := l.Pairwise fun x y => idLess x.id y.id = true

theorem may_sorted {l : List Entry} (h : shelfMay l = true) : Sorted l := by
  unfold Sorted
  rw [List.pairwise_iff_getElem]
  intro i j hi hj hij
  exact may_less h i j _ _ hij (List.getElem?_eq_getElem hi) (List.getElem?_eq_getElem hj)

theorem from_of {l : List Entry} : ∀ {prev : Option Id}, (∀ x ∈ l, entryMay x = true) → Sorted l → (∀ p, prev = some p → ∀ x ∈ l, idLess p x.id = true) → shelfFrom prev l = true := by
  induction l with
  | nil => intro _ _ _ _; rfl
  | cons x l ih =>
    intro prev h1 h2 h3
    unfold Sorted at h2
    rw [List.pairwise_cons] at h2
    rw [shelfFrom, h1 x (by simp), ih (fun y hy => h1 y (by simp [hy])) h2.2 (fun p hp y hy => by cases hp; exact h2.1 y hy)]
    cases prev with
    | none => rfl
    | some p => show (true && idLess p x.id && true) = true; rw [h3 p rfl x (by simp)]; rfl

theorem may_of {l : List Entry} (h0 : l.length ≤ 65) (h1 : ∀ x ∈ l, entryMay x = true) (h2 : Sorted l) : shelfMay l = true := by
  unfold shelfMay
  rw [decide_eq_true h0, from_of h1 h2 (fun p hp => by cases hp)]
  rfl

/-- Where a stamp stands in what is sorted. -/
theorem at_split (s : Id) : ∀ (n : Nat) (l : List Entry), l.length = n → Sorted l → ∃ k : Nat, k ≤ l.length ∧ (atOf l s).1 = k ∧ (∀ z ∈ l.take k, idLess z.id s = true) ∧ ((atOf l s).2 = true → ∃ z, l[k]? = some z ∧ z.id = s ∧ ∀ u ∈ l.drop (k + 1), idLess s u.id = true) ∧ ((atOf l s).2 = false → ∀ z ∈ l.drop k, idLess s z.id = true) := by
  intro n
  induction n with
  | zero =>
    intro l hl _
    obtain rfl := List.length_eq_zero_iff.1 hl
    exact ⟨0, Nat.le_refl _, rfl, fun z hz => by simp at hz, fun h => (by cases h), fun _ z hz => by simp at hz⟩
  | succ n ih =>
    intro l hl hs
    have hne : l ≠ [] := fun e => by subst e; cases hl
    obtain ⟨l', y, rfl⟩ : ∃ l' y, l = l' ++ [y] := ⟨l.dropLast, l.getLast hne, (List.dropLast_concat_getLast hne).symm⟩
    have hl' : l'.length = n := by simpa using hl
    unfold Sorted at hs
    rw [List.pairwise_append] at hs
    obtain ⟨hs1, -, hs2⟩ := hs
    have hat : atOf (l' ++ [y]) s = match hitOf y l'.length s with | some p => p | none => atOf l' s := by
      unfold atOf
      rw [List.reverse_append, List.reverse_singleton, List.singleton_append, atScan, List.length_reverse]
      rfl
    have hy : ∀ z ∈ l', idLess z.id y.id = true := fun z hz => hs2 z hz y (by simp)
    unfold hitOf at hat
    by_cases h1 : y.id = s
    · rw [if_pos h1] at hat
      replace hat : atOf (l' ++ [y]) s = ((l'.length : Int), true) := hat
      rw [hat]
      refine ⟨l'.length, by simp, rfl, fun z hz => ?_, fun _ => ⟨y, by simp, h1, fun u hu => by simp at hu⟩, fun h => by cases h⟩
      rw [List.take_left] at hz
      exact h1 ▸ hy z hz
    · rw [if_neg h1] at hat
      cases h2 : idLess y.id s
      · rw [h2] at hat
        replace hat : atOf (l' ++ [y]) s = atOf l' s := hat
        have hys := idLess_tri h1 h2
        obtain ⟨k, k0, k1, k2, k3, k4⟩ := ih l' hl' hs1
        rw [hat]
        refine ⟨k, by simp; omega, k1, fun z hz => ?_, fun h => ?_, fun h z hz => ?_⟩
        · rw [List.take_append_of_le_length k0] at hz
          exact k2 z hz
        · obtain ⟨z, z1, z2, z3⟩ := k3 h
          have hk : k < l'.length := (List.getElem?_eq_some_iff.1 z1).1
          refine ⟨z, by rw [List.getElem?_append_left hk]; exact z1, z2, fun u hu => ?_⟩
          rw [List.drop_append_of_le_length hk] at hu
          rcases List.mem_append.1 hu with hu | hu
          · exact z3 u hu
          · simp at hu; subst hu; exact hys
        · rw [List.drop_append_of_le_length k0] at hz
          rcases List.mem_append.1 hz with hz | hz
          · exact k4 h z hz
          · simp at hz; subst hz; exact hys
      · rw [h2] at hat
        replace hat : atOf (l' ++ [y]) s = ((l'.length : Int) + 1, false) := hat
        rw [hat]
        refine ⟨l'.length + 1, by simp, by simp, fun z hz => ?_, fun h => (by cases h), fun _ z hz => ?_⟩
        · rw [List.take_of_length_le (by simp)] at hz
          rcases List.mem_append.1 hz with hz | hz
          · exact idLess_trans (hy z hz) h2
          · simp at hz; subst hz; exact h2
        · rw [List.drop_of_length_le (by simp)] at hz
          cases hz

/-- The document's: without a section's; with an entry. -/
def outL (l : List Entry) (s : Id) : List Entry := l.filter fun x => !decide (x.id = s)

def withL (l : List Entry) (x : Entry) : List Entry := (outL l x.id).filter (fun y => idLess y.id x.id) ++ x :: (outL l x.id).filter (fun y => idLess x.id y.id)

theorem out_low {l : List Entry} {s : Id} (h : ∀ z ∈ l, idLess z.id s = true) : outL l s = l := by
  unfold outL
  rw [List.filter_eq_self]
  intro z hz
  have := idLess_ne (h z hz)
  simpa using this

theorem out_high {l : List Entry} {s : Id} (h : ∀ z ∈ l, idLess s z.id = true) : outL l s = l := by
  unfold outL
  rw [List.filter_eq_self]
  intro z hz
  have := idLess_ne (h z hz)
  have h2 : ¬ z.id = s := fun e => this e.symm
  simpa using h2

theorem out_app (a b : List Entry) (s : Id) : outL (a ++ b) s = outL a s ++ outL b s := by unfold outL; rw [List.filter_append]

theorem low_low {l : List Entry} {s : Id} (h : ∀ z ∈ l, idLess z.id s = true) : l.filter (fun y => idLess y.id s) = l ∧ l.filter (fun y => idLess s y.id) = [] := by
  constructor
  · rw [List.filter_eq_self]; exact h
  · rw [List.filter_eq_nil_iff]; intro z hz; rw [idLess_asymm (h z hz)]; simp

theorem high_high {l : List Entry} {s : Id} (h : ∀ z ∈ l, idLess s z.id = true) : l.filter (fun y => idLess y.id s) = [] ∧ l.filter (fun y => idLess s y.id) = l := by
  constructor
  · rw [List.filter_eq_nil_iff]; intro z hz; rw [idLess_asymm (h z hz)]; simp
  · rw [List.filter_eq_self]; exact h

/-- A shelf in three parts. -/
theorem at_parts {l : List Entry} (hs : Sorted l) (s : Id) : ∃ (a b : List Entry), (∀ z ∈ a, idLess z.id s = true) ∧ (∀ z ∈ b, idLess s z.id = true) ∧ (atOf l s).1 = (a.length : Int) ∧ (((atOf l s).2 = true ∧ ∃ y, y.id = s ∧ l = a ++ y :: b) ∨ ((atOf l s).2 = false ∧ l = a ++ b)) := by
  obtain ⟨k, k0, k1, k2, k3, k4⟩ := at_split s _ l rfl hs
  have hlen : (l.take k).length = k := by rw [List.length_take, Nat.min_eq_left k0]
  cases hb : (atOf l s).2
  · exact ⟨l.take k, l.drop k, k2, k4 hb, by rw [hlen]; exact k1, .inr ⟨rfl, (List.take_append_drop k l).symm⟩⟩
  · obtain ⟨z, z1, z2, z3⟩ := k3 hb
    exact ⟨l.take k, l.drop (k + 1), k2, z3, by rw [hlen]; exact k1, .inl ⟨rfl, z, z2, by rw [← drop_cons z1, List.take_append_drop]⟩⟩

theorem out_mid {a b : List Entry} {y : Entry} {s : Id} (ha : ∀ z ∈ a, idLess z.id s = true) (hb : ∀ z ∈ b, idLess s z.id = true) (hy : y.id = s) : outL (a ++ y :: b) s = a ++ b := by
  rw [out_app, out_low ha]
  congr 1
  have : outL (y :: b) s = outL b s := by unfold outL; rw [List.filter_cons, if_neg (by simp [hy])]
  rw [this, out_high hb]

theorem out_two {a b : List Entry} {s : Id} (ha : ∀ z ∈ a, idLess z.id s = true) (hb : ∀ z ∈ b, idLess s z.id = true) : outL (a ++ b) s = a ++ b := by
  rw [out_app, out_low ha, out_high hb]

theorem with_of {l a b : List Entry} {x : Entry} (ha : ∀ z ∈ a, idLess z.id x.id = true) (hb : ∀ z ∈ b, idLess x.id z.id = true) (h : outL l x.id = a ++ b) : withL l x = a ++ x :: b := by
  unfold withL
  rw [h, List.filter_append, List.filter_append, (low_low ha).1, (low_low ha).2, (high_high hb).1, (high_high hb).2, List.append_nil, List.nil_append]

/-- Put's list is the document's. -/
theorem put_with {l : List Entry} {x : Entry} (h : putN l x = 0) : putEL l x = withL l x := by
  have hm : shelfMay l = true := by
    cases hq : shelfMay l
    · unfold putN at h; rw [hq] at h; cases h
    · rfl
  obtain ⟨a, b, ha, hb, h1, ⟨h2, y, hy, h3⟩ | ⟨h2, h3⟩⟩ := at_parts (may_sorted hm) x.id
  · unfold putEL
    rw [if_pos h, h2, if_pos rfl, h1, Int.toNat_natCast, with_of ha hb (by rw [h3, out_mid ha hb hy]), h3, List.set_append_right _ _ (Nat.le_refl _), Nat.sub_self]
    rfl
  · unfold putEL
    rw [if_pos h, h2, if_neg (by simp), h1, Int.toNat_natCast, with_of ha hb (by rw [h3, out_two ha hb]), h3, List.take_left, List.drop_left]

theorem with_len {l : List Entry} {x : Entry} (hm : shelfMay l = true) : (withL l x).length = if (atOf l x.id).2 then l.length else l.length + 1 := by
  obtain ⟨a, b, ha, hb, h1, ⟨h2, y, hy, h3⟩ | ⟨h2, h3⟩⟩ := at_parts (may_sorted hm) x.id
  · rw [with_of ha hb (by rw [h3, out_mid ha hb hy]), h2, if_pos rfl, h3]; simp
  · rw [with_of ha hb (by rw [h3, out_two ha hb]), h2, if_neg (by simp), h3]; simp; omega

/-- .. and its errors. -/
theorem put_n {l : List Entry} {x : Entry} : putN l x = if shelfMay l && entryMay x then (if 65 < (withL l x).length then 9 else 0) else 8 := by
  unfold putN
  cases hm : shelfMay l
  · rfl
  cases hx : entryMay x
  · rfl
  show (if (atOf l x.id).2 then (0 : Int) else if l.length = 65 then 9 else 0) = if 65 < (withL l x).length then 9 else 0
  have h65 := (may_from hm).1
  rw [with_len hm]
  cases hb : (atOf l x.id).2
  · simp only [Bool.false_eq_true, if_false]
    by_cases h : l.length = 65
    · rw [if_pos h, if_pos (by omega)]
    · rw [if_neg h, if_neg (by omega)]
  · simp only [if_true]
    rw [if_neg (by omega)]

theorem ent_at {l : List Entry} {s : Id} (hm : shelfMay l = true) : (atOf l s).2 = (entOf l s).isSome := by
  cases he : entOf l s with
  | none => rw [at_false he]; rfl
  | some x =>
    obtain ⟨k, hk, e⟩ := ent_some he
    rw [at_found hm hk e]; rfl

/-- Drop's list is the document's. -/
theorem drop_out {l : List Entry} {s : Id} (h : dropN l s = 0) : dropL l s = outL l s := by
  have hm : shelfMay l = true := by
    cases hq : shelfMay l
    · unfold dropN at h; rw [hq] at h; cases h
    · rfl
  have hb2 : (atOf l s).2 = true := by
    cases hq : (atOf l s).2
    · unfold dropN at h; rw [hm, hq] at h; cases h
    · rfl
  obtain ⟨a, b, ha, hb, h1, ⟨h2, y, hy, h3⟩ | ⟨h2, h3⟩⟩ := at_parts (may_sorted hm) s
  · unfold dropL
    rw [if_pos h, h1, Int.toNat_natCast]
    rw [h3, out_mid ha hb hy, List.take_left]
    congr 1
    rw [show a ++ y :: b = (a ++ [y]) ++ b by simp, show a.length + 1 = (a ++ [y]).length by simp, List.drop_left]
  · rw [hb2] at h2; cases h2

theorem with_entry {l : List Entry} {x y : Entry} (h : y ∈ withL l x) : y = x ∨ y ∈ l := by
  unfold withL at h
  rcases List.mem_append.1 h with h | h
  · exact .inr ((List.mem_filter.1 (List.mem_filter.1 h).1).1)
  · rcases List.mem_cons.1 h with h | h
    · exact .inl h
    · exact .inr ((List.mem_filter.1 (List.mem_filter.1 h).1).1)

theorem out_entry {l : List Entry} {s : Id} {y : Entry} (h : y ∈ outL l s) : y ∈ l := (List.mem_filter.1 h).1

theorem sorted_out {l : List Entry} (s : Id) (h : Sorted l) : Sorted (outL l s) := List.Pairwise.filter _ h

theorem sorted_with {l : List Entry} {x : Entry} (h : Sorted l) : Sorted (withL l x) := by
  unfold withL Sorted
  have h1 := sorted_out x.id h
  rw [List.pairwise_append, List.pairwise_cons]
  refine ⟨List.Pairwise.filter _ h1, ⟨fun y hy => (List.mem_filter.1 hy).2, List.Pairwise.filter _ h1⟩, fun a ha b hb => ?_⟩
  have ka := (List.mem_filter.1 ha).2
  rcases List.mem_cons.1 hb with rfl | hb
  · exact ka
  · exact idLess_trans ka (List.mem_filter.1 hb).2

theorem put_may {l : List Entry} {x : Entry} (h : putN l x = 0) : shelfMay l = true ∧ entryMay x = true ∧ shelfMay (withL l x) = true := by
  rw [put_n] at h
  cases hm : shelfMay l
  · rw [hm] at h; cases h
  cases hx : entryMay x
  · rw [hm, hx] at h; cases h
  refine ⟨rfl, rfl, may_of ?_ (fun y hy => ?_) (sorted_with (may_sorted hm))⟩
  · rw [hm, hx] at h
    replace h : (if 65 < (withL l x).length then (9 : Int) else 0) = 0 := h
    by_cases hq : 65 < (withL l x).length
    · rw [if_pos hq] at h; cases h
    · omega
  · rcases with_entry hy with rfl | hy
    · exact hx
    · exact may_entry hm y hy

end Go.Proofs.YteoodmilcpmmpaaGreat
