/-
  Plain words of this seat's proofs: what slices of spans, stamps, clocks, entries read as, and that this is kept. No program in sight.
-/
import Derived.Handy
import Derived.Below
import Derived.Laws.OwnMore
import Derived.Maps.AppendAt
import Derived.Deep.Draws
namespace Go.Proofs.YteoodmilcpmmpaaGreat

open Go.RowKit

structure Id where
  t : Int
  r : Int

structure Span where
  f : Int
  t : Int

structure Times where
  r : Int
  s : List Span

structure Entry where
  id : Id
  ready : Bool
  pin : Bool
  used : Int
  known : Bool
  snap : List Times
  got : List Bool

theorem Id.ext' {a b : Id} (h1 : a.t = b.t) (h2 : a.r = b.r) : a = b := by cases a; cases b; simp_all

theorem Span.ext' {a b : Span} (h1 : a.f = b.f) (h2 : a.t = b.t) : a = b := by cases a; cases b; simp_all

instance : DecidableEq Id := fun a b => decidable_of_iff (a.t = b.t ∧ a.r = b.r) ⟨fun h => Id.ext' h.1 h.2, fun h => by subst h; exact ⟨rfl, rfl⟩⟩

instance : DecidableEq Span := fun a b => decidable_of_iff (a.f = b.f ∧ a.t = b.t) ⟨fun h => Span.ext' h.1 h.2, fun h => by subst h; exact ⟨rfl, rfl⟩⟩

instance : DecidableEq Times := fun a b => decidable_of_iff (a.r = b.r ∧ a.s = b.s) ⟨fun h => by cases a; cases b; simp_all, fun h => by subst h; exact ⟨rfl, rfl⟩⟩

instance : DecidableEq Entry := fun a b => decidable_of_iff (a.id = b.id ∧ a.ready = b.ready ∧ a.pin = b.pin ∧ a.used = b.used ∧ a.known = b.known ∧ a.snap = b.snap ∧ a.got = b.got)
  ⟨fun h => by cases a; cases b; simp_all, fun h => by subst h; simp⟩

def Id.ok (a : Id) : Prop := 0 ≤ a.t ∧ a.t < 4294967296 ∧ 0 ≤ a.r ∧ a.r < 256

def Span.ok (a : Span) : Prop := 0 ≤ a.f ∧ a.f < 4294967296 ∧ 0 ≤ a.t ∧ a.t < 4294967296

def u8ok (r : Int) : Prop := 0 ≤ r ∧ r < 256

def i64ok (r : Int) : Prop := -9223372036854775808 ≤ r ∧ r ≤ 9223372036854775807

/-- Nothing that lay in w has turned. -/
def Bl (w w' : World) : Prop := Below w.heap.size w w'

theorem Bl.refl (w : World) : Bl w w := Below.refl _ _

theorem Bl.size {w w' : World} (h : Bl w w') : w.heap.size ≤ w'.heap.size := Below.size h

theorem Bl.trans {a b c : World} (h : Bl a b) (k : Bl b c) : Bl a c := Below.trans (B := a.heap.size) h (k.mono h.size)

theorem Bl.below {w w' : World} (h : Bl w w') {B : Nat} (hB : B ≤ w.heap.size) : Below B w w' := Below.mono h hB

theorem Bl.step {a b c : World} (h : Bl a b) (k : Below a.heap.size b c) : Bl a c := Below.trans (B := a.heap.size) h k

theorem Bl.alloc {a w : World} (h : Bl a w) (o : Obj) : Bl a (w.alloc o) := Below.alloc h h.size o

theorem Bl.drew {a w : World} (h : Bl a w) : Bl a w.drew := Below.drew h

theorem Bl.drewN {a w : World} (h : Bl a w) (n : Nat) : Bl a (w.drewN n) := ⟨h.os, h.tape, h.output, (Bl.size h : a.heap.size ≤ w.heap.size), h.block⟩

theorem Bl.setCell {a w : World} (h : Bl a w) {p : Addr} (hp : a.heap.size ≤ p.block) (u : Value) : Bl a (w.setCell p u) := Below.setCell h hp u

theorem Bl.cell {w w' : World} (h : Bl w w') {b o : Nat} (hp : b < w.heap.size) : w'.cell? ⟨b, o, none⟩ = w.cell? ⟨b, o, none⟩ := Below.cell (p := ⟨b, o, none⟩) h hp

theorem Bl.frozen {w w' : World} (h : Bl w w') {b o : Nat} (hp : b < w.heap.size) : w'.frozen? ⟨b, o, none⟩ = w.frozen? ⟨b, o, none⟩ := Below.frozen (p := ⟨b, o, none⟩) h hp

theorem Bl.cells {w w' : World} (h : Bl w w') : ∀ b o, b < w.heap.size → w'.cell? ⟨b, o, none⟩ = w.cell? ⟨b, o, none⟩ := fun _ _ hp => h.cell hp

theorem Bl.frozens {w w' : World} (h : Bl w w') : ∀ b o, b < w.heap.size → w'.frozen? ⟨b, o, none⟩ = w.frozen? ⟨b, o, none⟩ := fun _ _ hp => h.frozen hp

theorem Bl.own {a b c : World} {v : Value} {base : Nat} {e : TypeId} {size n : Nat} {xs : List Value} (h : Bl a b) (ho : b.ownsRow base e size v n xs) (hb : a.heap.size ≤ base) (hg : b.grownBy c v.ownBlock) : Bl a c :=
  Below.grown h hg h.size (fun k hk => Nat.le_trans hb (ho.lt k hk).1)

theorem Bl.grown {a b c : World} (h : Bl a b) (hg : b.grownBy c none) : Bl a c := Below.grown h hg h.size (fun k hk => by cases hk)

/-- From address (b, off) on lie these cells; none is frozen. -/
def At (w : World) (b off : Nat) (cs : List Value) : Prop := ∀ (j : Nat) (u : Value), cs[j]? = some u → w.cell? ⟨b, off + j, none⟩ = some u ∧ w.frozen? ⟨b, off + j, none⟩ = false

/-- These are the cells of a slice at A; its block is one of S. -/
def Sl (w : World) (S : Nat → Prop) (A : Option Addr) (cs : List Value) : Prop := cs ≠ [] → ∃ b off, A = some ⟨b, off, none⟩ ∧ S b ∧ At w b off cs

/-- The blocks of S are in w' as in w. -/
def Keeps (S : Nat → Prop) (w w' : World) : Prop := ∀ b, S b → w'.heap[b]? = w.heap[b]?

theorem Keeps.cell {S : Nat → Prop} {w w' : World} (h : Keeps S w w') {b o : Nat} (hb : S b) : w'.cell? ⟨b, o, none⟩ = w.cell? ⟨b, o, none⟩ := World.cell?_of_block (h b hb)

theorem Keeps.frozen {S : Nat → Prop} {w w' : World} (h : Keeps S w w') {b o : Nat} (hb : S b) : w'.frozen? ⟨b, o, none⟩ = w.frozen? ⟨b, o, none⟩ := World.frozen?_of_block (h b hb)

theorem Keeps.refl (S : Nat → Prop) (w : World) : Keeps S w w := fun _ _ => rfl

theorem Bl.keeps {S : Nat → Prop} {w w' : World} (h : Bl w w') (hS : ∀ b, S b → b < w.heap.size) : Keeps S w w' := fun b hb => h.block b (hS b hb)

/-- How an element stands in memory: so many cells; what the blocks of S hold tells it. -/
structure Codec (α : Type) where
  size : Nat
  pos : 0 < size
  rd : World → (Nat → Prop) → α → List Value → Prop
  len : ∀ {w S x cs}, rd w S x cs → cs.length = size
  keep : ∀ {w w' : World} {S S' : Nat → Prop} {x cs}, Keeps S w w' → (∀ b, S b → S' b) → rd w S x cs → rd w' S' x cs
  one : ∀ {w S x cs}, rd w S x cs → ∀ u ∈ cs, u.oneCell' = true

section

variable {α : Type}

theorem At.keep {w w' : World} {b off : Nat} {cs : List Value} (h : At w b off cs) (k : w'.heap[b]? = w.heap[b]?) : At w' b off cs :=
  fun j u hu => ⟨(World.cell?_of_block (a := ⟨b, off + j, none⟩) k).trans (h j u hu).1, (World.frozen?_of_block (a := ⟨b, off + j, none⟩) k).trans (h j u hu).2⟩

theorem At.left {w : World} {b off : Nat} {cs ds : List Value} (h : At w b off (cs ++ ds)) : At w b off cs := fun j u hu => h j u (by
  rw [List.getElem?_append_left]; exact hu; exact (List.getElem?_eq_some_iff.1 hu).1)

theorem At.right {w : World} {b off : Nat} {cs ds : List Value} (h : At w b off (cs ++ ds)) : At w b (off + cs.length) ds := fun j u hu => by
  have := h (cs.length + j) u (by rw [List.getElem?_append_right (by omega), Nat.add_sub_cancel_left]; exact hu)
  rwa [← Nat.add_assoc] at this

theorem Sl.keep {w w' : World} {S S' : Nat → Prop} {A : Option Addr} {cs : List Value} (h : Sl w S A cs) (k : Keeps S w w') (hS : ∀ b, S b → S' b) : Sl w' S' A cs := fun hn => by
  obtain ⟨b, off, e, hb, ha⟩ := h hn
  exact ⟨b, off, e, hS b hb, ha.keep (k b hb)⟩

/-- The elements of a list, one behind the other. -/
def RdL (C : Codec α) (w : World) (S : Nat → Prop) : List α → List Value → Prop
  | [], cells => cells = []
  | x :: xs, cells => ∃ a b, cells = a ++ b ∧ C.rd w S x a ∧ RdL C w S xs b

variable {C : Codec α} {w w' : World} {S S' : Nat → Prop} {lo lo' : Nat} {xs ys : List α} {x : α} {A : Option Addr} {cells ds : List Value}

theorem RdL.nil : RdL C w S [] [] := rfl

theorem RdL.length (h : RdL C w S xs cells) : cells.length = xs.length * C.size := by
  induction xs generalizing cells with
  | nil => rw [show cells = [] from h]; simp
  | cons x xs ih =>
    obtain ⟨a, b, rfl, ha, hb⟩ := h
    rw [List.length_append, C.len ha, ih hb, List.length_cons, Nat.succ_mul, Nat.add_comm]

theorem RdL.append (h : RdL C w S xs cells) (k : RdL C w S ys ds) : RdL C w S (xs ++ ys) (cells ++ ds) := by
  induction xs generalizing cells with
  | nil => rw [show cells = [] from h]; simpa using k
  | cons x xs ih =>
    obtain ⟨a, b, rfl, ha, hb⟩ := h
    exact ⟨a, b ++ ds, by rw [List.append_assoc], ha, ih hb⟩

theorem RdL.one1 (k : C.rd w S x ds) : RdL C w S [x] ds := ⟨ds, [], by simp, k, rfl⟩

theorem RdL.keep (h : RdL C w S xs cells) (k : Keeps S w w') (hS : ∀ b, S b → S' b) : RdL C w' S' xs cells := by
  induction xs generalizing cells with
  | nil => exact h
  | cons x xs ih =>
    obtain ⟨a, b, rfl, ha, hb⟩ := h
    exact ⟨a, b, rfl, C.keep k hS ha, ih hb⟩

theorem RdL.one (h : RdL C w S xs cells) : ∀ u ∈ cells, u.oneCell' = true := by
  induction xs generalizing cells with
  | nil => rw [show cells = [] from h]; intro u hu; cases hu
  | cons x xs ih =>
    obtain ⟨a, b, rfl, ha, hb⟩ := h
    intro u hu
    rcases List.mem_append.1 hu with h1 | h1
    · exact C.one ha u h1
    · exact ih hb u h1

/-- The cells of element k. -/
theorem RdL.get {k : Nat} (h : RdL C w S xs cells) (hk : xs[k]? = some x) : ∃ p m s, cells = p ++ (m ++ s) ∧ p.length = k * C.size ∧ C.rd w S x m := by
  induction xs generalizing cells k with
  | nil => simp at hk
  | cons y xs ih =>
    obtain ⟨a, b, rfl, ha, hb⟩ := h
    cases k with
    | zero => simp at hk; subst hk; exact ⟨[], a, b, by simp, by simp, ha⟩
    | succ k =>
      obtain ⟨p, m, s, rfl, hp, hm⟩ := ih hb (by simpa using hk)
      exact ⟨a ++ p, m, s, by simp, by rw [List.length_append, C.len ha, hp, Nat.succ_mul, Nat.add_comm], hm⟩

theorem RdL.split (h : RdL C w S (xs ++ ys) cells) : ∃ a b, cells = a ++ b ∧ RdL C w S xs a ∧ RdL C w S ys b := by
  induction xs generalizing cells with
  | nil => exact ⟨[], cells, rfl, rfl, h⟩
  | cons x xs ih =>
    obtain ⟨a, b, rfl, ha, hb⟩ := h
    obtain ⟨c, d, rfl, hc, hd⟩ := ih hb
    exact ⟨a ++ c, d, by simp, ⟨a, c, rfl, ha, hc⟩, hd⟩

/-- The slice at A reads as xs; all that tells it lies in blocks of S. -/
def RS (C : Codec α) (w : World) (S : Nat → Prop) (A : Option Addr) (xs : List α) : Prop := ∃ cells, RdL C w S xs cells ∧ Sl w S A cells

/-- The blocks from lo on. -/
def Fresh (lo : Nat) (w : World) : Nat → Prop := fun b => lo ≤ b ∧ b < w.heap.size

/-- .. in blocks from lo on. -/
def R (C : Codec α) (lo : Nat) (w : World) (A : Option Addr) (xs : List α) : Prop := RS C w (Fresh lo w) A xs

theorem RS.keep (h : RS C w S A xs) (k : Keeps S w w') (hS : ∀ b, S b → S' b) : RS C w' S' A xs := by
  obtain ⟨cells, hr, hs⟩ := h
  exact ⟨cells, hr.keep k hS, hs.keep k hS⟩

theorem Fresh.bl (hb : Bl w w') : ∀ b, Fresh lo w b → Fresh lo w' b := fun _ h => ⟨h.1, Nat.lt_of_lt_of_le h.2 hb.size⟩

theorem R.bl (h : R C lo w A xs) (hb : Bl w w') : R C lo w' A xs := RS.keep h (hb.keeps fun _ h => h.2) (Fresh.bl hb)

theorem R.more (h : R C lo w A xs) (h1 : lo' ≤ lo) : R C lo' w A xs := RS.keep h (Keeps.refl _ _) fun _ h => ⟨Nat.le_trans h1 h.1, h.2⟩

theorem R.zero (h : R C lo w A xs) : R C 0 w A xs := h.more (Nat.zero_le _)

theorem RS.up (h : RS C w S A xs) (hS : ∀ b, S b → S' b) : RS C w S' A xs := h.keep (Keeps.refl _ _) hS

theorem R.nil : R C lo w A [] := ⟨[], rfl, fun h => absurd rfl h⟩

theorem RS.nil : RS C w S A [] := ⟨[], rfl, fun h => absurd rfl h⟩

theorem RS.addr (h : RS C w S A xs) (hn : 0 < xs.length) : ∃ b off, A = some ⟨b, off, none⟩ ∧ S b := by
  obtain ⟨cells, hr, hs⟩ := h
  have hl := hr.length
  have : 0 < xs.length * C.size := Nat.mul_pos hn C.pos
  obtain ⟨b, off, e, h1, _⟩ := hs (by intro e; subst e; simp at hl; omega)
  exact ⟨b, off, e, h1⟩

theorem RS.get {b off k : Nat} (h : RS C w S (some ⟨b, off, none⟩) xs) (hk : xs[k]? = some x) : S b ∧ ∃ m, C.rd w S x m ∧ At w b (off + k * C.size) m := by
  obtain ⟨cells, hr, hs⟩ := h
  obtain ⟨p, m, s, rfl, hp, hm⟩ := hr.get hk
  have hmn : m ≠ [] := by intro e; have := C.len hm; have := C.pos; subst e; simp at *; omega
  obtain ⟨b', off', e, h1, ha⟩ := hs (by simp [hmn])
  cases e
  refine ⟨h1, m, hm, ?_⟩
  have := (ha.right (cs := p)).left
  rwa [hp] at this

theorem R.addr (h : R C lo w A xs) (hn : 0 < xs.length) : ∃ b off, A = some ⟨b, off, none⟩ ∧ lo ≤ b ∧ b < w.heap.size := RS.addr h hn

theorem R.get {b off k : Nat} (h : R C lo w (some ⟨b, off, none⟩) xs) (hk : xs[k]? = some x) : (lo ≤ b ∧ b < w.heap.size) ∧ ∃ m, C.rd w (Fresh lo w) x m ∧ At w b (off + k * C.size) m := RS.get h hk

/-- The cells of all, where there is one. -/
theorem R.all (h : R C lo w A xs) : ∃ news, RdL C w (Fresh lo w) xs news ∧ (∀ ad, A = some ad → ∀ (j : Nat) (u : Value), news[j]? = some u → w.cell? (ad.add j) = some u) ∧ (A = none → xs = []) := by
  obtain ⟨cells, hr, hs⟩ := h
  refine ⟨cells, hr, fun ad e j u hu => ?_, fun e => ?_⟩
  · obtain ⟨b, off, e', _, ha⟩ := hs (by intro h; subst h; simp at hu)
    rw [e] at e'
    cases e'
    have hadd : (⟨b, off, none⟩ : Addr).add j = ⟨b, off + j, none⟩ := by
      unfold Addr.add
      split
      · rename_i h0; subst h0; rfl
      · rfl
    rw [hadd]
    exact (ha j u hu).1
  · have hl := hr.length
    by_cases hc : cells = []
    · rw [hc, List.length_nil] at hl
      rcases Nat.mul_eq_zero.1 hl.symm with hl | hl
      · exact List.eq_nil_of_length_eq_zero hl
      · have := C.pos; omega
    · obtain ⟨b, off, e', _⟩ := hs hc
      rw [e] at e'
      cases e'

/-- What the call owns, with whatever its elements lead to, all of it laid from 'base' on: it reads as a list, and may be appended to. -/
def Own (C : Codec α) (e : TypeId) (base : Nat) (w : World) (v : Value) (xs : List α) : Prop :=
  ∃ cells, w.ownsRow base e C.size v xs.length cells ∧ RdL C w (fun b => (base ≤ b ∧ b < w.heap.size) ∧ v.ownBlock ≠ some b) xs cells

theorem Own.nil {e : TypeId} : Own C e lo w (.slice none 0 0) [] := ⟨[], World.ownsRow_nil _ _ _ _, rfl⟩

theorem Own.empty {e : TypeId} {w : World} (h : lo ≤ w.heap.size) : Own C e lo (w.alloc (.cells #[] e)) (.slice (some ⟨w.heap.size, 0, none⟩) 0 0) [] :=
  ⟨[], World.ownsRow_made w #[] 0 h (Nat.zero_le _) (by simp), rfl⟩

theorem Bl.grown_none (hb : Bl w w') : w.grownBy w' none := ⟨hb.os, hb.tape, hb.output, Bl.size hb, fun k hk _ => hb.block k hk⟩

theorem Own.bl {e : TypeId} {v : Value} (h : Own C e lo w v xs) (hb : Bl w w') : Own C e lo w' v xs := by
  obtain ⟨cells, ho, hr⟩ := h
  exact ⟨cells, ho.kept hb.grown_none (by cases v.ownBlock <;> simp), hr.keep (hb.keeps fun _ h => h.1.2) fun b h => ⟨Fresh.bl hb b h.1, h.2⟩⟩

theorem Bl.app {a b c : World} {e : TypeId} {v : Value} {base : Nat} (h : Bl a b) (ho : Own C e base b v xs) (hb : a.heap.size ≤ base) (hg : b.grownBy c v.ownBlock) : Bl a c :=
  let ⟨_, h1, _⟩ := ho
  Below.grown h hg h.size (fun k hk => Nat.le_trans hb (h1.lt k hk).1)

/-- v' in w' came of v in w: whatever lay in w, but v's own row, is as it was, and is not v's. -/
def Far (w : World) (v : Value) (w' : World) (v' : Value) : Prop := w.heap.size ≤ w'.heap.size ∧ ∀ b, b < w.heap.size → (v.ownBlock = some b → False) → w'.heap[b]? = w.heap[b]? ∧ (v'.ownBlock = some b → False)

theorem Far.refl (w : World) (v : Value) : Far w v w v := ⟨Nat.le_refl _, fun _ _ h => ⟨rfl, h⟩⟩

theorem Far.trans {a b c : World} {u v x : Value} (h : Far a u b v) (k : Far b v c x) : Far a u c x :=
  ⟨Nat.le_trans h.1 k.1, fun i hi hu => ⟨((k.2 i (Nat.lt_of_lt_of_le hi h.1) (h.2 i hi hu).2).1).trans (h.2 i hi hu).1, (k.2 i (Nat.lt_of_lt_of_le hi h.1) (h.2 i hi hu).2).2⟩⟩

theorem Far.bl {a b c : World} {u v : Value} (h : Far a u b v) (k : Bl b c) : Far a u c v :=
  h.trans ⟨k.size, fun i hi hu => ⟨k.block i hi, hu⟩⟩

theorem Far.cell {u v : Value} (h : Far w u w' v) {b o : Nat} (hb : b < w.heap.size) (hu : u.ownBlock = some b → False) : w'.cell? ⟨b, o, none⟩ = w.cell? ⟨b, o, none⟩ :=
  World.cell?_of_block (a := ⟨b, o, none⟩) (h.2 b hb hu).1

/-- What the call owns reads as a list. -/
theorem Own.reads {e : TypeId} {v : Value} (h : Own C e lo w v xs) : ∃ A c, v = .slice A xs.length c ∧ R C lo w A xs ∧ xs.length ≤ c ∧ c ≤ maxLen := by
  obtain ⟨cells, ho, hr⟩ := h
  have hl := hr.length
  obtain ⟨_, h2⟩ := ho
  rcases h2 with ⟨rfl, h0⟩ | ⟨g, cap, cur, rfl, hb, hg, hc, hm, hsz, htk⟩
  · refine ⟨none, 0, by rw [h0], ⟨cells, hr.keep (Keeps.refl _ _) fun _ h => h.1, fun hne => ?_⟩, by omega, by unfold maxLen; omega⟩
    rw [h0] at hl
    simp at hl
    exact absurd hl hne
  · refine ⟨some ⟨g, 0, none⟩, cap, rfl, ⟨cells, hr.keep (Keeps.refl _ _) fun _ h => h.1, fun _ => ⟨g, 0, rfl, ⟨hb, (Array.getElem?_eq_some_iff.1 hg).1⟩, fun j u hu => ⟨?_, ?_⟩⟩⟩, hc, hm⟩
    · rw [Nat.zero_add, cell_of_row w g j cur e (0, 0) hg]
      rw [← htk, List.getElem?_take] at hu
      split at hu
      · simpa using hu
      · cases hu
    · simp [World.frozen?, hg]

section

variable {P : Program}

/-- append(v, ys...): whether there is room or not. -/
theorem run_append_own2 (t ty e : TypeId) (i : TypeInfo) (z : Value) (bytes : Nat) (ht : P.underlying t = some (.slice e)) (hi : P.info? e = some i) (hz : i.zero = some z)
    (hsize : i.size = C.size) (hby : i.bytes = bytes) (hzs : z.cells.size = C.size) {v : Value} {base : Nat} (hown : Own C e base w v xs)
    (ad : Addr) (c : Nat) (news : List Value) (hnews : ∀ (j : Nat) (u : Value), news[j]? = some u → w.cell? (ad.add j) = some u)
    (hr : RdL C w (fun b => (base ≤ b ∧ b < w.heap.size) ∧ v.ownBlock ≠ some b) ys news)
    (h63 : xs.length + ys.length ≤ maxLen) (hbytes : (xs.length + ys.length) * bytes ≤ 140737488355328) (hbase : base ≤ w.heap.size) :
    ∃ v' w', (Builtin.append_ #[t, t] ty #[v, .slice (some ad) ys.length c]).run P w = .ok v' w' ∧ Own C e base w' v' (xs ++ ys) ∧ w.grownBy w' v.ownBlock ∧ Far w v w' v' := by
  obtain ⟨cells, ho, hrc⟩ := hown
  obtain ⟨v', w', hrun, h2, h3, _, h5⟩ := run_append_own_at (P := P) w base t ty e i z C.size bytes ht hi hz hsize hby hzs C.pos v xs.length cells ho ad ys.length c news hr.length hnews hr.one h63 hbytes hbase
  have hfar : Far w v w' v' := ⟨h3.size, fun b hb hv => ⟨h3.block b hb (fun e => hv e.symm), fun e => by
    rcases h5 with e5 | e5
    · rw [e5] at e; exact hv e
    · rw [e5] at e; cases e; exact Nat.lt_irrefl _ hb⟩⟩
  refine ⟨v', w', hrun, ⟨cells ++ news, by rw [List.length_append]; exact h2, ?_⟩, h3, hfar⟩
  refine (hrc.append hr).keep (fun b hb => h3.block b hb.1.2 (fun e => hb.2 e.symm)) fun b hb => ⟨⟨hb.1.1, Nat.lt_of_lt_of_le hb.1.2 h3.size⟩, ?_⟩
  rcases h5 with e | e
  · rw [e]; exact hb.2
  · rw [e]; intro h; cases h; exact Nat.lt_irrefl _ hb.1.2

theorem run_append_nil2 (t ty e : TypeId) (i : TypeInfo) (ht : P.underlying t = some (.slice e)) (hi : P.info? e = some i)
    {v : Value} {base : Nat} (hown : Own C e base w v xs) (c : Nat) : (Builtin.append_ #[t, t] ty #[v, .slice none 0 c]).run P w = .ok v w := by
  obtain ⟨cells, ho, _⟩ := hown
  rcases ho.2 with ⟨rfl, _⟩ | ⟨g, cap, cur, rfl, _, _, hnc, _⟩
  · simp [Builtin.append_, run_underlying ht, sizeOf, typeInfo, hi, Builtin.lenOf, Builtin.firstCells]
  · simp [Builtin.append_, run_underlying ht, sizeOf, typeInfo, hi, Builtin.lenOf, Builtin.firstCells, hnc, storeCells]

/-- append(v, ys...), ys at A whatever it is. -/
theorem run_append_any2 (t ty e : TypeId) (i : TypeInfo) (z : Value) (bytes : Nat) (ht : P.underlying t = some (.slice e)) (hi : P.info? e = some i) (hz : i.zero = some z)
    (hsize : i.size = C.size) (hby : i.bytes = bytes) (hzs : z.cells.size = C.size) {v : Value} {base : Nat} (hown : Own C e base w v xs)
    (A : Option Addr) (c : Nat) (hA : ∃ news, RdL C w (fun b => (base ≤ b ∧ b < w.heap.size) ∧ v.ownBlock ≠ some b) ys news ∧ (∀ ad, A = some ad → ∀ (j : Nat) (u : Value), news[j]? = some u → w.cell? (ad.add j) = some u) ∧ (A = none → ys = []))
    (h63 : xs.length + ys.length ≤ maxLen) (hbytes : (xs.length + ys.length) * bytes ≤ 140737488355328) (hbase : base ≤ w.heap.size) :
    ∃ v' w', (Builtin.append_ #[t, t] ty #[v, .slice A ys.length c]).run P w = .ok v' w' ∧ Own C e base w' v' (xs ++ ys) ∧ w.grownBy w' v.ownBlock ∧ Far w v w' v' := by
  obtain ⟨news, h1, h2, h3⟩ := hA
  cases A with
  | none =>
    obtain rfl := h3 rfl
    exact ⟨v, w, run_append_nil2 t ty e i ht hi hown c, by simpa using hown, World.grownBy.refl w _, Far.refl _ _⟩
  | some ad => exact run_append_own2 t ty e i z bytes ht hi hz hsize hby hzs hown ad c news (h2 ad rfl) h1 h63 hbytes hbase

/-- .. in a walk. -/
theorem wp_append_any2 {o : Oper} {a : Act} {K : Act → World → Prop} {Q : Exit → Act → World → Prop} (s x : Operand) (t : TypeId)
    (ho : o.op = .call { callee := .builtin .append, args := #[s, x], argTypes := #[t, t] })
    (e : TypeId) (i : TypeInfo) (z : Value) (bytes : Nat) (ht : P.underlying t = some (.slice e)) (hi : P.info? e = some i) (hz : i.zero = some z)
    (hsize : i.size = C.size) (hby : i.bytes = bytes) (hzs : z.cells.size = C.size) (v : Value) (base : Nat) (hs : a.eval s = v) (hown : Own C e base w v xs)
    (A : Option Addr) (m c : Nat) (hx : a.eval x = .slice A m c) (hm : m = ys.length) (hA : ∃ news, RdL C w (fun b => (base ≤ b ∧ b < w.heap.size) ∧ v.ownBlock ≠ some b) ys news ∧ (∀ ad, A = some ad → ∀ (j : Nat) (u : Value), news[j]? = some u → w.cell? (ad.add j) = some u) ∧ (A = none → ys = []))
    (h63 : xs.length + ys.length ≤ maxLen) (hbytes : (xs.length + ys.length) * bytes ≤ 140737488355328) (hbase : base ≤ w.heap.size)
    (h : ∀ v' w', Own C e base w' v' (xs ++ ys) → w.grownBy w' v.ownBlock → Far w v w' v' → K (a.put o.dst v') w') : o.wp P a w K Q := by
  subst hm
  obtain ⟨v', w', hrun, h2, h3, h4⟩ := run_append_any2 (P := P) t o.type e i z bytes ht hi hz hsize hby hzs hown A c hA h63 hbytes hbase
  unfold Oper.wp execOp
  simp only [ho, resolve, invoke, builtin, Sem.run_bind, Sem.run_pure, Result.andThen_ok, List.map_toArray, List.map_cons, List.map_nil, hs, hx, hrun]
  exact h v' w' h2 h3 h4

theorem wpList_append_any2 {ops : Array Oper} {rest : List Oper} {o : Oper} {a : Act} {Q : Exit → Act → World → Prop} (hgd : o.guard = none) (s x : Operand) (t : TypeId)
    (ho : o.op = .call { callee := .builtin .append, args := #[s, x], argTypes := #[t, t] })
    (e : TypeId) (i : TypeInfo) (z : Value) (bytes : Nat) (ht : P.underlying t = some (.slice e)) (hi : P.info? e = some i) (hz : i.zero = some z)
    (hsize : i.size = C.size) (hby : i.bytes = bytes) (hzs : z.cells.size = C.size) (v : Value) (base : Nat) (hs : a.eval s = v) (hown : Own C e base w v xs)
    (A : Option Addr) (m c : Nat) (hx : a.eval x = .slice A m c) (hm : m = ys.length) (hA : ∃ news, RdL C w (fun b => (base ≤ b ∧ b < w.heap.size) ∧ v.ownBlock ≠ some b) ys news ∧ (∀ ad, A = some ad → ∀ (j : Nat) (u : Value), news[j]? = some u → w.cell? (ad.add j) = some u) ∧ (A = none → ys = []))
    (h63 : xs.length + ys.length ≤ maxLen) (hbytes : (xs.length + ys.length) * bytes ≤ 140737488355328) (hbase : base ≤ w.heap.size)
    (h : ∀ v' w', Own C e base w' v' (xs ++ ys) → w.grownBy w' v.ownBlock → Far w v w' v' → wpList P ops Q rest (a.put o.dst v') w') : wpList P ops Q (o :: rest) a w :=
  wpList_plain hgd fun _ hK => wp_append_any2 s x t ho e i z bytes ht hi hz hsize hby hzs v base hs hown A m c hx hm hA h63 hbytes hbase fun v' w' h2 h3 h4 => hK _ _ (h v' w' h2 h3 h4)

end

/-- .. in a region that draws. -/
theorem step_append_any2 {P : Program} {ops : Array Oper} {o : Oper} {a : Act} {K : Act → World → Prop} {Q : Exit → Act → World → Prop} {E : Prop} (hgd : o.guard = none) (s x : Operand) (t : TypeId)
    (ho : o.op = .call { callee := .builtin .append, args := #[s, x], argTypes := #[t, t] })
    (e : TypeId) (i : TypeInfo) (z : Value) (bytes : Nat) (ht : P.underlying t = some (.slice e)) (hi : P.info? e = some i) (hz : i.zero = some z)
    (hsize : i.size = C.size) (hby : i.bytes = bytes) (hzs : z.cells.size = C.size) (v : Value) (base : Nat) (hs : a.eval s = v) (hown : Own C e base w v xs)
    (A : Option Addr) (m c : Nat) (hx : a.eval x = .slice A m c) (hm : m = ys.length) (hA : ∃ news, RdL C w (fun b => (base ≤ b ∧ b < w.heap.size) ∧ v.ownBlock ≠ some b) ys news ∧ (∀ ad, A = some ad → ∀ (j : Nat) (u : Value), news[j]? = some u → w.cell? (ad.add j) = some u) ∧ (A = none → ys = []))
    (h63 : xs.length + ys.length ≤ maxLen) (hbytes : (xs.length + ys.length) * bytes ≤ 140737488355328) (hbase : base ≤ w.heap.size)
    (h : ∀ v' w', Own C e base w' v' (xs ++ ys) → w.grownBy w' v.ownBlock → Far w v w' v' → K (a.put o.dst v') w') :
    if Region.wanted o (yielded ops a.tmps) = true then Oper.wp P o a w K Q else E := by
  have hw : Region.wanted o (yielded ops a.tmps) = true := by simp [Region.wanted, hgd]
  rw [if_pos hw]
  exact wp_append_any2 s x t ho e i z bytes ht hi hz hsize hby hzs v base hs hown A m c hx hm hA h63 hbytes hbase h

/-- What a call that hands back a new list says. -/
def New (C : Codec α) (l : List α) (w : World) (e : Ending) (w' : World) : Prop := ∃ A c, e = .returned (.slice A l.length c) ∧ l.length ≤ c ∧ c ≤ maxLen ∧ R C w.heap.size w' A l ∧ Bl w w'

/-- What lies elsewhere as a source: a list whose elements' cells tell all by themselves. -/
theorem R.source (h : R C lo w A xs) (hflat : ∀ {w S x cs}, C.rd w S x cs → ∀ S', C.rd w S' x cs) : ∃ news, RdL C w S xs news ∧ (∀ ad, A = some ad → ∀ (j : Nat) (u : Value), news[j]? = some u → w.cell? (ad.add j) = some u) ∧ (A = none → xs = []) := by
  obtain ⟨news, h1, h2, h3⟩ := h.all
  refine ⟨news, ?_, h2, h3⟩
  clear h2 h3 h
  induction xs generalizing news with
  | nil => exact h1
  | cons x xs ih =>
    obtain ⟨a, b, rfl, ha, hb⟩ := h1
    exact ⟨a, b, rfl, hflat ha _, ih b hb⟩

theorem Own.lt {e : TypeId} {v : Value} {base b : Nat} (h : Own C e base w v xs) (hv : v.ownBlock = some b) : base ≤ b ∧ b < w.heap.size :=
  let ⟨_, h1, _⟩ := h
  h1.lt b hv

theorem grown_far {v : Value} {b o : Nat} (hg : w.grownBy w' v.ownBlock) (hne : v.ownBlock = some b → False) (hb : b < w.heap.size) : w'.cell? ⟨b, o, none⟩ = w.cell? ⟨b, o, none⟩ :=
  World.cell?_of_block (a := ⟨b, o, none⟩) (hg.block b hb (fun e => hne e.symm))

/-- A new block with one element's cells, as a source. -/
theorem Own.src {cs : List Value} {t e : TypeId} {v : Value} {base : Nat} {w1 : World} (ho : Own C e base w v xs) (hb : Bl w w1) (hbase : base ≤ w.heap.size) (h : C.rd w1 (Fresh w.heap.size w1) x cs) :
    ∃ news, RdL C (w1.alloc (.cells cs.toArray t)) (fun b => (base ≤ b ∧ b < (w1.alloc (.cells cs.toArray t)).heap.size) ∧ v.ownBlock ≠ some b) [x] news ∧ (∀ ad, some (⟨w1.heap.size, 0, none⟩ : Addr) = some ad → ∀ (j : Nat) (u : Value), news[j]? = some u → (w1.alloc (.cells cs.toArray t)).cell? (ad.add j) = some u) ∧ (some (⟨w1.heap.size, 0, none⟩ : Addr) = none → [x] = []) := by
  have _ := hb
  refine ⟨cs, RdL.one1 (C.keep (fun b hb => Below.heap_alloc w1 _ b hb.2) (fun b h => ⟨⟨Nat.le_trans hbase h.1, by have := h.2; rw [World.size_alloc]; omega⟩, fun e => ?_⟩) h), fun ad e j u hu => ?_, fun e => by cases e⟩
  · have := ho.lt e
    have := h.1
    omega
  cases e
  have hadd : (⟨w1.heap.size, 0, none⟩ : Addr).add j = ⟨w1.heap.size, j, none⟩ := by
    unfold Addr.add
    split
    · rename_i h0; subst h0; rfl
    · simp
  rw [hadd, cell_of_row _ w1.heap.size j cs.toArray t (0, 0) (heap_alloc_new w1 _)]
  simpa using hu

end

def cSpan : Codec Span where
  size := 2
  pos := by omega
  rd _ _ x cs := x.ok ∧ cs = [.int .u32 x.f, .int .u32 x.t]
  len h := by rw [h.2]; rfl
  keep _ _ h := h
  one h := by rw [h.2]; intro u hu; simp at hu; rcases hu with rfl | rfl <;> rfl

def cId : Codec Id where
  size := 2
  pos := by omega
  rd _ _ x cs := x.ok ∧ cs = [.int .u32 x.t, .int .u8 x.r]
  len h := by rw [h.2]; rfl
  keep _ _ h := h
  one h := by rw [h.2]; intro u hu; simp at hu; rcases hu with rfl | rfl <;> rfl

def cBool : Codec Bool where
  size := 1
  pos := by omega
  rd _ _ x cs := cs = [.bool x]
  len h := by rw [h]; rfl
  keep _ _ h := h
  one h := by rw [h]; intro u hu; simp at hu; subst hu; rfl

def cInt : Codec Int where
  size := 1
  pos := by omega
  rd _ _ x cs := i64ok x ∧ cs = [.int .i64 x]
  len h := by rw [h.2]; rfl
  keep _ _ h := h
  one h := by rw [h.2]; intro u hu; simp at hu; subst hu; rfl

def cTimes : Codec Times where
  size := 2
  pos := by omega
  rd w S x cs := u8ok x.r ∧ ∃ A c, x.s.length ≤ c ∧ c ≤ maxLen ∧ cs = [.int .u8 x.r, .slice A x.s.length c] ∧ RS cSpan w S A x.s
  len h := by obtain ⟨_, A, c, _, _, e, _⟩ := h; rw [e]; rfl
  keep k h1 h := by obtain ⟨h0, A, c, hc, hm, e, hr⟩ := h; exact ⟨h0, A, c, hc, hm, e, hr.keep k h1⟩
  one h := by obtain ⟨_, A, c, _, _, e, _⟩ := h; rw [e]; intro u hu; simp at hu; rcases hu with rfl | rfl <;> rfl

/-- The eight cells of an entry. -/
def entryCells (x : Entry) (A : Option Addr) (c : Nat) (B : Option Addr) (d : Nat) : List Value :=
  [.int .u32 x.id.t, .int .u8 x.id.r, .bool x.ready, .bool x.pin, .int .i64 x.used, .bool x.known, .slice A x.snap.length c, .slice B x.got.length d]

def Entry.ok (x : Entry) : Prop := x.id.ok ∧ i64ok x.used

def cEntry : Codec Entry where
  size := 8
  pos := by omega
  rd w S x cs := x.ok ∧ ∃ A c B d, x.snap.length ≤ c ∧ c ≤ maxLen ∧ x.got.length ≤ d ∧ d ≤ maxLen ∧ cs = entryCells x A c B d ∧ RS cTimes w S A x.snap ∧ RS cBool w S B x.got
  len h := by obtain ⟨_, A, c, B, d, _, _, _, _, e, _⟩ := h; rw [e]; rfl
  keep k h1 h := by obtain ⟨h0, A, c, B, d, a1, a2, a3, a4, e, hr, hs⟩ := h; exact ⟨h0, A, c, B, d, a1, a2, a3, a4, e, hr.keep k h1, hs.keep k h1⟩
  one h := by obtain ⟨_, A, c, B, d, _, _, _, _, e, _⟩ := h; rw [e]; intro u hu; simp [entryCells] at hu; rcases hu with rfl | rfl | rfl | rfl | rfl | rfl | rfl | rfl <;> rfl

section

variable {w : World} {lo : Nat} {b off k : Nat}

/-- The cells of a span, at its place in a slice. -/
theorem R.span {l : List Span} {x : Span} (h : R cSpan lo w (some ⟨b, off, none⟩) l) (hk : l[k]? = some x) :
    (lo ≤ b ∧ b < w.heap.size) ∧ x.ok ∧ w.cell? ⟨b, off + k * 2, none⟩ = some (.int .u32 x.f) ∧ w.cell? ⟨b, off + k * 2 + 1, none⟩ = some (.int .u32 x.t) := by
  obtain ⟨h1, m, ⟨ho, rfl⟩, ha⟩ := R.get h hk
  exact ⟨h1, ho, (ha 0 _ rfl).1, (ha 1 _ rfl).1⟩

theorem R.id {l : List Id} {x : Id} (h : R cId lo w (some ⟨b, off, none⟩) l) (hk : l[k]? = some x) :
    (lo ≤ b ∧ b < w.heap.size) ∧ x.ok ∧ w.cell? ⟨b, off + k * 2, none⟩ = some (.int .u32 x.t) ∧ w.cell? ⟨b, off + k * 2 + 1, none⟩ = some (.int .u8 x.r) := by
  obtain ⟨h1, m, ⟨ho, rfl⟩, ha⟩ := R.get h hk
  exact ⟨h1, ho, (ha 0 _ rfl).1, (ha 1 _ rfl).1⟩

theorem R.bool {l : List Bool} {x : Bool} (h : R cBool lo w (some ⟨b, off, none⟩) l) (hk : l[k]? = some x) :
    (lo ≤ b ∧ b < w.heap.size) ∧ w.cell? ⟨b, off + k, none⟩ = some (.bool x) ∧ w.frozen? ⟨b, off + k, none⟩ = false := by
  obtain ⟨h1, m, rfl, ha⟩ := R.get h hk
  have := ha 0 _ rfl
  simp [cBool] at this
  exact ⟨h1, this⟩

theorem R.times {l : List Times} {x : Times} (h : R cTimes lo w (some ⟨b, off, none⟩) l) (hk : l[k]? = some x) :
    (lo ≤ b ∧ b < w.heap.size) ∧ u8ok x.r ∧ ∃ A c, x.s.length ≤ c ∧ c ≤ maxLen ∧ w.cell? ⟨b, off + k * 2, none⟩ = some (.int .u8 x.r) ∧ w.cell? ⟨b, off + k * 2 + 1, none⟩ = some (.slice A x.s.length c) ∧ R cSpan lo w A x.s := by
  obtain ⟨h1, m, ⟨ho, A, c, hc, hm, rfl, hr⟩, ha⟩ := R.get h hk
  exact ⟨h1, ho, A, c, hc, hm, (ha 0 _ rfl).1, (ha 1 _ rfl).1, hr⟩

theorem R.entry {l : List Entry} {x : Entry} (h : R cEntry lo w (some ⟨b, off, none⟩) l) (hk : l[k]? = some x) :
    (lo ≤ b ∧ b < w.heap.size) ∧ x.ok ∧ ∃ A c B d, x.snap.length ≤ c ∧ c ≤ maxLen ∧ x.got.length ≤ d ∧ d ≤ maxLen ∧ R cTimes lo w A x.snap ∧ R cBool lo w B x.got ∧
      w.cell? ⟨b, off + k * 8, none⟩ = some (.int .u32 x.id.t) ∧ w.cell? ⟨b, off + k * 8 + 1, none⟩ = some (.int .u8 x.id.r) ∧ w.cell? ⟨b, off + k * 8 + 2, none⟩ = some (.bool x.ready) ∧
      w.cell? ⟨b, off + k * 8 + 3, none⟩ = some (.bool x.pin) ∧ w.cell? ⟨b, off + k * 8 + 4, none⟩ = some (.int .i64 x.used) ∧ w.cell? ⟨b, off + k * 8 + 5, none⟩ = some (.bool x.known) ∧
      w.cell? ⟨b, off + k * 8 + 6, none⟩ = some (.slice A x.snap.length c) ∧ w.cell? ⟨b, off + k * 8 + 7, none⟩ = some (.slice B x.got.length d) := by
  obtain ⟨h1, m, ⟨ho, A, c, B, d, a1, a2, a3, a4, rfl, hr, hs⟩, ha⟩ := R.get h hk
  exact ⟨h1, ho, A, c, B, d, a1, a2, a3, a4, hr, hs, (ha 0 _ rfl).1, (ha 1 _ rfl).1, (ha 2 _ rfl).1, (ha 3 _ rfl).1, (ha 4 _ rfl).1, (ha 5 _ rfl).1, (ha 6 _ rfl).1, (ha 7 _ rfl).1⟩

end

theorem hide {p : Prop} (h : p) : Hid p := h

theorem take_snoc {α : Type} {l : List α} {k : Nat} {x : α} (h : l[k]? = some x) : l.take (k + 1) = l.take k ++ [x] := by
  rw [List.take_add_one, h]; rfl

theorem get_lt {α : Type} {l : List α} {k : Nat} (h : k < l.length) : ∃ x, l[k]? = some x := ⟨l[k], List.getElem?_eq_getElem h⟩

theorem ret_int {k : IntKind} {a b : Int} (h : a = b) : Ending.returned (.int k a) = .returned (.int k b) := by rw [h]

/-- 0, or the error's number. -/
def okOr (e : Int) (b : Bool) : Int := if b then 0 else e

theorem okOr_true (e : Int) : okOr e true = 0 := rfl

theorem okOr_false (e : Int) : okOr e false = e := rfl

theorem ret_bool {a b : Bool} (h : a = b) : Ending.returned (.bool a) = .returned (.bool b) := by rw [h]

end Go.Proofs.YteoodmilcpmmpaaGreat
