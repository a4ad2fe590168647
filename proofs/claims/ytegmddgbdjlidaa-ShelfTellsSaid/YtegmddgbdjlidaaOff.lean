/-
  An entry whose arrays keep clear of blocks that are written.
-/
import Derived.Test.YtegmddgbdjlidaaAgain22
import Derived.Test.YtegmddgbdjlidaaPlainAll
namespace Go.Proofs.Ytegmddgbdjlidaa
open Go.RowKit

/-- The blocks that were there, but two. -/
def Off (Y G : Nat) (w : World) : Nat → Prop := fun b => b < w.heap.size ∧ b ≠ Y ∧ b ≠ G
theorem Off.bl {Y G : Nat} {w w' : World} (hb : Bl w w') : ∀ b, Off Y G w b → Off Y G w' b := fun _ h => ⟨Nat.lt_of_lt_of_le h.1 hb.size, h.2⟩
theorem Off.keeps {Y G b o : Nat} {w : World} {u : Value} (h : b = Y ∨ b = G) : Keeps (Off Y G w) w (w.setCell ⟨b, o, none⟩ u) := fun k hk => Below.heap_setCell w ⟨b, o, none⟩ u k (by have := hk.2; intro e; simp only at e; omega)
theorem Off.same {Y G b o : Nat} {w : World} {u : Value} : ∀ k, Off Y G w k → Off Y G (w.setCell ⟨b, o, none⟩ u) k := fun _ h => ⟨by simpa [World.setCell] using h.1, h.2⟩
/-- An entry that a world holds, clear of two blocks. -/
structure HeldO (Y G : Nat) (V : World) (x : Entry) (A : Option Addr) (c : Nat) (B : Option Addr) (d : Nat) : Prop where
  l1 : x.snap.length ≤ c
  l2 : c ≤ maxLen
  l3 : x.got.length ≤ d
  l4 : d ≤ maxLen
  hS : RS cTimes V (Off Y G V) A x.snap
  hG : RS cBool V (Off Y G V) B x.got
theorem HeldO.bl {Y G : Nat} {V V' : World} {x : Entry} {A B : Option Addr} {c d : Nat} (h : HeldO Y G V x A c B d) (hb : Bl V V') : HeldO Y G V' x A c B d :=
  ⟨h.l1, h.l2, h.l3, h.l4, h.hS.keep (hb.keeps fun _ h => h.1) (Off.bl hb), h.hG.keep (hb.keeps fun _ h => h.1) (Off.bl hb)⟩
theorem HeldO.set {Y G b o : Nat} {V : World} {x : Entry} {A B : Option Addr} {c d : Nat} {u : Value} (h : HeldO Y G V x A c B d) (hb : b = Y ∨ b = G) : HeldO Y G (V.setCell ⟨b, o, none⟩ u) x A c B d :=
  ⟨h.l1, h.l2, h.l3, h.l4, h.hS.keep (Off.keeps hb) Off.same, h.hG.keep (Off.keeps hb) Off.same⟩
theorem HeldO.set8 {Y G : Nat} {V : World} {x y : Entry} {A B A' B' : Option Addr} {c d c' d' : Nat} (h : HeldO Y G V x A c B d) : HeldO Y G (set8 V Y y A' c' B' d') x A c B d :=
  (((((((h.set (.inl rfl)).set (.inl rfl)).set (.inl rfl)).set (.inl rfl)).set (.inl rfl)).set (.inl rfl)).set (.inl rfl)).set (.inl rfl)
theorem HeldO.held {Y G : Nat} {V : World} {x : Entry} {A B : Option Addr} {c d : Nat} (h : HeldO Y G V x A c B d) : Held V x A c B d :=
  ⟨h.l1, h.l2, h.l3, h.l4, h.hS.up fun _ h => ⟨Nat.zero_le _, h.1⟩, h.hG.up fun _ h => ⟨Nat.zero_le _, h.1⟩⟩
/-- What lay before them both. -/
theorem HeldO.old {Y G : Nat} {V V' : World} {x : Entry} {A B : Option Addr} {c d : Nat} (h : Held V x A c B d) (hb : Bl V V') (hY : V.heap.size ≤ Y) (hG : V.heap.size ≤ G) : HeldO Y G V' x A c B d :=
  ⟨h.l1, h.l2, h.l3, h.l4, h.hS.keep (hb.keeps fun _ h => h.2) fun b h => ⟨Nat.lt_of_lt_of_le h.2 hb.size, by have := h.2; omega, by have := h.2; omega⟩, h.hG.keep (hb.keeps fun _ h => h.2) fun b h => ⟨Nat.lt_of_lt_of_le h.2 hb.size, by have := h.2; omega, by have := h.2; omega⟩⟩
/-- What hands back an entry in memory of its own, and an error: clear of what was there. -/
theorem Ent2.off {y : Entry} {n : Int} {w w' : World} {e : Ending} (h : Ent2 y n w e w') {Y G : Nat} (hY : Y < w.heap.size) (hG : G < w.heap.size) :
    ∃ A c B d, e = .returned (.tuple #[.agg #[.int .u32 y.id.t, .int .u8 y.id.r, .bool y.ready, .bool y.pin, .int .i64 y.used, .bool y.known, .slice A y.snap.length c, .slice B y.got.length d], .int .i64 n]) ∧ HeldO Y G w' y A c B d ∧ Bl w w' := by
  obtain ⟨A, c, B, d, rfl, l1, l2, l3, l4, hS, hG', hb⟩ := h
  exact ⟨A, c, B, d, rfl, ⟨l1, l2, l3, l4, hS.up fun b h => ⟨h.2, by have := h.1; omega, by have := h.1; omega⟩, hG'.up fun b h => ⟨h.2, by have := h.1; omega, by have := h.1; omega⟩⟩, hb⟩
theorem missing_take {l : List Bool} {k : Nat} {b : Bool} (h : l[k]? = some b) : missing (l.take (k + 1)) = missing (l.take k) + (if b then 0 else 1) := by
  rw [take_snoc h]
  generalize l.take k = p
  induction p with
  | nil => cases b <;> rfl
  | cons a p ih => cases a <;> simp [missing, ih] <;> omega
theorem missing_le (l : List Bool) : missing l ≤ l.length := by
  induction l with
  | nil => exact Nat.le_refl _
  | cons a p ih => cases a <;> simp [missing] <;> omega
theorem EntAt.setO {w : World} {Y E o : Nat} {y : Entry} {A B : Option Addr} {c d : Nat} (h : EntAt w Y y A c B d) (hne : E ≠ Y) {v : Value} : EntAt (w.setCell ⟨E, o, none⟩ v) Y y A c B d := h.other hne v
theorem EntAt.set8 {w : World} {Y E : Nat} {x y : Entry} {A B A' B' : Option Addr} {c d c' d' : Nat} (h : EntAt w E x A c B d) (hne : Y ≠ E) : EntAt (set8 w Y y A' c' B' d') E x A c B d :=
  (((((((h.other hne _).other hne _).other hne _).other hne _).other hne _).other hne _).other hne _).other hne _
end Go.Proofs.Ytegmddgbdjlidaa
