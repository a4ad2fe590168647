/-
  The walks of shelf.own, shelf.Twin, and of the references'.
  The walks of shelf.Twin, and of the references Own and Twin of layer 19.
  The walk of fetch.own.
-/
import Derived.Test.YtkolimhkfiebeaaEntB
import Derived.Test.YtkolimhkfiebeaaSpanB
import Derived.Test.YtkolimhkfiebeaaBox
namespace Go.Proofs.Ytkolimhkfiebeaa
open Go.RowKit

theorem flatBool : ∀ {w : World} {S : Nat → Prop} {x : Bool} {cs : List Value}, cBool.rd w S x cs → ∀ S', cBool.rd w S' x cs := fun h _ => h

theorem Try.infoBool : (Try.prog.info? 4).map (fun i => (i.zero, i.size, i.bytes)) = some (some (.bool false), 1, 1) := by kernel_rfl

theorem R.set {α : Type} {C : Codec α} {lo : Nat} {w : World} {A : Option Addr} {xs : List α} (h : R C lo w A xs) {p : Addr} (hp : p.block < lo) (u : Value) : R C lo (w.setCell p u) A xs :=
  RS.keep h (fun b hb => Below.heap_setCell w p u b (by have := hb.1; omega)) fun b hb => ⟨hb.1, by simpa [World.setCell] using hb.2⟩

def smallE (x : Entry) : Prop := smallC x.snap ∧ x.got.length ≤ 1048576

/-- What a call that hands back an entry in memory of its own says. -/
def NewEntry (x : Entry) (w : World) (e : Ending) (w' : World) : Prop := ∃ A c B d, e = .returned (.agg #[.int .u32 x.id.t, .int .u8 x.id.r, .bool x.ready, .bool x.pin, .int .i64 x.used, .bool x.known, .slice A x.snap.length c, .slice B x.got.length d]) ∧ x.snap.length ≤ c ∧ c ≤ maxLen ∧ x.got.length ≤ d ∧ d ≤ maxLen ∧ R cTimes w.heap.size w' A x.snap ∧ R cBool w.heap.size w' B x.got ∧ Bl w w'

end Go.Proofs.Ytkolimhkfiebeaa

namespace Go.Proofs.Ytkolimhkfiebeaa
open Go.RowKit

theorem cell_set_other {w : World} {b o b' o' : Nat} {u v : Value} (h : (⟨b', o', none⟩ : Addr) ≠ ⟨b, o, none⟩) (hc : w.cell? ⟨b', o', none⟩ = some v) : (w.setCell ⟨b, o, none⟩ u).cell? ⟨b', o', none⟩ = some v :=
  (World.cell?_setCell_other w _ _ u (fun e => h e.symm)).trans hc
theorem cell_set_same {w : World} {b o : Nat} {u v : Value} (hc : w.cell? ⟨b, o, none⟩ = some v) : (w.setCell ⟨b, o, none⟩ u).cell? ⟨b, o, none⟩ = some u :=
  World.cell?_setCell_same' _ _ _ (by rw [hc]; rfl)

end Go.Proofs.Ytkolimhkfiebeaa


namespace Go.Proofs.Ytkolimhkfiebeaa
open Go.RowKit

/-- A new block with one element's cells, read as a list. -/
theorem R.single {α : Type} {C : Codec α} {lo : Nat} {w : World} {x : α} {cs : List Value} {t : TypeId} (h : C.rd w (Fresh lo w) x cs) (hlo : lo ≤ w.heap.size) :
    R C lo (w.alloc (.cells cs.toArray t)) (some ⟨w.heap.size, 0, none⟩) [x] := by
  refine ⟨cs, RdL.one1 (C.keep (fun b hb => Below.heap_alloc w _ b hb.2) (fun b hb => ⟨hb.1, by have := hb.2; rw [World.size_alloc]; omega⟩) h), fun _ => ⟨w.heap.size, 0, rfl, ⟨hlo, by rw [World.size_alloc]; omega⟩, fun j u hu => ⟨?_, ?_⟩⟩⟩
  · rw [Nat.zero_add, cell_of_row _ w.heap.size j cs.toArray t (0, 0) (heap_alloc_new w _)]
    simpa using hu
  · rw [Nat.zero_add]
    exact frozen_new w _ t j

theorem cell_mid (w : World) (o q : Obj) (cs : Array Value) (t : TypeId) (j : Nat) : (((w.alloc o).alloc (.cells cs t)).alloc q).cell? ⟨w.heap.size + 1, j, none⟩ = cs[j]? := by
  have h1 := ((Bl.refl ((w.alloc o).alloc (.cells cs t))).alloc q).cell (b := w.heap.size + 1) (o := j) (by rw [World.size_alloc, World.size_alloc]; omega)
  have h2 := cell_of_row _ (w.alloc o).heap.size j cs t (0, 0) (heap_alloc_new (w.alloc o) (.cells cs t))
  rw [World.size_alloc] at h2
  exact h1.trans h2
theorem frozen_mid (w : World) (o q : Obj) (cs : Array Value) (t : TypeId) (j : Nat) : (((w.alloc o).alloc (.cells cs t)).alloc q).frozen? ⟨w.heap.size + 1, j, none⟩ = false := by
  have h1 := ((Bl.refl ((w.alloc o).alloc (.cells cs t))).alloc q).frozen (b := w.heap.size + 1) (o := j) (by rw [World.size_alloc, World.size_alloc]; omega)
  have h2 := frozen_new (w.alloc o) cs t j
  rw [World.size_alloc] at h2
  exact h1.trans h2

theorem shelfMay_one (x : Entry) : shelfMay [x] = entryMay x := by
  unfold shelfMay shelfFrom shelfFrom after
  simp
theorem small_of_may {x : Entry} (h : entryMay x = true) : smallE x := by
  unfold entryMay at h
  rw [Bool.and_eq_true] at h
  have h := h.2
  unfold entryTail at h
  cases hk : x.known
  · rw [hk] at h
    simp at h
    obtain ⟨h1, h2⟩ := h
    refine ⟨⟨by rw [h1]; simp, by rw [h1]; simp⟩, by rw [h2]; simp⟩
  · rw [hk] at h
    simp only [if_true, Bool.and_eq_true, decide_eq_true_eq] at h
    obtain ⟨⟨⟨_, hm⟩, hn⟩, hg⟩ := h
    have hall := clockFrom_all _ (show clockFrom (-1) x.snap = true from hm)
    have hlen := clockMay_length hm
    refine ⟨⟨by omega, fun y hy => ?_⟩, by omega⟩
    have := hall y hy
    unfold spansMay at this
    simp only [Bool.and_eq_true, decide_eq_true_eq] at this
    omega

def zeroE : Entry := ⟨⟨0, 0⟩, false, false, 0, false, [], []⟩
/-- What a call that hands back an entry, and an error, says. -/
def Ent2 (y : Entry) (n : Int) (w : World) (e : Ending) (w' : World) : Prop := ∃ A c B d, e = .returned (.tuple #[.agg #[.int .u32 y.id.t, .int .u8 y.id.r, .bool y.ready, .bool y.pin, .int .i64 y.used, .bool y.known, .slice A y.snap.length c, .slice B y.got.length d], .int .i64 n]) ∧ y.snap.length ≤ c ∧ c ≤ maxLen ∧ y.got.length ≤ d ∧ d ≤ maxLen ∧ R cTimes w.heap.size w' A y.snap ∧ R cBool w.heap.size w' B y.got ∧ Bl w w'
/-- fetch.own. -/
def ownE (x : Entry) : Entry := if entryMay x then x else zeroE

end Go.Proofs.Ytkolimhkfiebeaa
