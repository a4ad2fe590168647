/-
  The walk of fetch.own.
-/
import Derived.Test.YtedcopjpgijpjaaSnap
import Derived.Test.YtedcopjpgijpjaaTwin
namespace Go.Proofs.Ytedcopjpgijpjaa
open Go.RowKit

/-- A new block with one element's cells, read as a list. -/
theorem R.single {α : Type} {C : Codec α} {lo : Nat} {w : World} {x : α} {cs : List Value} {t : TypeId} (h : C.rd w (Fresh lo w) x cs) (hlo : lo ≤ w.heap.size) :
    R C lo (w.alloc (.cells cs.toArray t)) (some ⟨w.heap.size, 0, none⟩) [x] := by
  refine ⟨cs, RdL.one1 (C.keep (fun b hb => Below.heap_alloc w _ b hb.2) (fun b hb => ⟨hb.1, by have := hb.2; rw [World.size_alloc]; omega⟩) h), fun _ => ⟨w.heap.size, 0, rfl, ⟨hlo, by rw [World.size_alloc]; omega⟩, fun j u hu => ⟨?_, ?_⟩⟩⟩
  · rw [Nat.zero_add, cell_of_row _ w.heap.size j cs.toArray t (0, 0) (heap_alloc_new w _)]
    simpa using hu
  · rw [Nat.zero_add]
    exact frozen_new w _ t j

theorem cell_mid (w : World) (o q : Obj) (cs : Array Value) (t : TypeId) (j : Nat) : (((w.alloc o).alloc (.cells cs t)).alloc q).cell? ⟨w.heap.size + 1, j, none⟩ = cs[j]? := by
  have h1 := ((Bl.refl ((w.alloc o).alloc (.cells cs t))).alloc q).cell (b := w.heap.size + 1) (o := j) (by rw [World.size_alloc, World.size_alloc]; omega)
  have h2 := cell_of_row _ (w.alloc o).heap.size j cs t (0, 0) (heap_alloc_new (w.alloc o) (.cells cs t))
  rw [World.size_alloc] at h2
  exact h1.trans h2
theorem frozen_mid (w : World) (o q : Obj) (cs : Array Value) (t : TypeId) (j : Nat) : (((w.alloc o).alloc (.cells cs t)).alloc q).frozen? ⟨w.heap.size + 1, j, none⟩ = false := by
  have h1 := ((Bl.refl ((w.alloc o).alloc (.cells cs t))).alloc q).frozen (b := w.heap.size + 1) (o := j) (by rw [World.size_alloc, World.size_alloc]; omega)
  have h2 := frozen_new (w.alloc o) cs t j
  rw [World.size_alloc] at h2
  exact h1.trans h2

theorem shelfMay_one (x : Entry) : shelfMay [x] = entryMay x := by
  unfold shelfMay shelfFrom shelfFrom after
  simp
theorem small_of_may {x : Entry} (h : entryMay x = true) : smallE x := by
  unfold entryMay at h
  rw [Bool.and_eq_true] at h
  have h := h.2
  unfold entryTail at h
  cases hk : x.known
  · rw [hk] at h
    simp at h
    obtain ⟨h1, h2⟩ := h
    refine ⟨⟨by rw [h1]; simp, by rw [h1]; simp⟩, by rw [h2]; simp⟩
  · rw [hk] at h
    simp only [if_true, Bool.and_eq_true, decide_eq_true_eq] at h
    obtain ⟨⟨⟨_, hm⟩, hn⟩, hg⟩ := h
    have hall := clockFrom_all _ (show clockFrom (-1) x.snap = true from hm)
    have hlen := clockMay_length hm
    refine ⟨⟨by omega, fun y hy => ?_⟩, by omega⟩
    have := hall y hy
    unfold spansMay at this
    simp only [Bool.and_eq_true, decide_eq_true_eq] at this
    omega

def zeroE : Entry := ⟨⟨0, 0⟩, false, false, 0, false, [], []⟩
/-- What a call that hands back an entry, and an error, says. -/
def Ent2 (y : Entry) (n : Int) (w : World) (e : Ending) (w' : World) : Prop := ∃ A c B d, e = .returned (.tuple #[.agg #[.int .u32 y.id.t, .int .u8 y.id.r, .bool y.ready, .bool y.pin, .int .i64 y.used, .bool y.known, .slice A y.snap.length c, .slice B y.got.length d], .int .i64 n]) ∧ y.snap.length ≤ c ∧ c ≤ maxLen ∧ y.got.length ≤ d ∧ d ≤ maxLen ∧ R cTimes w.heap.size w' A y.snap ∧ R cBool w.heap.size w' B y.got ∧ Bl w w'
/-- fetch.own. -/
def ownE (x : Entry) : Entry := if entryMay x then x else zeroE

end Go.Proofs.Ytedcopjpgijpjaa
