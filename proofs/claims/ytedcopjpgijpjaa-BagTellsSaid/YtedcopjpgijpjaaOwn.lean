/-
  The walks of shelf.own, shelf.Twin, and of the references'.
-/
import Derived.Test.YtedcopjpgijpjaaShelfCheck
import Derived.Test.YtedcopjpgijpjaaRefClock2
namespace Go.Proofs.Ytedcopjpgijpjaa
open Go.RowKit

theorem flatBool : ∀ {w : World} {S : Nat → Prop} {x : Bool} {cs : List Value}, cBool.rd w S x cs → ∀ S', cBool.rd w S' x cs := fun h _ => h
theorem Try.infoBool : (Try.prog.info? 4).map (fun i => (i.zero, i.size, i.bytes)) = some (some (.bool false), 1, 1) := by kernel_rfl

theorem R.set {α : Type} {C : Codec α} {lo : Nat} {w : World} {A : Option Addr} {xs : List α} (h : R C lo w A xs) {p : Addr} (hp : p.block < lo) (u : Value) : R C lo (w.setCell p u) A xs :=
  RS.keep h (fun b hb => Below.heap_setCell w p u b (by have := hb.1; omega)) fun b hb => ⟨hb.1, by simpa [World.setCell] using hb.2⟩

theorem frozen_new (w : World) (cs : Array Value) (t : TypeId) (o : Nat) : (w.alloc (.cells cs t)).frozen? ⟨w.heap.size, o, none⟩ = false := by
  have := heap_alloc_new w (.cells cs t)
  simp only [World.frozen?, this]
  simp

def smallE (x : Entry) : Prop := smallC x.snap ∧ x.got.length ≤ 1048576
/-- What a call that hands back an entry in memory of its own says. -/
def NewEntry (x : Entry) (w : World) (e : Ending) (w' : World) : Prop := ∃ A c B d, e = .returned (.agg #[.int .u32 x.id.t, .int .u8 x.id.r, .bool x.ready, .bool x.pin, .int .i64 x.used, .bool x.known, .slice A x.snap.length c, .slice B x.got.length d]) ∧ x.snap.length ≤ c ∧ c ≤ maxLen ∧ x.got.length ≤ d ∧ d ≤ maxLen ∧ R cTimes w.heap.size w' A x.snap ∧ R cBool w.heap.size w' B x.got ∧ Bl w w'

end Go.Proofs.Ytedcopjpgijpjaa
