/-
  The walks of span.Join, span.Less, span.Add.
-/
import Derived.Test.YtkolimhkfiebeaaSetPlain
import Derived.Test.YtkolimhkfiebeaaBox
namespace Go.Proofs.Ytkolimhkfiebeaa
open Go.RowKit

theorem joinWant (p q : Bool) (w : World) : Calls Try.prog 125 #[.agg #[.bool p, .bool q]] w fun e w' => e = .returned (.bool (orB p q)) ∧ Bl w w' := by
  cases p
  · go_enter Try.func125, Try.ntmps125
    go_wp2
    go_ret
    exact ⟨ret_bool rfl, (Bl.refl _).alloc _⟩
  · go_enter Try.func125, Try.ntmps125
    go_wp2
    go_ret
    exact ⟨rfl, (Bl.refl _).alloc _⟩

theorem lessWant (p q : Bool) (w : World) : Calls Try.prog 126 #[.agg #[.bool p, .bool q]] w fun e w' => e = .returned (.bool (lessB p q)) ∧ Bl w w' := by
  cases p
  · go_enter Try.func126, Try.ntmps126
    go_wp2
    go_ret
    exact ⟨rfl, (Bl.refl _).alloc _⟩
  · go_enter Try.func126, Try.ntmps126
    go_wp2
    go_ret
    exact ⟨ret_bool rfl, (Bl.refl _).alloc _⟩

theorem spanJoin (A B : Option Addr) (c d : Nat) (a b : List Span) (w : World) (hl : a.length ≤ maxLen) (hm : b.length ≤ maxLen) (hA : R cSpan 0 w A a) (hB : R cSpan 0 w B b) :
    Calls Try.prog 71 #[.slice A a.length c, .slice B b.length d] w (New2 cSpan (setL orB a b) (setN orB a b) w) := by
  have hs := spanSet 125 orB (enters_of Try.func125 (by kernel_rfl) rfl) joinWant A B c d a b w hl hm hA hB
  generalize setL orB a b = L at *
  generalize setN orB a b = N at *
  replace hs := hide hs
  go_enter Try.func71, Try.ntmps71
  go_wp2_with fail
  refine hs.out.mono ?_
  rintro e w1 ⟨A1, c1, rfl, h1, h2, h3, h4⟩
  go_wp2
  go_ret2
  exact ⟨A1, c1, rfl, h1, h2, h3, h4⟩

theorem spanLess (A B : Option Addr) (c d : Nat) (a b : List Span) (w : World) (hl : a.length ≤ maxLen) (hm : b.length ≤ maxLen) (hA : R cSpan 0 w A a) (hB : R cSpan 0 w B b) :
    Calls Try.prog 72 #[.slice A a.length c, .slice B b.length d] w (New2 cSpan (setL lessB a b) (setN lessB a b) w) := by
  have hs := spanSet 126 lessB (enters_of Try.func126 (by kernel_rfl) rfl) lessWant A B c d a b w hl hm hA hB
  generalize setL lessB a b = L at *
  generalize setN lessB a b = N at *
  replace hs := hide hs
  go_enter Try.func72, Try.ntmps72
  go_wp2_with fail
  refine hs.out.mono ?_
  rintro e w1 ⟨A1, c1, rfl, h1, h2, h3, h4⟩
  go_wp2
  go_ret2
  exact ⟨A1, c1, rfl, h1, h2, h3, h4⟩

/-- A new block with one span, read as a list. -/
theorem R.oneSpan {w : World} {x : Span} {t : TypeId} {lo : Nat} (hx : x.ok) (hlo : lo ≤ w.heap.size) : R cSpan lo (w.alloc (.cells #[.int .u32 x.f, .int .u32 x.t] t)) (some ⟨w.heap.size, 0, none⟩) [x] := by
  refine ⟨[.int .u32 x.f, .int .u32 x.t], RdL.one1 ⟨hx, rfl⟩, fun _ => ⟨w.heap.size, 0, rfl, ⟨hlo, by rw [World.size_alloc]; omega⟩, fun j u hu => ⟨?_, ?_⟩⟩⟩
  · rw [Nat.zero_add, cell_of_row _ w.heap.size j _ t (0, 0) (heap_alloc_new w _)]
    simpa using hu
  · rw [Nat.zero_add]
    exact frozen_new w _ t j

end Go.Proofs.Ytkolimhkfiebeaa
