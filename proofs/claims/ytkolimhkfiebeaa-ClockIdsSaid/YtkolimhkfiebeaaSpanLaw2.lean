/-
  The walks of SpanJoins, SpanAdds; what they say of sets of times.
-/
import Derived.Test.YtkolimhkfiebeaaSpanLaw
namespace Go.Proofs.Ytkolimhkfiebeaa
open Go.RowKit

/-- All that SpanJoins asks. -/
structure JoinsOk (a b X L : List Span) : Prop where
  x : Good orB a b X
  y : Good orB b a X
  z : Good orB X b X
  l : Good lessB a b L
  m : Good orB L b X
  n : Good lessB L b L
  c : spansCount X = spansCount L + spansCount b

theorem joins_ok {a b : List Span} (ha : spansMay a = true) (hb : spansMay b = true) (hla : a.length ≤ 300) (hlb : b.length ≤ 300) : JoinsOk a b (setF orB a b) (setF lessB a b) := by
  have x := set_good (want := orB) rfl ha hb (by omega) or_sub
  have l := set_good (want := lessB) rfl ha hb (by omega) less_sub
  generalize setF orB a b = X at *
  generalize setF lessB a b = L at *
  have y := (set_good (want := orB) rfl hb ha (by omega) or_sub).is x.can (by have := x.len; omega) fun u => by rw [x.has]; unfold orB; exact Bool.or_comm _ _
  have z := (set_good (want := orB) rfl x.may hb (by have := x.len; omega) or_sub).is x.can (by omega) fun u => by rw [x.has]; unfold orB; cases spansHave a u <;> cases spansHave b u <;> rfl
  have n := (set_good (want := lessB) rfl l.may hb (by have := l.len; omega) less_sub).is l.can (by omega) fun u => by rw [l.has]; unfold lessB; cases spansHave a u <;> cases spansHave b u <;> rfl
  have m0 := set_good (want := orB) rfl l.may hb (by have := l.len; omega) or_sub
  have m : Good orB L b X := by
    have e : setF orB L b = X := m0.can.ext x.can fun u => by rw [m0.has, x.has, l.has]; unfold orB lessB; cases spansHave a u <;> cases spansHave b u <;> rfl
    exact e ▸ m0
  refine ⟨x, y, z, l, m, n, ?_⟩
  rw [count_meas x.may, count_meas l.may, count_meas hb, ← meas_or (fun u hu => ?_)]
  · exact meas_congr (fun u => by rw [m.has]; rfl) _
  · rw [l.has] at hu
    unfold lessB at hu
    revert hu
    cases spansHave a u <;> cases spansHave b u <;> decide

end Go.Proofs.Ytkolimhkfiebeaa
