/-
  The walk of law 7's inner function spoil: numbers are written over, and nothing else.
-/
import Derived.Test.YtiimpmdnkjhcoaaSpan
import Derived.Test.YtiimpmdnkjhcoaaBox
import Derived.StillTailTactics
namespace Go.Proofs.Ytiimpmdnkjhcoaa
open Go.RowKit

/-- Each cell holds what it held, or another number of that kind in a number's place. -/
def KnI (u v : Value) : Prop := v = u ∨ ∃ k a b, u = .int k a ∧ v = .int k b

theorem KnI.trans {u v x : Value} (h : KnI u v) (k : KnI v x) : KnI u x := by
  rcases h with rfl | ⟨i, a, b, rfl, rfl⟩
  · exact k
  · rcases k with rfl | ⟨_, c, d, e, rfl⟩
    · exact .inr ⟨i, a, b, rfl, rfl⟩
    · injection e with e1 e2
      subst e1
      exact .inr ⟨_, a, d, rfl, rfl⟩

def SmI (w w' : World) : Prop := ∀ b o u, w.cell? ⟨b, o, none⟩ = some u → (∃ u', w'.cell? ⟨b, o, none⟩ = some u' ∧ KnI u u') ∧ w'.frozen? ⟨b, o, none⟩ = w.frozen? ⟨b, o, none⟩

theorem SmI.refl (w : World) : SmI w w := fun _ _ u h => ⟨⟨u, h, .inl rfl⟩, rfl⟩

theorem SmI.bl {w w' w'' : World} (h : SmI w w') (hb : Bl w' w'') : SmI w w'' := fun b o u hu => by
  obtain ⟨⟨u', h1, h2⟩, h3⟩ := h b o u hu
  have hlt := World.block_lt_of_cell? _ _ h1
  exact ⟨⟨u', (hb.cell hlt).trans h1, h2⟩, (hb.frozen hlt).trans h3⟩

theorem SmI.set {w w' : World} (h : SmI w w') {b o : Nat} {k : IntKind} {a c : Int} (hc : w'.cell? ⟨b, o, none⟩ = some (.int k a)) : SmI w (w'.setCell ⟨b, o, none⟩ (.int k c)) := fun b' o' x hx => by
  obtain ⟨⟨u', h1, h2⟩, h3⟩ := h b' o' x hx
  refine ⟨?_, by rw [World.frozen?_setCell]; exact h3⟩
  by_cases e : (⟨b', o', none⟩ : Addr) = ⟨b, o, none⟩
  · injection e with e1 e2 _
    subst e1 e2
    rw [hc] at h1
    obtain rfl := Option.some.inj h1
    exact ⟨_, box_set_same hc, h2.trans (.inr ⟨k, a, c, rfl, rfl⟩)⟩
  · exact ⟨u', box_set_other e h1, h2⟩

theorem SmI.slice {w w' : World} (h : SmI w w') {b o : Nat} {A : Option Addr} {n c : Nat} (hc : w.cell? ⟨b, o, none⟩ = some (.slice A n c)) : w'.cell? ⟨b, o, none⟩ = some (.slice A n c) := by
  obtain ⟨⟨u, h1, h2⟩, _⟩ := h b o _ hc
  rcases h2 with rfl | ⟨_, a, b, e, _⟩
  · exact h1
  · cases e

theorem SmI.int {w w' : World} (h : SmI w w') {b o : Nat} {k : IntKind} {a : Int} (hc : w.cell? ⟨b, o, none⟩ = some (.int k a)) (hf : w.frozen? ⟨b, o, none⟩ = false) : (∃ a', w'.cell? ⟨b, o, none⟩ = some (.int k a')) ∧ w'.frozen? ⟨b, o, none⟩ = false := by
  obtain ⟨⟨u, h1, h2⟩, h3⟩ := h b o _ hc
  refine ⟨?_, h3.trans hf⟩
  rcases h2 with rfl | ⟨_, c, d, e, rfl⟩
  · exact ⟨a, h1⟩
  · injection e with e1 e2
    subst e1
    exact ⟨d, h1⟩

theorem R.spanF {lo : Nat} {w : World} {b off k : Nat} {l : List Span} {x : Span} (h : R cSpan lo w (some ⟨b, off, none⟩) l) (hk : l[k]? = some x) : lo ≤ b ∧ w.cell? ⟨b, off + k * 2 + 1, none⟩ = some (.int .u32 x.t) ∧ w.frozen? ⟨b, off + k * 2 + 1, none⟩ = false := by
  obtain ⟨h1, m, ⟨ho, rfl⟩, ha⟩ := R.get h hk
  exact ⟨h1.1, ha 1 _ rfl⟩

set_option maxRecDepth 100000 in
set_option maxHeartbeats 1000000 in
theorem lawSpoil07 (base : Nat) (A : Option Addr) (c : Nat) (l : List Span) (w0 w : World) (hs0 : SmI w0 w) (hl : l.length ≤ 1099511627776) (hA : R cSpan base w0 A l) :
    Calls Try.prog 42 #[.slice A l.length c] w fun e w' => (∃ v, e = .returned v) ∧ Below base w w' ∧ SmI w0 w' := by
  go_enter Try.func42, Try.ntmps42
  go_wp2
  go_loopw [2] (fun i wr => SmI w0 wr ∧ Below base w wr ∧ ∃ k : Nat, k ≤ l.length ∧ i = .int .i64 k) (fun i _ => l.length - (intOf i).toNat)
  case atStart => exact ⟨hs0, Below.refl _ _, 0, Nat.zero_le _, rfl⟩
  case round =>
    obtain ⟨hs, hbe, k, hk, rfl⟩ := hrel
    by_cases hlt : k < l.length
    · obtain ⟨b, off, rfl, _, hb⟩ := hA.addr (by omega)
      obtain ⟨x, hx⟩ := get_lt hlt
      obtain ⟨hbb, p0, pf0⟩ := hA.spanF hx
      have hki : (k : Int) < (l.length : Int) := by omega
      obtain ⟨⟨a1, q1⟩, qf⟩ := hs.int p0 pf0
      have hfin := hide (And.intro (hs.set (c := 7777777) q1) (Below.setCell hbe (p := ⟨b, off + k * 2 + 1, none⟩) hbb (.int .u32 7777777)))
      clear hx p0 pf0
      go_wp2
      go_roundw
      case rel => exact ⟨hfin.out.1, hfin.out.2, k + 1, by omega, by go_num⟩
      case measure => simp [intOf]; omega
    · have hkl : l.length ≤ k := by omega
      go_wp2
      go_end0
      exact ⟨⟨_, rfl⟩, hbe, hs⟩
end Go.Proofs.Ytiimpmdnkjhcoaa
