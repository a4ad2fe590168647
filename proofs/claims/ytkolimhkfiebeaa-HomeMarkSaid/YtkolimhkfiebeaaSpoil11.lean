/-
  The walk of law 11's inner function spoil.
-/
import Derived.Test.YtkolimhkfiebeaaOp3B
import Derived.StillTailTactics
namespace Go.Proofs.Ytkolimhkfiebeaa
open Go.RowKit

/-- Each cell holds what it held, or another number in a number's place. -/
def Kn (u v : Value) : Prop := v = u ∨ ∃ a b, u = .int .i64 a ∧ v = .int .i64 b
theorem Kn.trans {u v x : Value} (h : Kn u v) (k : Kn v x) : Kn u x := by
  rcases h with rfl | ⟨a, b, rfl, rfl⟩
  · exact k
  · rcases k with rfl | ⟨c, d, _, rfl⟩
    · exact .inr ⟨a, b, rfl, rfl⟩
    · exact .inr ⟨a, d, rfl, rfl⟩
def Sm (w w' : World) : Prop := ∀ b o u, w.cell? ⟨b, o, none⟩ = some u → (∃ u', w'.cell? ⟨b, o, none⟩ = some u' ∧ Kn u u') ∧ w'.frozen? ⟨b, o, none⟩ = w.frozen? ⟨b, o, none⟩
theorem Sm.refl (w : World) : Sm w w := fun _ _ u h => ⟨⟨u, h, .inl rfl⟩, rfl⟩
theorem Sm.bl {w w' w'' : World} (h : Sm w w') (hb : Bl w' w'') : Sm w w'' := fun b o u hu => by
  obtain ⟨⟨u', h1, h2⟩, h3⟩ := h b o u hu
  have hlt := World.block_lt_of_cell? _ _ h1
  exact ⟨⟨u', (hb.cell hlt).trans h1, h2⟩, (hb.frozen hlt).trans h3⟩
theorem Sm.set {w w' : World} (h : Sm w w') {b o : Nat} {a c : Int} (hc : w'.cell? ⟨b, o, none⟩ = some (.int .i64 a)) : Sm w (w'.setCell ⟨b, o, none⟩ (.int .i64 c)) := fun b' o' x hx => by
  obtain ⟨⟨u', h1, h2⟩, h3⟩ := h b' o' x hx
  refine ⟨?_, by rw [World.frozen?_setCell]; exact h3⟩
  by_cases e : (⟨b', o', none⟩ : Addr) = ⟨b, o, none⟩
  · injection e with e1 e2 _
    subst e1 e2
    rw [hc] at h1
    obtain rfl := Option.some.inj h1
    exact ⟨_, box_set_same hc, h2.trans (.inr ⟨a, c, rfl, rfl⟩)⟩
  · exact ⟨u', box_set_other e h1, h2⟩
theorem Sm.slice {w w' : World} (h : Sm w w') {b o : Nat} {A : Option Addr} {n c : Nat} (hc : w.cell? ⟨b, o, none⟩ = some (.slice A n c)) : w'.cell? ⟨b, o, none⟩ = some (.slice A n c) := by
  obtain ⟨⟨u, h1, h2⟩, _⟩ := h b o _ hc
  rcases h2 with rfl | ⟨a, b, e, _⟩
  · exact h1
  · cases e
theorem Sm.int {w w' : World} (h : Sm w w') {b o : Nat} {a : Int} (hc : w.cell? ⟨b, o, none⟩ = some (.int .i64 a)) (hf : w.frozen? ⟨b, o, none⟩ = false) : (∃ a', w'.cell? ⟨b, o, none⟩ = some (.int .i64 a')) ∧ w'.frozen? ⟨b, o, none⟩ = false := by
  obtain ⟨⟨u, h1, h2⟩, h3⟩ := h b o _ hc
  refine ⟨?_, h3.trans hf⟩
  rcases h2 with rfl | ⟨_, c, _, rfl⟩
  · exact ⟨a, h1⟩
  · exact ⟨c, h1⟩
theorem R.opF {lo : Nat} {w : World} {b off k : Nat} {l : List Op} {x : Op} (h : R cOp lo w (some ⟨b, off, none⟩) l) (hk : l[k]? = some x) :
    lo ≤ b ∧ (w.cell? ⟨b, off + k * 5 + 4, none⟩ = some (.int .i64 x.pt) ∧ w.frozen? ⟨b, off + k * 5 + 4, none⟩ = false) ∧ ∃ A c, R cRun lo w A x.pl ∧ x.pl.length ≤ c ∧ c ≤ maxLen ∧ w.cell? ⟨b, off + k * 5 + 3, none⟩ = some (.slice A x.pl.length c) := by
  obtain ⟨h1, m, ⟨ho, A, c, a1, a2, rfl, hr⟩, ha⟩ := R.get h hk
  exact ⟨h1.1, ha 4 _ rfl, A, c, hr, a1, a2, (ha 3 _ rfl).1⟩
theorem R.runF {lo : Nat} {w : World} {b off k : Nat} {l : List Run} {x : Run} (h : R cRun lo w (some ⟨b, off, none⟩) l) (hk : l[k]? = some x) : lo ≤ b ∧ w.cell? ⟨b, off + k * 3 + 2, none⟩ = some (.int .i64 x.m) ∧ w.frozen? ⟨b, off + k * 3 + 2, none⟩ = false := by
  obtain ⟨h1, m, ⟨ho, rfl⟩, ha⟩ := R.get h hk
  exact ⟨h1.1, ha 2 _ rfl⟩

set_option maxRecDepth 100000 in
set_option maxHeartbeats 2000000 in
theorem lawSpoil11 (base : Nat) (A : Option Addr) (c : Nat) (l : List Op) (w0 w : World) (hs0 : Sm w0 w) (hl : l.length ≤ 1099511627776) (hA : R cOp base w0 A l) :
    Calls Try.prog 51 #[.slice A l.length c] w fun e w' => (∃ v, e = .returned v) ∧ Below base w w' ∧ Sm w0 w' := by
  go_enter Try.func51, Try.ntmps51
  go_wp2
  go_loopw [2] (fun i wr => Sm w0 wr ∧ Below base w wr ∧ ∃ k : Nat, k ≤ l.length ∧ i = .int .i64 k) (fun i _ => l.length - (intOf i).toNat)
  case atStart => exact ⟨hs0, Below.refl _ _, 0, Nat.zero_le _, rfl⟩
  case round =>
    obtain ⟨hs, hbe, k, hk, rfl⟩ := hrel
    by_cases hlt : k < l.length
    · obtain ⟨b, off, rfl, _, hb⟩ := hA.addr (by omega)
      obtain ⟨x, hx⟩ := get_lt hlt
      obtain ⟨hbb, ⟨p0, pf0⟩, B, d, hB, hcd, hdm, s0⟩ := hA.opF hx
      have hki : (k : Int) < (l.length : Int) := by omega
      have hd63 : x.pl.length ≤ 9223372036854775807 := by unfold maxLen at hdm; omega
      have hx' := hide hx
      clear hx
      go_wp2
      go_loopw [3] (fun i wq => Sm w0 wq ∧ Below base w wq ∧ ∃ j : Nat, j ≤ x.pl.length ∧ i = .int .i64 j) (fun i _ => x.pl.length - (intOf i).toNat)
      case atStart => exact ⟨hs, hbe, 0, Nat.zero_le _, rfl⟩
      case round =>
        clear hs hbe
        obtain ⟨hs, hbe, j, hj, rfl⟩ := hrel
        have s1 := hs.slice s0
        have hbl := World.block_lt_of_cell? _ _ s1
        by_cases hjt : j < x.pl.length
        · obtain ⟨b2, off2, rfl, hb20, hb2⟩ := hB.addr (by omega)
          obtain ⟨r, hr⟩ := get_lt hjt
          obtain ⟨hbb2, r0, rf0⟩ := hB.runF hr
          obtain ⟨⟨a1, q1⟩, qf⟩ := hs.int r0 rf0
          have hql := World.block_lt_of_cell? _ _ q1
          have hji : (j : Int) < (x.pl.length : Int) := by omega
          have hfin := hide (And.intro (hs.set (c := -7) q1) (Below.setCell hbe (p := ⟨b2, off2 + j * 3 + 2, none⟩) hbb2 (.int .i64 (-7))))
          clear hr r0 rf0
          go_wp2
          go_roundw
          case rel => exact ⟨hfin.out.1, hfin.out.2, j + 1, by omega, by go_num⟩
          case measure => simp [intOf]; omega
        · have hji : ¬ (j : Int) < (x.pl.length : Int) := by omega
          obtain ⟨⟨a1, q1⟩, qf⟩ := hs.int p0 pf0
          have hfin := hide (And.intro (hs.set (c := -7) q1) (Below.setCell hbe (p := ⟨b, off + k * 5 + 4, none⟩) hbb (.int .i64 (-7))))
          go_wp2
          go_roundw
          case rel => exact ⟨hfin.out.1, hfin.out.2, k + 1, by omega, by go_num⟩
          case measure => simp [intOf]; omega
    · have hkl : l.length ≤ k := by omega
      go_wp2
      go_end0
      exact ⟨⟨_, rfl⟩, hbe, hs⟩
end Go.Proofs.Ytkolimhkfiebeaa
