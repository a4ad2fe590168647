/-
  The walk of the law's inner function spoil.
-/
import Derived.Test.YtegmddgbdjlidaaFind19
import Derived.StillTailTactics
namespace Go.Proofs.Ytegmddgbdjlidaa
open Go.RowKit

/-- Of one kind: a bool, a small number, a number; or the same. -/
inductive Kin : Value → Value → Prop
  | bool (a b : Bool) : Kin (.bool a) (.bool b)
  | u8 (a b : Int) : Kin (.int .u8 a) (.int .u8 b)
  | u32 (a b : Int) : Kin (.int .u32 a) (.int .u32 b)
  | i64 (a b : Int) : Kin (.int .i64 a) (.int .i64 b)
  | same (u : Value) : Kin u u
theorem Kin.trans {u v x : Value} (h : Kin u v) (k : Kin v x) : Kin u x := by
  cases h <;> cases k <;> first | exact Kin.bool _ _ | exact Kin.u8 _ _ | exact Kin.u32 _ _ | exact Kin.i64 _ _ | exact Kin.same _
theorem Kin.ofBool {a : Bool} {v : Value} (h : Kin (.bool a) v) : ∃ b, v = .bool b := by
  cases h
  · exact ⟨_, rfl⟩
  · exact ⟨_, rfl⟩
theorem Kin.ofU8 {a : Int} {v : Value} (h : Kin (.int .u8 a) v) : ∃ b, v = .int .u8 b := by
  cases h
  · exact ⟨_, rfl⟩
  · exact ⟨_, rfl⟩
theorem Kin.ofU32 {a : Int} {v : Value} (h : Kin (.int .u32 a) v) : ∃ b, v = .int .u32 b := by
  cases h
  · exact ⟨_, rfl⟩
  · exact ⟨_, rfl⟩
theorem Kin.ofI64 {a : Int} {v : Value} (h : Kin (.int .i64 a) v) : ∃ b, v = .int .i64 b := by
  cases h
  · exact ⟨_, rfl⟩
  · exact ⟨_, rfl⟩
theorem Kin.ofSlice {A : Option Addr} {n c : Nat} {v : Value} (h : Kin (.slice A n c) v) : v = .slice A n c := by cases h; rfl
/-- Each cell holds what it held, or another one of that kind. -/
def Sim (w w' : World) : Prop := ∀ b o u, w.cell? ⟨b, o, none⟩ = some u → (∃ u', w'.cell? ⟨b, o, none⟩ = some u' ∧ Kin u u') ∧ w'.frozen? ⟨b, o, none⟩ = w.frozen? ⟨b, o, none⟩
theorem Sim.refl (w : World) : Sim w w := fun _ _ u h => ⟨⟨u, h, Kin.same u⟩, rfl⟩
theorem Sim.set {w w' : World} (h : Sim w w') {b o : Nat} {v u : Value} (hc : w'.cell? ⟨b, o, none⟩ = some v) (hk : Kin v u) : Sim w (w'.setCell ⟨b, o, none⟩ u) := fun b' o' x hx => by
  obtain ⟨⟨u', h1, h2⟩, h3⟩ := h b' o' x hx
  refine ⟨?_, by rw [World.frozen?_setCell]; exact h3⟩
  by_cases e : (⟨b', o', none⟩ : Addr) = ⟨b, o, none⟩
  · injection e with e1 e2 _
    subst e1 e2
    rw [hc] at h1
    obtain rfl := Option.some.inj h1
    exact ⟨u, cell_set_same hc, h2.trans hk⟩
  · exact ⟨u', cell_set_other e h1, h2⟩
theorem Sim.drew {w w' : World} (h : Sim w w') : Sim w w'.drew := h
theorem Sim.slice {w w' : World} (h : Sim w w') {b o : Nat} {A : Option Addr} {n c : Nat} (hc : w.cell? ⟨b, o, none⟩ = some (.slice A n c)) : w'.cell? ⟨b, o, none⟩ = some (.slice A n c) := by
  obtain ⟨⟨u, h1, h2⟩, _⟩ := h b o _ hc
  rw [h1, h2.ofSlice]

theorem R.entryUsed {lo : Nat} {w : World} {b off k : Nat} {l : List Entry} {x : Entry} (h : R cEntry lo w (some ⟨b, off, none⟩) l) (hk : l[k]? = some x) : w.cell? ⟨b, off + k * 8 + 4, none⟩ = some (.int .i64 x.used) ∧ w.frozen? ⟨b, off + k * 8 + 4, none⟩ = false := by
  obtain ⟨h1, m, ⟨ho, A, c, B, d, a1, a2, a3, a4, rfl, hr, hs⟩, ha⟩ := R.get h hk
  exact ha 4 _ rfl
theorem R.timesR {lo : Nat} {w : World} {b off k : Nat} {l : List Times} {x : Times} (h : R cTimes lo w (some ⟨b, off, none⟩) l) (hk : l[k]? = some x) : (lo ≤ b ∧ b < w.heap.size) ∧ w.cell? ⟨b, off + k * 2, none⟩ = some (.int .u8 x.r) ∧ w.frozen? ⟨b, off + k * 2, none⟩ = false := by
  obtain ⟨h1, m, ⟨ho, A, c, hc, hm, rfl, hr⟩, ha⟩ := R.get h hk
  exact ⟨h1, ha 0 _ rfl⟩

set_option maxRecDepth 100000 in
set_option maxHeartbeats 2000000 in
theorem spoil19 (base : Nat) (A : Option Addr) (c : Nat) (l : List Entry) (w : World) (hl : l.length ≤ 1099511627776) (hA : R cEntry base w A l) :
    Calls Try.prog 22 #[.slice A l.length c] w fun e w' => (∃ v, e = .returned v) ∧ Below base w w' := by
  go_enter Try.func22, Try.ntmps22
  go_upto_region 1 with fail
  go_loopw [2] (fun i wr => Sim w wr ∧ Below base w wr ∧ ∃ k : Nat, k ≤ l.length ∧ i = .int .i64 k) (fun i _ => l.length - (intOf i).toNat)
  case atStart => exact ⟨Sim.refl _, Below.refl _ _, 0, Nat.zero_le _, rfl⟩
  case round =>
    obtain ⟨hsm, hB, k, hk, rfl⟩ := hrel
    by_cases hlt : k < l.length
    · obtain ⟨b, off, rfl, hlo, hb⟩ := hA.addr (by omega)
      obtain ⟨x, hx⟩ := get_lt hlt
      obtain ⟨_, ho, S, sc, G, gc, q1, q2, q3, q4, hS, hG, -, -, -, -, -, -, c6, c7⟩ := hA.entry hx
      obtain ⟨u4, f4⟩ := hA.entryUsed hx
      have hi : (k : Int) < (l.length : Int) := by omega
      have hi0 : (0 : Int) ≤ (k : Int) := by omega
      have q2' := q2
      have q4' := q4
      unfold maxLen at q2' q4'
      clear hx
      go_upto_region 4 with fail
      obtain ⟨w1, rfl⟩ : ∃ w1, w1 = wr := ⟨_, rfl⟩
      go_loopw [3] (fun i wr => Sim w wr ∧ Below base w wr ∧ ∃ j : Nat, j ≤ x.got.length ∧ i = .int .i64 j) (fun i _ => x.got.length - (intOf i).toNat)
      case atStart => exact ⟨hsm, hB, 0, Nat.zero_le _, rfl⟩
      case round =>
        obtain ⟨hsm, hB, j, hj, rfl⟩ := hrel
        have k7 := hsm.slice c7
        by_cases hlt2 : j < x.got.length
        · obtain ⟨g, goff, rfl, hg1, hg2⟩ := hG.addr (by omega)
          obtain ⟨v, hv⟩ := get_lt hlt2
          obtain ⟨_, hc, hf⟩ := hG.bool hv
          obtain ⟨⟨u', hc1, hku⟩, hf1⟩ := hsm g (goff + j) _ hc
          obtain ⟨v', rfl⟩ := hku.ofBool
          rw [hf] at hf1
          have hj0 : (j : Int) < (x.got.length : Int) := by omega
          have hsm2 := hsm.set hc1 (Kin.bool v' (!v'))
          have hB2 := hB.setCell (p := ⟨g, goff + j, none⟩) hg1 (.bool (!v'))
          clear hv hc hf
          go_upto_region 6 with fail
          go_still_tail 16, (by kernel_rfl)
          go_wp2
          go_roundw
          case rel => exact ⟨hsm2.drew, hB2.drew, j + 1, by omega, by go_num⟩
          case measure => simp [intOf]; omega
        · go_upto_region 8 with fail
          obtain ⟨w2, rfl⟩ : ∃ w2, w2 = wr := ⟨_, rfl⟩
          go_loopw [4] (fun i wr => Sim w wr ∧ Below base w wr ∧ ∃ j : Nat, j ≤ x.snap.length ∧ i = .int .i64 j) (fun i _ => x.snap.length - (intOf i).toNat)
          case atStart => exact ⟨hsm, hB, 0, Nat.zero_le _, rfl⟩
          case round =>
            clear k7
            obtain ⟨hsm, hB, j3, hj3, rfl⟩ := hrel
            have k6 := hsm.slice c6
            by_cases hlt3 : j3 < x.snap.length
            · obtain ⟨g, goff, rfl, hg1, hg2⟩ := hS.addr (by omega)
              obtain ⟨v, hv⟩ := get_lt hlt3
              obtain ⟨_, hc, hf⟩ := hS.timesR hv
              obtain ⟨⟨u', hc1, hku⟩, hf1⟩ := hsm g (goff + j3 * 2) _ hc
              obtain ⟨v', rfl⟩ := hku.ofU8
              rw [hf] at hf1
              have hj0 : (j3 : Int) < (x.snap.length : Int) := by omega
              have hsm2 := hsm.set hc1 (Kin.u8 v' 77)
              have hB2 := hB.setCell (p := ⟨g, goff + j3 * 2, none⟩) hg1 (.int .u8 77)
              clear hv hc hf
              go_wp2
              go_roundw
              case rel => exact ⟨hsm2, hB2, j3 + 1, by omega, by go_num⟩
              case measure => simp [intOf]; omega
            · obtain ⟨⟨u', hc1, hku⟩, hf1⟩ := hsm b (off + k * 8 + 4) _ u4
              obtain ⟨v', rfl⟩ := hku.ofI64
              rw [f4] at hf1
              have hsm2 := hsm.set hc1 (Kin.i64 v' (-7))
              have hB2 := hB.setCell (p := ⟨b, off + k * 8 + 4, none⟩) hlo (.int .i64 (-7))
              clear u4 f4
              go_wp2
              go_roundw
              case rel => exact ⟨hsm2, hB2, k + 1, by omega, by go_num⟩
              case measure => simp [intOf]; omega
    · go_wp2
      go_end0
      exact ⟨⟨_, rfl⟩, hB⟩
end Go.Proofs.Ytegmddgbdjlidaa
