/-
  The walk of the reference Great of layer 10.
-/
import Derived.Test.YtedcopjpgijpjaaOp4
namespace Go.Proofs.Ytedcopjpgijpjaa
open Go.RowKit

/-- What statements go through. -/
def fewO (l : List Op) (many : Int) : Prop := (l.length : Int) ≤ many ∧ ∀ x ∈ l.take 300, x.pl.length ≤ 100

def GreatPost10 (l : List Op) (many : Int) (w : World) (e : Ending) (w' : World) : Prop := ∃ b, e = .returned (.bool b) ∧ (b = false → fewO l many) ∧ Bl w w'

set_option maxRecDepth 100000 in
set_option maxHeartbeats 2000000 in
theorem refGreat10 (A : Option Addr) (c : Nat) (l : List Op) (many : Int) (w : World) (hl : l.length ≤ 140737488355328) (hA : R cOp 0 w A l) :
    Calls Try.prog 10 #[.slice A l.length c, .int .i64 many] w (GreatPost10 l many w) := by
  go_enter Try.func10, Try.ntmps10
  go_wp2
  go_loopw [5, 6] (fun s5 s6 wr => Bl w wr ∧ ∃ (k : Nat) (n : Int), k ≤ l.length ∧ k ≤ 300 ∧ s6 = .int .i64 k ∧ s5 = .int .i64 n ∧ 0 ≤ n ∧ n ≤ 50100 * k ∧ Hid (∀ x ∈ l.take k, x.pl.length ≤ 100)) (fun _ s6 _ => l.length - (intOf s6).toNat)
  case atStart => exact ⟨Bl.refl _, 0, 0, Nat.zero_le _, Nat.zero_le _, rfl, rfl, by omega, by omega, fun x hx => by simp at hx⟩
  case round =>
    obtain ⟨hbl, k, n, hk, hk3, rfl, rfl, hn0, hn1, hf⟩ := hrel
    by_cases hlt : k < l.length
    · have hki : (k : Int) < (l.length : Int) := by omega
      have hki2 : decide ((k : Int) < (l.length : Int)) = true := by simpa using hki
      by_cases h3 : k < 300
      · have hk3i : (k : Int) < 300 := by omega
        obtain ⟨b, off, rfl, _, hb⟩ := hA.addr (by omega)
        obtain ⟨x, hx⟩ := get_lt hlt
        obtain ⟨_, ho, S, sc, s1, s2, hS, c0, c1, c2, c3, c4⟩ := (hA.bl hbl).op hx
        by_cases hbig : 100 < x.pl.length
        · have hbi : (100 : Int) < (x.pl.length : Int) := by omega
          clear hf hx
          go_wp2
          go_ret
          exact ⟨true, rfl, (fun h => by cases h), hbl⟩
        · have hbi : ¬ (100 : Int) < (x.pl.length : Int) := by omega
          have hp100 : x.pl.length ≤ 100 := by omega
          have g := hide (show ∀ y ∈ l.take (k + 1), y.pl.length ≤ 100 from fun y hy => by
            rw [take_snoc hx, List.mem_append] at hy
            rcases hy with hy | hy
            · exact hf.out y hy
            · rw [List.mem_singleton] at hy; subst hy; exact hp100)
          have hx' := hide hx
          have hkA : ∀ V, Bl wr V → V.cell? ⟨b, off + k * 5 + 3, none⟩ = some (.slice S x.pl.length sc) ∧ b < V.heap.size := fun V hV => ⟨(hV.cell (Nat.lt_of_lt_of_le hb hbl.size)).trans c3, Nat.lt_of_lt_of_le hb (hbl.trans hV).size⟩
          replace hkA := hide hkA
          clear hx hf hbig
          go_wp2
          go_loopw [5, 7] (fun s5 s7 wq => Bl wr wq ∧ ∃ (j : Nat) (n : Int), j ≤ x.pl.length ∧ s7 = .int .i64 j ∧ s5 = .int .i64 n ∧ 0 ≤ n ∧ n ≤ 50100 * k + 501 * j) (fun _ s7 _ => x.pl.length - (intOf s7).toNat)
          case atStart => exact ⟨Bl.refl _, 0, n, Nat.zero_le _, rfl, rfl, hn0, by omega⟩
          case round =>
            clear hn0 hn1
            obtain ⟨hbq, j, n, hj, rfl, rfl, hn0, hn1⟩ := hrel
            obtain ⟨c3, hbv⟩ := hkA.out _ hbq
            by_cases hjt : j < x.pl.length
            · have hji : (j : Int) < (x.pl.length : Int) := by omega
              obtain ⟨b2, off2, rfl, _, hb2⟩ := hS.addr (by omega)
              obtain ⟨r, hr⟩ := get_lt hjt
              obtain ⟨_, ⟨_, _, _, _, o4, o5⟩, _, _, d2⟩ := (R.bl hS hbq).run hr
              have hv : 0 ≤ min (max r.m 0) 5000 ∧ min (max r.m 0) 5000 ≤ 5000 := by omega
              have hjm : (j : Int) ≤ 100 := by omega
              have hkm : (k : Int) ≤ 300 := by omega
              clear hr
              rcases (show r.m < 0 ∨ (¬ r.m < 0 ∧ ¬ 5000 < r.m) ∨ (¬ r.m < 0 ∧ 5000 < r.m) by omega) with h | ⟨h, h'⟩ | ⟨h, h'⟩
              all_goals
                go_wp2
                go_roundw
                case rel => exact ⟨hbq, j + 1, _, by omega, by go_num, rfl, by omega, by push_cast; omega⟩
                case measure => simp [intOf]; omega
            · have hji : ¬ (j : Int) < (x.pl.length : Int) := by omega
              go_wp2
              go_roundw
              case rel => exact ⟨hbl.trans hbq, k + 1, n, by omega, by omega, by go_num, rfl, hn0, by push_cast; omega, g.out⟩
              case measure => simp [intOf]; omega
      · have hk3i : ¬ (k : Int) < 300 := by omega
        have hk300 : k = 300 := by omega
        have hml : l.length ≤ 9223372036854775807 := by omega
        by_cases hm : many < (l.length : Int)
        · clear hf
          go_wp2
          go_ret
          exact ⟨true, rfl, (fun h => by cases h), hbl⟩
        · have hm' : (l.length : Int) ≤ many := by omega
          have g := hide (show fewO l many from ⟨hm', by rw [← hk300]; exact hf.out⟩)
          clear hf hk300
          by_cases hn3 : 3000 < n
          · go_wp2
            go_ret
            exact ⟨true, rfl, (fun h => by cases h), hbl⟩
          · go_wp2
            go_ret
            exact ⟨false, rfl, (fun _ => g.out), hbl⟩
    · have hki : ¬ (k : Int) < (l.length : Int) := by omega
      have hki2 : decide ((k : Int) < (l.length : Int)) = false := by simpa using hki
      have hkl : l.length ≤ k := by omega
      by_cases hm : many < (l.length : Int)
      · clear hf
        go_wp2
        go_ret
        exact ⟨true, rfl, (fun h => by cases h), hbl⟩
      · have hm' : (l.length : Int) ≤ many := by omega
        have g := hide (show fewO l many from ⟨hm', by
          have := hf.out
          rw [List.take_of_length_le hkl] at this
          exact fun x hx => this x (List.mem_of_mem_take hx)⟩)
        clear hf hkl
        by_cases hn3 : 3000 < n
        · go_wp2
          go_ret
          exact ⟨true, rfl, (fun h => by cases h), hbl⟩
        · go_wp2
          go_ret
          exact ⟨false, rfl, (fun _ => g.out), hbl⟩
end Go.Proofs.Ytedcopjpgijpjaa
