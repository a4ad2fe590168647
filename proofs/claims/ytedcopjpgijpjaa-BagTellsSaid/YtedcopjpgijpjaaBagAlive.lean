/-
  The walk of law 11's alive.
-/
import Derived.Test.YtedcopjpgijpjaaBagLaw
import Derived.Test.YtedcopjpgijpjaaRefGreat10
namespace Go.Proofs.Ytedcopjpgijpjaa
open Go.RowKit

/-- A new block with some elements' cells, read as a list. -/
theorem R.rows {α : Type} {C : Codec α} {lo : Nat} {w : World} {xs : List α} {cs : List Value} {t : TypeId} (h : RdL C w (Fresh lo w) xs cs) (hlo : lo ≤ w.heap.size) :
    R C lo (w.alloc (.cells cs.toArray t)) (some ⟨w.heap.size, 0, none⟩) xs := by
  refine ⟨cs, RdL.keep h (fun b hb => Below.heap_alloc w _ b hb.2) (fun b hb => ⟨hb.1, by have := hb.2; rw [World.size_alloc]; omega⟩), fun _ => ⟨w.heap.size, 0, rfl, ⟨hlo, by rw [World.size_alloc]; omega⟩, fun j u hu => ⟨?_, ?_⟩⟩⟩
  · rw [Nat.zero_add, cell_of_row _ w.heap.size j cs.toArray t (0, 0) (heap_alloc_new w _)]
    simpa using hu
  · rw [Nat.zero_add]
    exact frozen_new w _ t j

def oneM (t r : Int) : Op := ⟨2, ⟨t, r⟩, [⟨t, r, 1⟩], 0⟩
def m30 : Op := oneM 3 0
def m11 : Op := oneM 1 1
theorem m30_ok : m30.ok := by unfold m30 oneM Op.ok Id.ok u8ok i64ok; decide
theorem m11_ok : m11.ok := by unfold m11 oneM Op.ok Id.ok u8ok i64ok; decide
theorem plain_a : putL [] [m30, m11] = [m11, m30] ∧ putOk [] [m30, m11] = true ∧ putL [m11, m30] [m30] = [m11, m30] ∧ putOk [m11, m30] [m30] = true := by decide

theorem rd_ops2 {w : World} {x y : Op} {A B : Option Addr} {c d : Nat} (hx : x.ok) (hy : y.ok) (h1 : x.pl.length ≤ c) (h2 : c ≤ maxLen) (h3 : y.pl.length ≤ d) (h4 : d ≤ maxLen) (hA : R cRun 0 w A x.pl) (hB : R cRun 0 w B y.pl) (t : TypeId) :
    R cOp 0 (w.alloc (.cells (opCells x A c ++ opCells y B d).toArray t)) (some ⟨w.heap.size, 0, none⟩) [x, y] :=
  R.rows ⟨_, _, rfl, ⟨hx, A, c, h1, h2, rfl, hA⟩, RdL.one1 ⟨hy, B, d, h3, h4, rfl, hB⟩⟩ (Nat.zero_le _)
theorem rd_ops1 {w : World} {x : Op} {A : Option Addr} {c : Nat} (hx : x.ok) (h1 : x.pl.length ≤ c) (h2 : c ≤ maxLen) (hA : R cRun 0 w A x.pl) (t : TypeId) :
    R cOp 0 (w.alloc (.cells (opCells x A c).toArray t)) (some ⟨w.heap.size, 0, none⟩) [x] :=
  R.rows (RdL.one1 ⟨hx, A, c, h1, h2, rfl, hA⟩) (Nat.zero_le _)

theorem one30 (w : World) : Calls Try.prog 35 #[.int .u32 3, .int .u8 0] w (NewOp m30 w) := lawOne11 3 0 w (by omega) (by omega) (by omega) (by omega)
theorem one11 (w : World) : Calls Try.prog 35 #[.int .u32 1, .int .u8 1] w (NewOp m11 w) := lawOne11 1 1 w (by omega) (by omega) (by omega) (by omega)
/-- What put hands out, the bag and the bool being known. -/
def PutP (l : List Op) (b : Bool) (w : World) (e : Ending) (w' : World) : Prop := ∃ A' c', e = .returned (.tuple #[.slice A' l.length c', .bool b]) ∧ l.length ≤ c' ∧ c' ≤ maxLen ∧ R cOp 0 w' A' l ∧ Bl w w'
theorem putA (B : Option Addr) (d : Nat) (w : World) (hB : R cOp 0 w B [m30, m11]) :
    Calls Try.prog 12 #[.slice none 0 0, .slice B 2 d] w (PutP [m11, m30] true w) := by
  have := lawPut11 none B 0 d [] [m30, m11] w (Nat.le_refl _) (Nat.zero_le _) (by simp) R.nil hB
  rw [plain_a.1, plain_a.2.1] at this
  exact this
theorem putB (A B : Option Addr) (c d : Nat) (w : World) (h1 : 2 ≤ c) (h2 : c ≤ maxLen) (hA : R cOp 0 w A [m11, m30]) (hB : R cOp 0 w B [m30]) :
    Calls Try.prog 12 #[.slice A 2 c, .slice B 1 d] w (PutP [m11, m30] true w) := by
  have := lawPut11 A B c d [m11, m30] [m30] w h1 h2 (by simp) hA hB
  rw [plain_a.2.2.1, plain_a.2.2.2] at this
  exact this
theorem sameA (A B : Option Addr) (c d : Nat) (w : World) (hA : R cOp 0 w A [m11, m30]) (hB : R cOp 0 w B [m11, m30]) :
    Calls Try.prog 36 #[.slice A 2 c, .slice B 2 d] w fun e w' => e = .returned (.bool true) ∧ Bl w w' := by
  have := refSame10 A B c d [m11, m30] [m11, m30] w (by decide) (by decide) hA hB
  rw [show same [m11, m30] [m11, m30] = true by unfold same; simp] at this
  exact this

set_option maxRecDepth 100000 in
set_option maxHeartbeats 2000000 in
theorem lawAlive11 (w : World) : Calls Try.prog 9 #[] w fun e w' => e = .returned (.bool true) ∧ Bl w w' := by
  have l1 : m30.pl.length = 1 := rfl
  have l2 : m11.pl.length = 1 := rfl
  go_enter Try.func9, Try.ntmps9
  go_wp2_with fail
  refine (one30 _).mono ?_
  rintro e w1 ⟨A1, c1, rfl, p1, p2, hr1, hb1⟩
  go_wp2_with fail
  refine (one11 _).mono ?_
  rintro e w2 ⟨A2, c2, rfl, q1, q2, hr2, hb2⟩
  have hB := rd_ops2 m30_ok m11_ok p1 p2 q1 q2 (hr1.zero.bl hb2) hr2.zero 33
  go_wp2_with fail
  refine (putA _ _ _ hB).mono ?_
  rintro e w3 ⟨A3, c3, rfl, h31, h32, hr3, hb3⟩
  have hbl3 : Bl w w3 := ((hb1.trans hb2).alloc _).trans hb3
  clear hB hr1 hr2
  go_wp2_with fail
  refine (one30 _).mono ?_
  rintro e w4 ⟨A4, c4, rfl, s1, s2, hr4, hb4⟩
  have hB := rd_ops1 m30_ok s1 s2 hr4.zero 33
  have hV4 : Bl w3 (w4.alloc (.cells (opCells m30 A4 c4).toArray 33)) := hb4.alloc _
  go_wp2_with fail
  refine (putB A3 _ c3 _ _ h31 h32 (hr3.bl hV4) hB).mono ?_
  rintro e w5 ⟨A5, c5, rfl, h51, h52, hr5, hb5⟩
  have hb35 : Bl w3 w5 := hV4.trans hb5
  clear hB hr4
  go_wp2_with fail
  refine (one11 _).mono ?_
  rintro e w6 ⟨A6, c6, rfl, t1, t2, hr6, hb6⟩
  go_wp2_with fail
  refine (one30 _).mono ?_
  rintro e w7 ⟨A7, c7, rfl, u1, u2, hr7, hb7⟩
  have hB := rd_ops2 m11_ok m30_ok t1 t2 u1 u2 (hr6.zero.bl hb7) hr7.zero 33
  have hV7 : Bl w5 (w7.alloc (.cells (opCells m11 A6 c6 ++ opCells m30 A7 c7).toArray 33)) := (hb6.trans hb7).alloc _
  go_wp2_with fail
  refine (sameA A3 _ c3 _ _ (hr3.bl (hb35.trans hV7)) hB).mono ?_
  rintro e w8 ⟨rfl, hb8⟩
  have hb58 := hV7.trans hb8
  clear hB hr6 hr7
  go_wp2_with fail
  refine (sameA A5 A3 c5 c3 _ (hr5.bl hb58) (hr3.bl (hb35.trans hb58))).mono ?_
  rintro e w9 ⟨rfl, hb9⟩
  go_wp2_with fail
  go_ret
  exact ⟨rfl, hbl3.trans (hb35.trans (hb58.trans hb9))⟩
end Go.Proofs.Ytedcopjpgijpjaa
