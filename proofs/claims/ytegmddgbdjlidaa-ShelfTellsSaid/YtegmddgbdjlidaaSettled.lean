/-
  The walk of the closure that fetch's calls defer.
-/
import Derived.Test.YtegmddgbdjlidaaFetchOwn
import Derived.Defers
namespace Go.Proofs.Ytegmddgbdjlidaa
open Go.RowKit

/-- What fetch.settled makes of an entry, beside an error's number. -/
def setE (n : Int) (y : Entry) : Entry := if n = 0 then (if y.known && !someNot y.got then ⟨y.id, true, y.pin, y.used, false, [], []⟩ else y) else zeroE
/-- At a block stand an entry's cells. -/
def EntAt (w : World) (Y : Nat) (y : Entry) (A : Option Addr) (c : Nat) (B : Option Addr) (d : Nat) : Prop := ∀ (j : Nat) (u : Value), (entryCells y A c B d)[j]? = some u → w.cell? ⟨Y, j, none⟩ = some u ∧ w.frozen? ⟨Y, j, none⟩ = false

/-- The eight stores. -/
def set8 (w : World) (Y : Nat) (y : Entry) (A : Option Addr) (c : Nat) (B : Option Addr) (d : Nat) : World :=
  ((((((((w.setCell ⟨Y, 0, none⟩ (.int .u32 y.id.t)).setCell ⟨Y, 1, none⟩ (.int .u8 y.id.r)).setCell ⟨Y, 2, none⟩ (.bool y.ready)).setCell ⟨Y, 3, none⟩ (.bool y.pin)).setCell ⟨Y, 4, none⟩ (.int .i64 y.used)).setCell ⟨Y, 5, none⟩ (.bool y.known)).setCell ⟨Y, 6, none⟩ (.slice A y.snap.length c)).setCell ⟨Y, 7, none⟩ (.slice B y.got.length d))
theorem grown_set {a w : World} {g : Nat} (h : a.grownBy w (some g)) {o : Nat} (u : Value) : a.grownBy (w.setCell ⟨g, o, none⟩ u) (some g) :=
  ⟨h.os, h.tape, h.output, by simpa [World.setCell] using h.size, fun i hi hne => (Below.heap_setCell w ⟨g, o, none⟩ u i (fun e => hne (by rw [e]))).trans (h.block i hi hne)⟩
theorem set8_grown {a w : World} {Y : Nat} (h : a.grownBy w (some Y)) (y : Entry) (A : Option Addr) (c : Nat) (B : Option Addr) (d : Nat) : a.grownBy (set8 w Y y A c B d) (some Y) :=
  grown_set (grown_set (grown_set (grown_set (grown_set (grown_set (grown_set (grown_set h _) _) _) _) _) _) _) _
theorem set8_at {w : World} {Y : Nat} {y0 : Entry} {A0 B0 : Option Addr} {c0 d0 : Nat} (h : EntAt w Y y0 A0 c0 B0 d0) (y : Entry) (A : Option Addr) (c : Nat) (B : Option Addr) (d : Nat) : EntAt (set8 w Y y A c B d) Y y A c B d := by
  obtain ⟨k0, f0⟩ := h 0 _ rfl
  obtain ⟨k1, f1⟩ := h 1 _ rfl
  obtain ⟨k2, f2⟩ := h 2 _ rfl
  obtain ⟨k3, f3⟩ := h 3 _ rfl
  obtain ⟨k4, f4⟩ := h 4 _ rfl
  obtain ⟨k5, f5⟩ := h 5 _ rfl
  obtain ⟨k6, f6⟩ := h 6 _ rfl
  obtain ⟨k7, f7⟩ := h 7 _ rfl
  have hne : ∀ {i j : Nat}, i ≠ j → (⟨Y, j, none⟩ : Addr) ≠ ⟨Y, i, none⟩ := fun h e => by injection e with _ e; exact h e.symm
  intro j u hu
  unfold set8
  have hj : j < 8 := by
    have := (List.getElem?_eq_some_iff.1 hu).1
    simpa [entryCells] using this
  refine ⟨?_, ?_⟩
  · match j, hj, hu with
    | 0, _, hu => simp only [entryCells, List.getElem?_cons_zero, Option.some.injEq] at hu; subst hu; exact (cell_set_other (hne (by decide)) (cell_set_other (hne (by decide)) (cell_set_other (hne (by decide)) (cell_set_other (hne (by decide)) (cell_set_other (hne (by decide)) (cell_set_other (hne (by decide)) (cell_set_other (hne (by decide)) (cell_set_same k0))))))))
    | 1, _, hu => simp only [entryCells, List.getElem?_cons_zero, List.getElem?_cons_succ, Option.some.injEq] at hu; subst hu; exact (cell_set_other (hne (by decide)) (cell_set_other (hne (by decide)) (cell_set_other (hne (by decide)) (cell_set_other (hne (by decide)) (cell_set_other (hne (by decide)) (cell_set_other (hne (by decide)) (cell_set_same (cell_set_other (hne (by decide)) k1))))))))
    | 2, _, hu => simp only [entryCells, List.getElem?_cons_zero, List.getElem?_cons_succ, Option.some.injEq] at hu; subst hu; exact (cell_set_other (hne (by decide)) (cell_set_other (hne (by decide)) (cell_set_other (hne (by decide)) (cell_set_other (hne (by decide)) (cell_set_other (hne (by decide)) (cell_set_same (cell_set_other (hne (by decide)) (cell_set_other (hne (by decide)) k2))))))))
    | 3, _, hu => simp only [entryCells, List.getElem?_cons_zero, List.getElem?_cons_succ, Option.some.injEq] at hu; subst hu; exact (cell_set_other (hne (by decide)) (cell_set_other (hne (by decide)) (cell_set_other (hne (by decide)) (cell_set_other (hne (by decide)) (cell_set_same (cell_set_other (hne (by decide)) (cell_set_other (hne (by decide)) (cell_set_other (hne (by decide)) k3))))))))
    | 4, _, hu => simp only [entryCells, List.getElem?_cons_zero, List.getElem?_cons_succ, Option.some.injEq] at hu; subst hu; exact (cell_set_other (hne (by decide)) (cell_set_other (hne (by decide)) (cell_set_other (hne (by decide)) (cell_set_same (cell_set_other (hne (by decide)) (cell_set_other (hne (by decide)) (cell_set_other (hne (by decide)) (cell_set_other (hne (by decide)) k4))))))))
    | 5, _, hu => simp only [entryCells, List.getElem?_cons_zero, List.getElem?_cons_succ, Option.some.injEq] at hu; subst hu; exact (cell_set_other (hne (by decide)) (cell_set_other (hne (by decide)) (cell_set_same (cell_set_other (hne (by decide)) (cell_set_other (hne (by decide)) (cell_set_other (hne (by decide)) (cell_set_other (hne (by decide)) (cell_set_other (hne (by decide)) k5))))))))
    | 6, _, hu => simp only [entryCells, List.getElem?_cons_zero, List.getElem?_cons_succ, Option.some.injEq] at hu; subst hu; exact (cell_set_other (hne (by decide)) (cell_set_same (cell_set_other (hne (by decide)) (cell_set_other (hne (by decide)) (cell_set_other (hne (by decide)) (cell_set_other (hne (by decide)) (cell_set_other (hne (by decide)) (cell_set_other (hne (by decide)) k6))))))))
    | 7, _, hu => simp only [entryCells, List.getElem?_cons_zero, List.getElem?_cons_succ, Option.some.injEq] at hu; subst hu; exact (cell_set_same (cell_set_other (hne (by decide)) (cell_set_other (hne (by decide)) (cell_set_other (hne (by decide)) (cell_set_other (hne (by decide)) (cell_set_other (hne (by decide)) (cell_set_other (hne (by decide)) (cell_set_other (hne (by decide)) k7))))))))
  · simp only [World.frozen?_setCell]
    match j, hj with
    | 0, _ => exact f0
    | 1, _ => exact f1
    | 2, _ => exact f2
    | 3, _ => exact f3
    | 4, _ => exact f4
    | 5, _ => exact f5
    | 6, _ => exact f6
    | 7, _ => exact f7

theorem grown_drew {a w : World} {Y : Nat} (h : a.grownBy w (some Y)) : a.grownBy w.drew (some Y) :=
  have hd := (Bl.refl w).drew
  ⟨hd.os.trans h.os, hd.tape.trans h.tape, hd.output.trans h.output, Nat.le_trans h.size (Bl.size hd), fun k hk hne => (hd.block k (Nat.lt_of_lt_of_le hk h.size)).trans (h.block k hk hne)⟩
theorem EntAt.drew {w : World} {Y : Nat} {y : Entry} {A B : Option Addr} {c d : Nat} (h : EntAt w Y y A c B d) : EntAt w.drew Y y A c B d := h

theorem R.off {α : Type} {C : Codec α} {lo Y : Nat} {w w' : World} {A : Option Addr} {xs : List α} (h : R C lo w A xs) (hg : w.grownBy w' (some Y)) (hY : Y < lo) : R C lo w' A xs :=
  RS.keep h (fun b hb => hg.block b hb.2 (fun e => by cases e; have := hb.1; omega)) fun b hb => ⟨hb.1, Nat.lt_of_lt_of_le hb.2 hg.size⟩

set_option maxRecDepth 100000 in
set_option maxHeartbeats 1000000 in
theorem settled1 (y : Entry) (n : Int) (S G : Option Addr) (sc gc : Nat) (u : FrameMode) (w : World) (B2 B3 Y E lo : Nat) (hs : y.snap.length ≤ sc ∧ sc ≤ maxLen) (hg : y.got.length ≤ gc ∧ gc ≤ maxLen)
    (h2 : w.cell? ⟨B2, 0, none⟩ = some (.pointer (some ⟨Y, 0, none⟩))) (h3 : w.cell? ⟨B3, 0, none⟩ = some (.pointer (some ⟨E, 0, none⟩))) (hE : w.cell? ⟨E, 0, none⟩ = some (.int .i64 n))
    (hY : EntAt w Y y S sc G gc) (hYl : Y < w.heap.size) (hS : R cTimes lo w S y.snap) (hG : R cBool lo w G y.got) :
    CallsD Try.prog 89 #[.pointer (some ⟨B3, 0, none⟩), .pointer (some ⟨B2, 0, none⟩)] u w fun e u' w' => u' = u ∧ e = .returned (.tuple #[]) ∧
      w.grownBy w' (some Y) ∧ ∃ A c B d, EntAt w' Y (setE n y) A c B d ∧ (setE n y).snap.length ≤ c ∧ c ≤ maxLen ∧ (setE n y).got.length ≤ d ∧ d ≤ maxLen ∧ R cTimes lo w' A (setE n y).snap ∧ R cBool lo w' B (setE n y).got := by
  obtain ⟨c0, f0⟩ := hY 0 _ rfl
  obtain ⟨c1, f1⟩ := hY 1 _ rfl
  obtain ⟨c2, f2⟩ := hY 2 _ rfl
  obtain ⟨c3, f3⟩ := hY 3 _ rfl
  obtain ⟨c4, f4⟩ := hY 4 _ rfl
  obtain ⟨c5, f5⟩ := hY 5 _ rfl
  obtain ⟨c6, f6⟩ := hY 6 _ rfl
  obtain ⟨c7, f7⟩ := hY 7 _ rfl
  by_cases hn : n = 0
  · subst hn
    cases hk : y.known
    · have e1 : setE 0 y = y := by unfold setE; rw [hk]; rfl
      rw [e1]
      clear e1
      rw [hk] at c5
      go_enter_d Try.func89, Try.ntmps89
      go_wp2
      go_end0
      exact ⟨rfl, World.grownBy.refl w _, S, sc, G, gc, hY, hs.1, hs.2, hg.1, hg.2, hS, hG⟩
    · have hcon := boolContainsFalse G gc y.got w (by omega) hG.zero
      rw [hk] at c5
      cases hq : someNot y.got
      · have e1 : setE 0 y = ⟨y.id, true, y.pin, y.used, false, [], []⟩ := by unfold setE; rw [hk, hq]; rfl
        rw [e1]
        clear e1
        rw [hq] at hcon
        replace hcon := hide hcon
        clear hq
        go_enter_d Try.func89, Try.ntmps89
        go_wp2_with (go_at_call 90; refine hcon.out.mono ?_; rintro e w1 ⟨rfl, hb⟩)
        have hB2 := World.block_lt_of_cell? w _ h2
        have b2 := (hb.cell hB2).trans h2
        have d0 := (hb.cell hYl).trans c0
        have g0 := (hb.frozen hYl).trans f0
        have d1 := (hb.cell hYl).trans c1
        have g1 := (hb.frozen hYl).trans f1
        have d2 := (hb.cell hYl).trans c2
        have g2 := (hb.frozen hYl).trans f2
        have d3 := (hb.cell hYl).trans c3
        have g3 := (hb.frozen hYl).trans f3
        have d4 := (hb.cell hYl).trans c4
        have g4 := (hb.frozen hYl).trans f4
        have d5 := (hb.cell hYl).trans c5
        have g5 := (hb.frozen hYl).trans f5
        have d6 := (hb.cell hYl).trans c6
        have g6 := (hb.frozen hYl).trans f6
        have d7 := (hb.cell hYl).trans c7
        have g7 := (hb.frozen hYl).trans f7
        have hY1 : EntAt w1 Y y S sc G gc := fun j v hj => ⟨(hb.cell hYl).trans (hY j v hj).1, (hb.frozen hYl).trans (hY j v hj).2⟩
        have hgr : w.grownBy w1 (some Y) := ⟨hb.os, hb.tape, hb.output, Bl.size hb, fun k hk _ => hb.block k hk⟩
        clear c0 c1 c2 c3 c4 c5 c6 c7 f0 f1 f2 f3 f4 f5 f6 f7 h2 h3 hE hcon
        go_region
        go_wp2
        go_end0
        refine ⟨rfl, grown_drew (w := set8 w1 Y ⟨y.id, true, y.pin, y.used, false, [], []⟩ none 0 none 0) (set8_grown hgr _ none 0 none 0), none, 0, none, 0, EntAt.drew (w := set8 w1 Y ⟨y.id, true, y.pin, y.used, false, [], []⟩ none 0 none 0) (set8_at hY1 _ none 0 none 0), Nat.zero_le _, Nat.zero_le _, R.nil, R.nil⟩
      · have e1 : setE 0 y = y := by unfold setE; rw [hk, hq]; rfl
        rw [e1]
        clear e1
        rw [hq] at hcon
        replace hcon := hide hcon
        clear hq
        go_enter_d Try.func89, Try.ntmps89
        go_wp2_with (go_at_call 90; refine hcon.out.mono ?_; rintro e w1 ⟨rfl, hb⟩)
        go_end0
        exact ⟨rfl, ⟨hb.os, hb.tape, hb.output, Bl.size hb, fun k hk _ => hb.block k hk⟩, S, sc, G, gc, fun j v hj => ⟨(hb.cell hYl).trans (hY j v hj).1, (hb.frozen hYl).trans (hY j v hj).2⟩, hs.1, hs.2, hg.1, hg.2, hS.bl hb, hG.bl hb⟩
  · have hn' : (n != 0) = true := by simp [hn]
    have e1 : setE n y = zeroE := by unfold setE; rw [if_neg hn]
    rw [e1]
    clear e1 hn
    go_enter_d Try.func89, Try.ntmps89
    go_wp2
    go_end0
    exact ⟨rfl, set8_grown (World.grownBy.refl w _) zeroE none 0 none 0, none, 0, none, 0, set8_at hY zeroE none 0 none 0, Nat.le_refl _, Nat.zero_le _, Nat.le_refl _, Nat.zero_le _, R.nil, R.nil⟩
end Go.Proofs.Ytegmddgbdjlidaa
