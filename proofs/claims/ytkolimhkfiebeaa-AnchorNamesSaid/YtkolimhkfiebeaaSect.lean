/-
  The walks of cover.of's closure, of a section's method in, of cover.parent and op.Content.
-/
import Derived.Test.YtkolimhkfiebeaaIdInt
import Derived.Test.YtkolimhkfiebeaaPart
import Derived.Test.YtkolimhkfiebeaaCoverPlain
namespace Go.Proofs.Ytkolimhkfiebeaa
open Go.RowKit

/-! ### What a section holds -/
structure SectAt (w : World) (fr tu : List Run) (f : Id → Int) (F : Option Addr) (cf : Nat) (T : Option Addr) (ct Y : Nat) : Prop where
  f1 : fr.length ≤ cf
  f2 : cf ≤ maxLen
  t1 : tu.length ≤ ct
  t2 : ct ≤ maxLen
  hF : R cRun 0 w F fr
  hT : R cRun 0 w T tu
  hY : ∃ mb n, w.cell? ⟨Y, 0, none⟩ = some (.map (some mb)) ∧ IdInt w mb n f

theorem SectAt.bl {w w' : World} {fr tu : List Run} {f : Id → Int} {F : Option Addr} {cf : Nat} {T : Option Addr} {ct Y : Nat} (h : SectAt w fr tu f F cf T ct Y) (hb : Bl w w') : SectAt w' fr tu f F cf T ct Y :=
  ⟨h.f1, h.f2, h.t1, h.t2, h.hF.bl hb, h.hT.bl hb, let ⟨mb, n, h1, h2⟩ := h.hY; ⟨mb, n, (hb.cell (World.block_lt_of_cell? _ _ h1)).trans h1, h2.bl hb⟩⟩

set_option maxRecDepth 100000 in
set_option maxHeartbeats 1000000 in
theorem coverHas (s : Id) (Y mb n : Nat) (f : Id → Int) (w : World) (hs : s.ok) (hY : w.cell? ⟨Y, 0, none⟩ = some (.map (some mb))) (hm : IdInt w mb n f) :
    Calls Try.prog 234 #[.agg #[.int .u32 s.t, .int .u8 s.r], .pointer (some ⟨Y, 0, none⟩)] w fun e w' => e = .returned (.bool (decide (0 < f s))) ∧ Bl w w' := by
  have hYl : Y < w.heap.size := World.block_lt_of_cell? _ _ hY
  have hb : Bl w (w.alloc (.cells #[.int .u32 s.t, .int .u8 s.r] 36)) := (Bl.refl _).alloc _
  have hlk := hm.look hs _ hb
  have hne : Y ≠ w.heap.size := by omega
  go_enter Try.func234, Try.ntmps234
  go_wp2_with fail
  go_ret
  exact ⟨rfl, hb⟩

/-- Does a place stand from one on, and ahead of the other? -/
def inB (fr tu p : List Run) : Bool := decide (plCmp fr p ≤ 0) && (decide (tu.length = 0) || decide (plCmp p tu < 0))

set_option maxRecDepth 100000 in
set_option maxHeartbeats 2000000 in
theorem sectIn (fr tu p : List Run) (F T P : Option Addr) (cf ct cp : Nat) (fv : Value) (w : World) (hf : fr.length ≤ maxLen) (ht : tu.length ≤ maxLen) (hp : p.length ≤ maxLen) (hF : R cRun 0 w F fr) (hT : R cRun 0 w T tu) (hP : R cRun 0 w P p) :
    Calls Try.prog 223 #[.agg #[.slice F fr.length cf, .slice T tu.length ct, fv], .slice P p.length cp] w fun e w' => e = .returned (.bool (inB fr tu p)) ∧ Bl w w' := by
  have hc1 := fun V (hv : Bl w V) => placeCompareD F P cf cp fr p V hf hp (hF.bl hv) (hP.bl hv)
  have hc2 := fun V (hv : Bl w V) => placeCompareD P T cp ct p tu V hp ht (hP.bl hv) (hT.bl hv)
  obtain ⟨W, hW⟩ : ∃ W, W = w.alloc (.cells #[.slice F fr.length cf, .slice T tu.length ct, fv] 237) := ⟨_, rfl⟩
  have hbW : Bl w W := by rw [hW]; exact (Bl.refl _).alloc _
  have at0 : At W w.heap.size 0 [.slice F fr.length cf, .slice T tu.length ct, fv] := by rw [hW]; exact At.new w _ _
  obtain ⟨B, hB⟩ : ∃ B, B = inB fr tu p := ⟨_, rfl⟩
  rw [← hB]
  unfold inB at hB
  have hl0 := at0.lt (by simp)
  have x0 := (at0 0 _ rfl).1
  have x1 := (at0 1 _ rfl).1
  simp only [Nat.zero_add] at x0 x1
  generalize plCmp fr p = N1 at *
  generalize plCmp p tu = N2 at *
  generalize hnt : tu.length = nt at *
  replace hnt := hide hnt
  replace hc1 := hide hc1
  replace hc2 := hide hc2
  by_cases h1 : N1 ≤ 0
  · rw [decide_eq_true h1, Bool.true_and] at hB
    by_cases h2 : nt = 0
    · rw [decide_eq_true h2, Bool.true_or] at hB
      subst hB
      have hz : ((nt : Int) == 0) = true := by simp [h2]
      replace h2 := hide h2
      go_enter Try.func223, Try.ntmps223
      go_wp2_with fail
      rw [← hW]
      clear hW
      refine (hc1.out _ hbW).mono ?_
      rintro e w1 ⟨rfl, hb1⟩
      have y0 := (hb1.bl.cell hl0).trans x0
      have y1 := (hb1.bl.cell hl0).trans x1
      clear x0 x1
      go_wp2_with fail
      go_ret
      exact ⟨rfl, hbW.trans hb1.bl⟩
    · rw [decide_eq_false h2, Bool.false_or] at hB
      have hz : ((nt : Int) == 0) = false := by simp [h2]
      replace h2 := hide h2
      replace hB := hide hB
      go_enter Try.func223, Try.ntmps223
      go_wp2_with fail
      rw [← hW]
      clear hW
      refine (hc1.out _ hbW).mono ?_
      rintro e w1 ⟨rfl, hb1⟩
      have y0 := (hb1.bl.cell hl0).trans x0
      have y1 := (hb1.bl.cell hl0).trans x1
      clear x0 x1
      go_wp2_with fail
      refine (hc2.out _ (hbW.trans hb1.bl)).mono ?_
      rintro e w2 ⟨rfl, hb2⟩
      go_wp2_with fail
      go_ret
      exact ⟨ret_bool hB.out.symm, hbW.trans (hb1.bl.trans hb2.bl)⟩
  · rw [decide_eq_false h1, Bool.false_and] at hB
    subst hB
    have h1d : decide (N1 ≤ 0) = false := decide_eq_false h1
    go_enter Try.func223, Try.ntmps223
    go_wp2_with fail
    rw [← hW]
    clear hW
    refine (hc1.out _ hbW).mono ?_
    rintro e w1 ⟨rfl, hb1⟩
    go_wp2_with fail
    go_ret
    exact ⟨rfl, hbW.trans hb1.bl⟩

set_option maxRecDepth 100000 in
set_option maxHeartbeats 1000000 in
theorem opContent (x : Op) (A : Option Addr) (c : Nat) (w : World) :
    Calls Try.prog 222 #[.agg #[.int .u8 x.kind, .int .u32 x.id.t, .int .u8 x.id.r, .slice A x.pl.length c, .int .i64 x.pt]] w fun e w' => e = .returned (.bool (contentO x)) ∧ Bl w w' := by
  have hb : Bl w (w.alloc (.cells #[Value.int IntKind.u8 x.kind, Value.int IntKind.u32 x.id.t, Value.int IntKind.u8 x.id.r, Value.slice A x.pl.length c, Value.int IntKind.i64 x.pt] 68)) := (Bl.refl _).alloc _
  obtain ⟨B, hB⟩ : ∃ B, B = contentO x := ⟨_, rfl⟩
  rw [← hB]
  unfold contentO at hB
  by_cases h1 : x.kind = 1
  · rw [decide_eq_true h1, Bool.true_or] at hB
    subst hB
    go_enter Try.func222, Try.ntmps222
    go_wp2
    go_ret
    exact ⟨rfl, by simpa [h1] using hb⟩
  · rw [decide_eq_false h1, Bool.false_or] at hB
    have e1 : (x.kind == 1) = false := by simp [h1]
    obtain ⟨v, hv⟩ : ∃ v, (x.kind == 3) = v := ⟨_, rfl⟩
    have e2 : B = v := by rw [hB, ← hv]; by_cases h3 : x.kind = 3 <;> simp [h3]
    subst e2
    replace hB := hide hB
    replace h1 := hide h1
    go_enter Try.func222, Try.ntmps222
    go_wp2
    go_ret
    exact ⟨rfl, hb⟩
end Go.Proofs.Ytkolimhkfiebeaa
