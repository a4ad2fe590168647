/-
  The walks of bag.Less and bag.Find.
-/
import Derived.Test.YtedcopjpgijpjaaBagLess2
namespace Go.Proofs.Ytedcopjpgijpjaa
open Go.RowKit Go.Shelf Go.Lib

def lessN (l : List Op) (c : List Times) : Int := if bagMay l && clockMay c then 0 else 8
def lessL (l : List Op) (c : List Times) : List Op := if lessN l c = 0 then l.filter fun x => !clockHas c x.id else []

set_option maxRecDepth 100000 in
set_option maxHeartbeats 2000000 in
theorem bagLess (A C : Option Addr) (c d : Nat) (l : List Op) (m : List Times) (w : World) (hl : l.length ≤ maxLen) (hm : m.length ≤ 140737488355328) (hA : R cOp 0 w A l) (hC : R cTimes 0 w C m) :
    Calls Try.prog 17 #[.slice A l.length c, .slice C m.length d] w (New2 cOp (lessL l m) (lessN l m) w) := by
  obtain ⟨L, hL⟩ : ∃ L, L = lessL l m := ⟨_, rfl⟩
  obtain ⟨N, hN⟩ : ∃ N, N = lessN l m := ⟨_, rfl⟩
  rw [← hL, ← hN]
  obtain ⟨W, hW⟩ : ∃ W, W = w.alloc (.cells #[Value.slice C m.length d] 39) := ⟨_, rfl⟩
  have hbW : Bl w W := by rw [hW]; exact (Bl.refl _).alloc _
  have hY : W.cell? ⟨w.heap.size, 0, none⟩ = some (.slice C m.length d) := by rw [hW, cell_of_row _ w.heap.size 0 _ _ (0, 0) (heap_alloc_new w _)]; rfl
  have hYl := World.block_lt_of_cell? _ _ hY
  have kA := hide (fun V (hV : Bl W V) => (hV.cell hYl).trans hY)
  have hchk := fun V (hb : Bl W V) => bagCheck A c l V hl (hA.bl (hbW.trans hb))
  have hclk := fun V (hb : Bl W V) => clockCheck C d m V (by unfold maxLen; omega) (hC.bl (hbW.trans hb))
  cases h1 : bagMay l
  · have e2 : N = 8 := by rw [hN]; unfold lessN; rw [h1]; rfl
    have e1 : L = [] := by rw [hL]; unfold lessL; rw [← hN, e2]; rfl
    subst e1 e2
    rw [h1, okOr_false] at hchk
    replace hchk := hide hchk
    clear hL hN h1 hclk hY
    go_enter Try.func17, Try.ntmps17
    go_wp2_with fail
    rw [← hW]
    clear hW
    refine (hchk.out _ (Bl.refl _)).mono ?_
    rintro e w1 ⟨rfl, hb1⟩
    go_wp2_with fail
    go_ret2
    exact ⟨none, 0, rfl, Nat.le_refl _, Nat.zero_le _, R.nil, hbW.trans hb1⟩
  rw [h1, okOr_true] at hchk
  replace hchk := hide hchk
  cases h2 : clockMay m
  · have e2 : N = 8 := by rw [hN]; unfold lessN; rw [h1, h2]; rfl
    have e1 : L = [] := by rw [hL]; unfold lessL; rw [← hN, e2]; rfl
    subst e1 e2
    rw [h2, okOr_false] at hclk
    replace hclk := hide hclk
    clear hL hN h1 h2 hY
    go_enter Try.func17, Try.ntmps17
    go_wp2_with fail
    rw [← hW]
    clear hW
    refine (hchk.out _ (Bl.refl _)).mono ?_
    rintro e w1 ⟨rfl, hb1⟩
    have y1 := kA.out _ hb1
    have hy1 := Nat.lt_of_lt_of_le hYl hb1.size
    go_wp2_with fail
    refine (hclk.out _ hb1).mono ?_
    rintro e w2 ⟨rfl, hb2⟩
    go_wp2_with fail
    go_ret2
    exact ⟨none, 0, rfl, Nat.le_refl _, Nat.zero_le _, R.nil, hbW.trans (hb1.trans hb2)⟩
  rw [h2, okOr_true] at hclk
  replace hclk := hide hclk
  have e2 : N = 0 := by rw [hN]; unfold lessN; rw [h1, h2]; rfl
  have e1 := hide (show L = l.filter fun x => !clockHas m x.id by rw [hL]; unfold lessL; rw [← hN, e2]; rfl)
  have hsml := hide (bagMay_small h1)
  subst e2
  clear hL hN h1 h2 hY
  go_enter Try.func17, Try.ntmps17
  go_wp2_with fail
  rw [← hW]
  clear hW
  refine (hchk.out _ (Bl.refl _)).mono ?_
  rintro e w1 ⟨rfl, hb1⟩
  have y1 := kA.out _ hb1
  have hy1 := Nat.lt_of_lt_of_le hYl hb1.size
  go_wp2_with fail
  refine (hclk.out _ hb1).mono ?_
  rintro e w2 ⟨rfl, hb2⟩
  have hbW2 := hb1.trans hb2
  have hbw2 := hbW.trans hbW2
  go_wp2_with fail
  refine (bagTwin A c l _ hsml.out (hA.bl hbw2)).mono ?_
  rintro e w3 ⟨g, rfl, hown, hb3⟩
  have hpred : PredO w2 w.heap.size (fun x => clockHas m x.id) := fun V x A c hV hx => bagLess1 x A C c d w.heap.size m V hx hm (hC.bl (hbw2.trans hV)) (kA.out V (hbW2.trans hV))
  have hdel := hide (opDeleteFunc g w.heap.size l.length l (fun x => clockHas m x.id) w2 w3 rfl hb3 hsml.out.1 hown hpred)
  rw [← e1.out] at hdel
  clear hpred hown y1 hy1
  go_wp2_with fail
  refine hdel.out.mono ?_
  rintro e w4 ⟨c4, rfl, q1, q2, hr4, hb4⟩
  go_wp2_with fail
  go_ret2
  exact ⟨_, c4, rfl, q1, q2, hr4.more hbw2.size, hbw2.trans hb4⟩

/-! ### bag.Find -/
def zeroOp : Op := ⟨0, ⟨0, 0⟩, [], 0⟩
def findB11 (l : List Op) (s : Id) : Bool := bagMay l && hasId l s
def findO (l : List Op) (s : Id) : Op := if findB11 l s then (l[posOf l s]?).getD zeroOp else zeroOp
/-- What hands back an operation, and a bool. -/
def OpB (x : Op) (b : Bool) (w : World) (e : Ending) (w' : World) : Prop := ∃ A c, e = .returned (.tuple #[.agg #[.int .u8 x.kind, .int .u32 x.id.t, .int .u8 x.id.r, .slice A x.pl.length c, .int .i64 x.pt], .bool b]) ∧ x.pl.length ≤ c ∧ c ≤ maxLen ∧ R cRun w.heap.size w' A x.pl ∧ Bl w w'
theorem has_pos {l : List Op} {s : Id} (hs : Srt l) (h : hasId l s = true) : ∃ x, l[posOf l s]? = some x ∧ x.id = s := by
  obtain ⟨x, hx, e⟩ := hasId_true h
  obtain ⟨k, hk⟩ := List.getElem?_of_mem hx
  have hcut : Cut l s k := ⟨fun j y hj hy => by rw [← e]; exact hs.get hy hk hj, fun j y hj hy => by
    by_cases h1 : j = k
    · subst h1; rw [hk] at hy; cases hy; rw [e]; exact idLess_irr s
    · have := hs.get hk hy (by omega)
      rw [e] at this
      exact idLess_as this⟩
  have hkl := (List.getElem?_eq_some_iff.1 hk).1
  rw [hcut.pos (by omega)]
  exact ⟨x, hk, e⟩

set_option maxRecDepth 100000 in
set_option maxHeartbeats 2000000 in
theorem bagFind (A : Option Addr) (c : Nat) (l : List Op) (s : Id) (w : World) (hl : l.length ≤ maxLen) (hs : s.ok) (hA : R cOp 0 w A l) :
    Calls Try.prog 18 #[.slice A l.length c, .agg #[.int .u32 s.t, .int .u8 s.r]] w (OpB (findO l s) (findB11 l s) w) := by
  obtain ⟨W, hW⟩ : ∃ W, W = (w.alloc (.cells #[Value.int IntKind.u32 s.t, Value.int IntKind.u8 s.r] 30)).alloc (.cells #[Value.int IntKind.u8 0, Value.int IntKind.u32 0, Value.int IntKind.u8 0, Value.slice none 0 0, Value.int IntKind.i64 0] 33) := ⟨_, rfl⟩
  have hbW : Bl w W := by rw [hW]; exact ((Bl.refl _).alloc _).alloc _
  have at0 : IdBox W w.heap.size s := by rw [hW]; exact (IdBox.new w s _).bl ((Bl.refl _).alloc _)
  have at1 : OpBox W (w.heap.size + 1) zeroOp none 0 := by
    rw [hW]
    have := OpBox.new (w.alloc (.cells #[Value.int IntKind.u32 s.t, Value.int IntKind.u8 s.r] 30)) zeroOp none 0 33
    rw [World.size_alloc] at this
    exact this
  have hchk := fun V (hb : Bl W V) => bagCheck A c l V hl (hA.bl (hbW.trans hb))
  obtain ⟨x, hx⟩ : ∃ x, x = findO l s := ⟨_, rfl⟩
  obtain ⟨b, hb⟩ : ∃ b, b = findB11 l s := ⟨_, rfl⟩
  rw [← hx, ← hb]
  have hzero : ∀ V, Bl W V → OpB zeroOp false w (.returned (.tuple #[.agg #[.int .u8 zeroOp.kind, .int .u32 zeroOp.id.t, .int .u8 zeroOp.id.r, .slice none zeroOp.pl.length 0, .int .i64 zeroOp.pt], .bool false])) (((((V.setCell ⟨w.heap.size + 1, 0, none⟩ (.int .u8 0)).setCell ⟨w.heap.size + 1, 1, none⟩ (.int .u32 0)).setCell ⟨w.heap.size + 1, 2, none⟩ (.int .u8 0)).setCell ⟨w.heap.size + 1, 3, none⟩ (.slice none 0 0)).setCell ⟨w.heap.size + 1, 4, none⟩ (.int .i64 0)) := fun V hV =>
    ⟨none, 0, rfl, Nat.le_refl _, Nat.zero_le _, R.nil, (((((hbW.trans hV).setCell (by simp) _).setCell (by simp) _).setCell (by simp) _).setCell (by simp) _).setCell (by simp) _⟩
  replace hzero := hide hzero
  cases h1 : bagMay l
  · have e1 : b = false := by rw [hb]; unfold findB11; rw [h1]; rfl
    have e2 : x = zeroOp := by rw [hx]; unfold findO; rw [← hb, e1]; rfl
    subst e1 e2
    rw [h1, okOr_false] at hchk
    replace hchk := hide hchk
    clear hx hb h1
    go_enter Try.func18, Try.ntmps18
    go_wp2_with fail
    rw [← hW]
    clear hW
    refine (hchk.out _ (Bl.refl _)).mono ?_
    rintro e w1 ⟨rfl, hb1⟩
    obtain ⟨y0, y1, y2, y3, y4⟩ := (at1.bl hb1).cells
    obtain ⟨f0, f1, f2, f3, f4⟩ := (at1.bl hb1).frozens
    have hyl := (at1.bl hb1).lt
    go_wp2_with fail
    refine bodyPost_ret (v := .tuple #[.agg #[.int .u8 0, .int .u32 0, .int .u8 0, .slice none 0 0, .int .i64 0], .bool false]) (by simp [results, Try.results18, go_sem, y0, y1, y2, y3, y4]) rfl ?_
    exact hzero.out w1 hb1
  rw [h1, okOr_true] at hchk
  replace hchk := hide hchk
  obtain ⟨hl1, hsrt, hall⟩ := bagMay_parts h1
  have hwh := fun V (hb : Bl W V) => bagWhere A c l s V (by omega) (hA.bl (hbW.trans hb)) hs hsrt
  cases h2 : hasId l s
  · have e1 : b = false := by rw [hb]; unfold findB11; rw [h1, h2]; rfl
    have e2 : x = zeroOp := by rw [hx]; unfold findO; rw [← hb, e1]; rfl
    subst e1 e2
    rw [h2] at hwh
    generalize posOf l s = p at hwh
    replace hwh := hide hwh
    clear hx hb h1 h2 hsrt hall
    go_enter Try.func18, Try.ntmps18
    go_wp2_with fail
    rw [← hW]
    clear hW
    refine (hchk.out _ (Bl.refl _)).mono ?_
    rintro e w1 ⟨rfl, hb1⟩
    obtain ⟨z0, z1, -, -⟩ := at0.bl hb1
    have hzl := (at0.bl hb1).lt
    go_wp2_with fail
    refine (hwh.out _ hb1).mono ?_
    rintro e w2 ⟨rfl, hb2⟩
    have hb12 := hb1.trans hb2
    obtain ⟨y0, y1, y2, y3, y4⟩ := (at1.bl hb12).cells
    obtain ⟨f0, f1, f2, f3, f4⟩ := (at1.bl hb12).frozens
    have hyl := (at1.bl hb12).lt
    clear z0 z1 hzl
    go_wp2_with fail
    refine bodyPost_ret (v := .tuple #[.agg #[.int .u8 0, .int .u32 0, .int .u8 0, .slice none 0 0, .int .i64 0], .bool false]) (by simp [results, Try.results18, go_sem, y0, y1, y2, y3, y4]) rfl ?_
    exact hzero.out w2 hb12
  · have e1 : b = true := by rw [hb]; unfold findB11; rw [h1, h2]; rfl
    obtain ⟨y, hy, hys⟩ := has_pos hsrt h2
    have e2 : x = y := by rw [hx]; unfold findO; rw [← hb, e1, hy]; rfl
    subst e1 e2
    rw [h2] at hwh
    have hxs := opMay_small (hall x (List.mem_of_getElem? hy))
    obtain ⟨blk, off, rfl, _, hbk⟩ := hA.addr (by have := (List.getElem?_eq_some_iff.1 hy).1; omega)
    obtain ⟨_, ho, S, sc, q1, q2, hS, c0, c1, c2, c3, c4⟩ := hA.op hy
    have hpl := (List.getElem?_eq_some_iff.1 hy).1
    generalize posOf l s = p at hwh c0 c1 c2 c3 c4 hpl hy
    have hpi : (p : Int) < (l.length : Int) := by omega
    replace hwh := hide hwh
    clear hx hb h1 h2 hsrt hall hys hy hzero
    have htw := hide (fun V (hV : Bl w V) => opTwin x S sc V (⟨ho, q1, q2, hS.bl hV⟩ : OpIn V x S sc) hxs)
    go_enter Try.func18, Try.ntmps18
    go_wp2_with fail
    rw [← hW]
    clear hW
    refine (hchk.out _ (Bl.refl _)).mono ?_
    rintro e w1 ⟨rfl, hb1⟩
    obtain ⟨z0, z1, -, -⟩ := at0.bl hb1
    have hzl := (at0.bl hb1).lt
    go_wp2_with fail
    refine (hwh.out _ hb1).mono ?_
    rintro e w2 ⟨rfl, hb2⟩
    have hb12 := hb1.trans hb2
    have hbw2 := hbW.trans hb12
    clear z0 z1 hzl
    replace c0 := (hbw2.cell hbk).trans c0
    replace c1 := (hbw2.cell hbk).trans c1
    replace c2 := (hbw2.cell hbk).trans c2
    replace c3 := (hbw2.cell hbk).trans c3
    replace c4 := (hbw2.cell hbk).trans c4
    have hkl := Nat.lt_of_lt_of_le hbk hbw2.size
    go_wp2_with fail
    refine (htw.out _ hbw2).mono ?_
    rintro e w3 ⟨A3, n3, rfl, r1, r2, hr3, hb3⟩
    have hb13 := hb12.trans hb3
    obtain ⟨y0, y1, y2, y3, y4⟩ := (at1.bl hb13).cells
    obtain ⟨f0, f1, f2, f3, f4⟩ := (at1.bl hb13).frozens
    have hyl := (at1.bl hb13).lt
    have hW1 := at1.lt
    clear c0 c1 c2 c3 c4
    go_wp2_with fail
    refine bodyPost_ret (v := .tuple #[.agg #[.int .u8 x.kind, .int .u32 x.id.t, .int .u8 x.id.r, .slice A3 x.pl.length n3, .int .i64 x.pt], .bool true]) (by simp [results, Try.results18, go_sem, y0, y1, y2, y3, y4]) rfl ?_
    refine ⟨A3, n3, rfl, r1, r2, ?_, ?_⟩
    · refine R.more (lo := w2.heap.size) ?_ hbw2.size
      have hlt1 : w.heap.size + 1 < w2.heap.size := Nat.lt_of_lt_of_le hW1 hb12.size
      repeat (refine R.set ?_ hlt1 _)
      exact hr3
    · have hbf := hbW.trans hb13
      repeat (refine Bl.setCell ?_ (by simp) _)
      exact hbf
end Go.Proofs.Ytedcopjpgijpjaa
