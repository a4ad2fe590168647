/-
  The walk of bag.Add.
-/
import Derived.Test.YtedcopjpgijpjaaBag4
namespace Go.Proofs.Ytedcopjpgijpjaa
open Go.RowKit Go.Shelf Go.Lib

def addN (l : List Op) (o : Op) : Int := if bagMay l && opMay o then (if hasId l o.id then 0 else if l.length = 1024 then 9 else 0) else 8
def addL (l : List Op) (o : Op) : List Op := if addN l o = 0 then (if hasId l o.id then l else l.take (posOf l o.id) ++ o :: l.drop (posOf l o.id)) else []

theorem opMay_small {x : Op} (h : opMay x = true) : x.pl.length ≤ 1048576 := by
  unfold opMay at h
  simp only [Bool.and_eq_true] at h
  have := placeMay_parts h.1.2
  omega
theorem bagMay_small {l : List Op} (h : bagMay l = true) : smallB l := by
  obtain ⟨h1, _, h2⟩ := bagMay_parts h
  exact ⟨by omega, fun x hx => opMay_small (h2 x hx)⟩

set_option maxRecDepth 100000 in
set_option maxHeartbeats 4000000 in
theorem bagAdd (A S : Option Addr) (c d : Nat) (l : List Op) (o : Op) (w : World) (hl : l.length ≤ maxLen) (hA : R cOp 0 w A l) (ho : OpIn w o S d) :
    Calls Try.prog 22 #[.slice A l.length c, .agg #[.int .u8 o.kind, .int .u32 o.id.t, .int .u8 o.id.r, .slice S o.pl.length d, .int .i64 o.pt]] w (New2 cOp (addL l o) (addN l o) w) := by
  have hchk := fun W (hb : Bl w W) => bagCheck A c l W hl (hA.bl hb)
  have hone := fun W (hb : Bl w W) => opCheck o S d W (ho.bl hb)
  obtain ⟨L, hL⟩ : ∃ L, L = addL l o := ⟨_, rfl⟩
  obtain ⟨N, hN⟩ : ∃ N, N = addN l o := ⟨_, rfl⟩
  rw [← hL, ← hN]
  have hV0 : Bl w (w.alloc (.cells #[Value.int IntKind.u8 o.kind, Value.int IntKind.u32 o.id.t, Value.int IntKind.u8 o.id.r, Value.slice S o.pl.length d, Value.int IntKind.i64 o.pt] 33)) := (Bl.refl _).alloc _
  have at0 := OpBox.new w o S d 33
  cases hm : bagMay l
  · have e2 : N = 8 := by rw [hN]; unfold addN; rw [hm]; rfl
    have e1 : L = [] := by rw [hL]; unfold addL; rw [← hN, e2]; rfl
    subst e1 e2
    rw [hm, okOr_false] at hchk
    replace hchk := hide hchk
    clear hL hN hm hone at0
    go_enter Try.func22, Try.ntmps22
    go_wp2_with fail
    refine (hchk.out _ hV0).mono ?_
    rintro e w1 ⟨rfl, hb1⟩
    go_wp2_with fail
    go_ret2
    exact ⟨none, 0, rfl, Nat.le_refl _, Nat.zero_le _, R.nil, hV0.trans hb1⟩
  rw [hm, okOr_true] at hchk
  replace hchk := hide hchk
  cases hmx : opMay o
  · have e2 : N = 8 := by rw [hN]; unfold addN; rw [hm, hmx]; rfl
    have e1 : L = [] := by rw [hL]; unfold addL; rw [← hN, e2]; rfl
    subst e1 e2
    rw [hmx, okOr_false] at hone
    replace hone := hide hone
    clear hL hN hm hmx
    go_enter Try.func22, Try.ntmps22
    go_wp2_with fail
    refine (hchk.out _ hV0).mono ?_
    rintro e w1 ⟨rfl, hb1⟩
    obtain ⟨x0, x1, x2, x3, x4⟩ := (at0.bl hb1).cells
    have hlx := (at0.bl hb1).lt
    go_wp2_with fail
    refine (hone.out _ (hV0.trans hb1)).mono ?_
    rintro e w2 ⟨rfl, hb2⟩
    go_wp2_with fail
    go_ret2
    exact ⟨none, 0, rfl, Nat.le_refl _, Nat.zero_le _, R.nil, (hV0.trans hb1).trans hb2⟩
  rw [hmx, okOr_true] at hone
  replace hone := hide hone
  obtain ⟨hl1024, hsrt, -⟩ := bagMay_parts hm
  have hsml := hide (bagMay_small hm)
  have hsmo := hide (opMay_small hmx)
  have hwh := fun W (hb : Bl w W) => bagWhere A c l o.id W (by omega) (hA.bl hb) ho.ok.2.1 hsrt
  have hput : N = if hasId l o.id then 0 else if l.length = 1024 then 9 else 0 := by rw [hN]; unfold addN; rw [hm, hmx]; rfl
  obtain ⟨p, hp⟩ : ∃ p, p = posOf l o.id := ⟨_, rfl⟩
  have hpl : p ≤ l.length := by rw [hp]; exact pos_le l o.id
  rw [← hp] at hwh
  have hLe : L = if N = 0 then (if hasId l o.id then l else l.take p ++ o :: l.drop p) else [] := by rw [hL, hN, hp]; rfl
  clear hm hmx hL hN hp
  cases hh : hasId l o.id
  · rw [hh] at hput hLe hwh
    by_cases h1024 : l.length = 1024
    · have e2 : N = 9 := by rw [hput, if_pos h1024]; rfl
      have e1 : L = [] := by rw [hLe, e2]; rfl
      subst e1 e2
      replace hwh := hide hwh
      have h65' : ((l.length : Int) == 1024) = true := by simp [h1024]
      clear hLe hput h1024 hl1024
      go_enter Try.func22, Try.ntmps22
      go_wp2_with fail
      refine (hchk.out _ hV0).mono ?_
      rintro e w1 ⟨rfl, hb1⟩
      obtain ⟨x0, x1, x2, x3, x4⟩ := (at0.bl hb1).cells
      have hlx := (at0.bl hb1).lt
      go_wp2_with fail
      refine (hone.out _ (hV0.trans hb1)).mono ?_
      rintro e w2 ⟨rfl, hb2⟩
      have hb12 := hb1.trans hb2
      clear x0 x1 x2 x3 x4 hlx
      obtain ⟨x0, x1, x2, x3, x4⟩ := (at0.bl hb12).cells
      have hlx := (at0.bl hb12).lt
      go_wp2_with fail
      refine (hwh.out _ (hV0.trans hb12)).mono ?_
      rintro e w3 ⟨rfl, hb3⟩
      go_wp2_with fail
      go_ret2
      exact ⟨none, 0, rfl, Nat.le_refl _, Nat.zero_le _, R.nil, (hV0.trans hb12).trans hb3⟩
    · have e2 : N = 0 := by rw [hput, if_neg h1024]; rfl
      have e1 : L = l.take p ++ o :: l.drop p := by rw [hLe, e2]; rfl
      replace e1 := hide e1
      subst e2
      replace hwh := hide hwh
      have h65' : ((l.length : Int) == 1024) = false := beq_eq_false_iff_ne.2 (by omega)
      clear hLe hput h1024
      go_enter Try.func22, Try.ntmps22
      go_wp2_with fail
      refine (hchk.out _ hV0).mono ?_
      rintro e w1 ⟨rfl, hb1⟩
      obtain ⟨x0, x1, x2, x3, x4⟩ := (at0.bl hb1).cells
      have hlx := (at0.bl hb1).lt
      go_wp2_with fail
      refine (hone.out _ (hV0.trans hb1)).mono ?_
      rintro e w2 ⟨rfl, hb2⟩
      have hb12 := hb1.trans hb2
      clear x0 x1 x2 x3 x4 hlx
      obtain ⟨x0, x1, x2, x3, x4⟩ := (at0.bl hb12).cells
      have hlx := (at0.bl hb12).lt
      go_wp2_with fail
      refine (hwh.out _ (hV0.trans hb12)).mono ?_
      rintro e w3 ⟨rfl, hb3⟩
      have hb13 := hb12.trans hb3
      have hw3 := hV0.trans hb13
      have hwz := hw3.size
      clear x0 x1 x2 x3 x4 hlx hwh hone hchk
      go_wp2_with fail
      have kA := hide (fun V (hV : Bl w3 V) => (at0.bl (hb13.trans hV)).cells)
      have hlx := (at0.bl hb13).lt
      obtain ⟨x0, x1, x2, x3, x4⟩ := kA.out w3 (Bl.refl _)
      have hrest : ∀ w4 g w5 A5 n5, Own cOp 33 w3.heap.size w4 (.slice (some ⟨g, 0, none⟩) l.length l.length) l → Bl w3 w4 → Bl w4 w5 → o.pl.length ≤ n5 → n5 ≤ maxLen → R cRun w4.heap.size w5 A5 o.pl →
          Calls Try.prog 50 #[.slice (some ⟨g, 0, none⟩) l.length l.length, .int .i64 p, .slice (some ⟨w5.heap.size, 0, none⟩) 1 1] (w5.alloc (.cells #[Value.int IntKind.u8 o.kind, Value.int IntKind.u32 o.id.t, Value.int IntKind.u8 o.id.r, Value.slice A5 o.pl.length n5, Value.int IntKind.i64 o.pt] 33)) (NewFrom cOp w3.heap.size L w5) := fun w4 g w5 A5 n5 hown hb4 hb5 k1 k2 hr => by
        have hgne : ∀ b, w4.heap.size ≤ b → (Value.slice (some ⟨g, 0, none⟩) l.length l.length).ownBlock ≠ some b := fun b hb e => by have := (hown.lt e).2; omega
        rw [e1.out]
        exact opInsertC w3.heap.size _ l p o A5 n5 w5 (hown.bl hb5) (by have := hb5.size; have := hb4.size; omega) hpl (by omega) ⟨ho.ok, A5, n5, k1, k2, rfl, hr.up fun b h => ⟨⟨by have := h.1; have := hb4.size; omega, h.2⟩, hgne b h.1⟩⟩
      replace hrest := hide hrest
      go_region_with (first
        | (go_at_call 31; refine (bagTwin A c l _ hsml.out (hA.bl hw3.drew)).mono ?_; rintro e w4 ⟨g, rfl, hown, hb40⟩; have hb4 : Bl w3 w4 := (Bl.refl w3).drew.trans hb40; clear hb40; obtain ⟨y0, y1, y2, y3, y4⟩ := kA.out w4 hb4)
        | (go_at_call 39; refine (opTwin o S d _ (ho.bl (hw3.trans hb4)) hsmo.out).mono ?_; rintro e w5 ⟨A5, n5, rfl, q1, q2, hr5, hb5⟩; obtain ⟨z0, z1, z2, z3, z4⟩ := kA.out w5 (hb4.trans hb5))
        | (go_at_call 50; refine (hrest.out w4 g w5 A5 n5 hown hb4 hb5 q1 q2 hr5).mono ?_; rintro e w6 ⟨A6, c6, rfl, j1, j2, hr6, hb6⟩))
      all_goals
        go_wp2_with fail
        go_ret2
        exact ⟨A6, c6, rfl, j1, j2, hr6.more hwz, Below.trans (B := w.heap.size) ((hw3.trans hb4).trans hb5) (Below.mono hb6 hwz)⟩
  · rw [hh] at hput hLe hwh
    have e2 : N = 0 := by rw [hput]; rfl
    have e1 : L = l := by rw [hLe, e2]; rfl
    replace hwh := hide hwh
    subst e1 e2
    clear hLe hput hh
    go_enter Try.func22, Try.ntmps22
    go_wp2_with fail
    refine (hchk.out _ hV0).mono ?_
    rintro e w1 ⟨rfl, hb1⟩
    obtain ⟨x0, x1, x2, x3, x4⟩ := (at0.bl hb1).cells
    have hlx := (at0.bl hb1).lt
    go_wp2_with fail
    refine (hone.out _ (hV0.trans hb1)).mono ?_
    rintro e w2 ⟨rfl, hb2⟩
    have hb12 := hb1.trans hb2
    clear x0 x1 x2 x3 x4 hlx
    obtain ⟨x0, x1, x2, x3, x4⟩ := (at0.bl hb12).cells
    have hlx := (at0.bl hb12).lt
    go_wp2_with fail
    refine (hwh.out _ (hV0.trans hb12)).mono ?_
    rintro e w3 ⟨rfl, hb3⟩
    have hw3 := (hV0.trans hb12).trans hb3
    go_wp2_with fail
    refine (bagTwin A c L _ hsml.out (hA.bl hw3)).mono ?_
    rintro e w4 ⟨g, rfl, hown, hb4⟩
    go_wp2_with fail
    go_ret2
    obtain ⟨A', c', ee, hr5, k1, k2⟩ := hown.reads
    injection ee with ee1 _ ee2
    subst ee1 ee2
    exact ⟨_, _, rfl, k1, k2, hr5.more hw3.size, hw3.trans hb4⟩
end Go.Proofs.Ytedcopjpgijpjaa
