/-
  The walk of bag.Add.
  The walks of bag.Same, and of the references Same of the layers 6, 9, 10.
  The walk of bag.Join.
-/
import Derived.Test.YtedcopjpgijpjaaBagA
import Derived.Test.YtedcopjpgijpjaaOp4
import Derived.WalkMore
namespace Go.Proofs.Ytedcopjpgijpjaa
open Go.RowKit Go.Shelf Go.Lib

def addN (l : List Op) (o : Op) : Int := if bagMay l && opMay o then (if hasId l o.id then 0 else if l.length = 1024 then 9 else 0) else 8
def addL (l : List Op) (o : Op) : List Op := if addN l o = 0 then (if hasId l o.id then l else l.take (posOf l o.id) ++ o :: l.drop (posOf l o.id)) else []

theorem opMay_small {x : Op} (h : opMay x = true) : x.pl.length ≤ 1048576 := by
  unfold opMay at h
  simp only [Bool.and_eq_true] at h
  have := placeMay_parts h.1.2
  omega
theorem bagMay_small {l : List Op} (h : bagMay l = true) : smallB l := by
  obtain ⟨h1, _, h2⟩ := bagMay_parts h
  exact ⟨by omega, fun x hx => opMay_small (h2 x hx)⟩

set_option maxRecDepth 100000 in
set_option maxHeartbeats 4000000 in
theorem bagAdd (A S : Option Addr) (c d : Nat) (l : List Op) (o : Op) (w : World) (hl : l.length ≤ maxLen) (hA : R cOp 0 w A l) (ho : OpIn w o S d) :
    Calls Try.prog 22 #[.slice A l.length c, .agg #[.int .u8 o.kind, .int .u32 o.id.t, .int .u8 o.id.r, .slice S o.pl.length d, .int .i64 o.pt]] w (New2 cOp (addL l o) (addN l o) w) := by
  have hchk := fun W (hb : Bl w W) => bagCheck A c l W hl (hA.bl hb)
  have hone := fun W (hb : Bl w W) => opCheck o S d W (ho.bl hb)
  obtain ⟨L, hL⟩ : ∃ L, L = addL l o := ⟨_, rfl⟩
  obtain ⟨N, hN⟩ : ∃ N, N = addN l o := ⟨_, rfl⟩
  rw [← hL, ← hN]
  have hV0 : Bl w (w.alloc (.cells #[Value.int IntKind.u8 o.kind, Value.int IntKind.u32 o.id.t, Value.int IntKind.u8 o.id.r, Value.slice S o.pl.length d, Value.int IntKind.i64 o.pt] 33)) := (Bl.refl _).alloc _
  have at0 := OpBox.new w o S d 33
  cases hm : bagMay l
  · have e2 : N = 8 := by rw [hN]; unfold addN; rw [hm]; rfl
    have e1 : L = [] := by rw [hL]; unfold addL; rw [← hN, e2]; rfl
    subst e1 e2
    rw [hm, okOr_false] at hchk
    replace hchk := hide hchk
    clear hL hN hm hone at0
    go_enter Try.func22, Try.ntmps22
    go_wp2_with fail
    refine (hchk.out _ hV0).mono ?_
    rintro e w1 ⟨rfl, hb1⟩
    go_wp2_with fail
    go_ret2
    exact ⟨none, 0, rfl, Nat.le_refl _, Nat.zero_le _, R.nil, hV0.trans hb1⟩
  rw [hm, okOr_true] at hchk
  replace hchk := hide hchk
  cases hmx : opMay o
  · have e2 : N = 8 := by rw [hN]; unfold addN; rw [hm, hmx]; rfl
    have e1 : L = [] := by rw [hL]; unfold addL; rw [← hN, e2]; rfl
    subst e1 e2
    rw [hmx, okOr_false] at hone
    replace hone := hide hone
    clear hL hN hm hmx
    go_enter Try.func22, Try.ntmps22
    go_wp2_with fail
    refine (hchk.out _ hV0).mono ?_
    rintro e w1 ⟨rfl, hb1⟩
    obtain ⟨x0, x1, x2, x3, x4⟩ := (at0.bl hb1).cells
    have hlx := (at0.bl hb1).lt
    go_wp2_with fail
    refine (hone.out _ (hV0.trans hb1)).mono ?_
    rintro e w2 ⟨rfl, hb2⟩
    go_wp2_with fail
    go_ret2
    exact ⟨none, 0, rfl, Nat.le_refl _, Nat.zero_le _, R.nil, (hV0.trans hb1).trans hb2⟩
  rw [hmx, okOr_true] at hone
  replace hone := hide hone
  obtain ⟨hl1024, hsrt, -⟩ := bagMay_parts hm
  have hsml := hide (bagMay_small hm)
  have hsmo := hide (opMay_small hmx)
  have hwh := fun W (hb : Bl w W) => bagWhere A c l o.id W (by omega) (hA.bl hb) ho.ok.2.1 hsrt
  have hput : N = if hasId l o.id then 0 else if l.length = 1024 then 9 else 0 := by rw [hN]; unfold addN; rw [hm, hmx]; rfl
  obtain ⟨p, hp⟩ : ∃ p, p = posOf l o.id := ⟨_, rfl⟩
  have hpl : p ≤ l.length := by rw [hp]; exact pos_le l o.id
  rw [← hp] at hwh
  have hLe : L = if N = 0 then (if hasId l o.id then l else l.take p ++ o :: l.drop p) else [] := by rw [hL, hN, hp]; rfl
  clear hm hmx hL hN hp
  cases hh : hasId l o.id
  · rw [hh] at hput hLe hwh
    by_cases h1024 : l.length = 1024
    · have e2 : N = 9 := by rw [hput, if_pos h1024]; rfl
      have e1 : L = [] := by rw [hLe, e2]; rfl
      subst e1 e2
      replace hwh := hide hwh
      have h65' : ((l.length : Int) == 1024) = true := by simp [h1024]
      clear hLe hput h1024 hl1024
      go_enter Try.func22, Try.ntmps22
      go_wp2_with fail
      refine (hchk.out _ hV0).mono ?_
      rintro e w1 ⟨rfl, hb1⟩
      obtain ⟨x0, x1, x2, x3, x4⟩ := (at0.bl hb1).cells
      have hlx := (at0.bl hb1).lt
      go_wp2_with fail
      refine (hone.out _ (hV0.trans hb1)).mono ?_
      rintro e w2 ⟨rfl, hb2⟩
      have hb12 := hb1.trans hb2
      clear x0 x1 x2 x3 x4 hlx
      obtain ⟨x0, x1, x2, x3, x4⟩ := (at0.bl hb12).cells
      have hlx := (at0.bl hb12).lt
      go_wp2_with fail
      refine (hwh.out _ (hV0.trans hb12)).mono ?_
      rintro e w3 ⟨rfl, hb3⟩
      go_wp2_with fail
      go_ret2
      exact ⟨none, 0, rfl, Nat.le_refl _, Nat.zero_le _, R.nil, (hV0.trans hb12).trans hb3⟩
    · have e2 : N = 0 := by rw [hput, if_neg h1024]; rfl
      have e1 : L = l.take p ++ o :: l.drop p := by rw [hLe, e2]; rfl
      replace e1 := hide e1
      subst e2
      replace hwh := hide hwh
      have h65' : ((l.length : Int) == 1024) = false := beq_eq_false_iff_ne.2 (by omega)
      clear hLe hput h1024
      go_enter Try.func22, Try.ntmps22
      go_wp2_with fail
      refine (hchk.out _ hV0).mono ?_
      rintro e w1 ⟨rfl, hb1⟩
      obtain ⟨x0, x1, x2, x3, x4⟩ := (at0.bl hb1).cells
      have hlx := (at0.bl hb1).lt
      go_wp2_with fail
      refine (hone.out _ (hV0.trans hb1)).mono ?_
      rintro e w2 ⟨rfl, hb2⟩
      have hb12 := hb1.trans hb2
      clear x0 x1 x2 x3 x4 hlx
      obtain ⟨x0, x1, x2, x3, x4⟩ := (at0.bl hb12).cells
      have hlx := (at0.bl hb12).lt
      go_wp2_with fail
      refine (hwh.out _ (hV0.trans hb12)).mono ?_
      rintro e w3 ⟨rfl, hb3⟩
      have hb13 := hb12.trans hb3
      have hw3 := hV0.trans hb13
      have hwz := hw3.size
      clear x0 x1 x2 x3 x4 hlx hwh hone hchk
      go_wp2_with fail
      have kA := hide (fun V (hV : Bl w3 V) => (at0.bl (hb13.trans hV)).cells)
      have hlx := (at0.bl hb13).lt
      obtain ⟨x0, x1, x2, x3, x4⟩ := kA.out w3 (Bl.refl _)
      have hrest : ∀ w4 g w5 A5 n5, Own cOp 33 w3.heap.size w4 (.slice (some ⟨g, 0, none⟩) l.length l.length) l → Bl w3 w4 → Bl w4 w5 → o.pl.length ≤ n5 → n5 ≤ maxLen → R cRun w4.heap.size w5 A5 o.pl →
          Calls Try.prog 50 #[.slice (some ⟨g, 0, none⟩) l.length l.length, .int .i64 p, .slice (some ⟨w5.heap.size, 0, none⟩) 1 1] (w5.alloc (.cells #[Value.int IntKind.u8 o.kind, Value.int IntKind.u32 o.id.t, Value.int IntKind.u8 o.id.r, Value.slice A5 o.pl.length n5, Value.int IntKind.i64 o.pt] 33)) (NewFrom cOp w3.heap.size L w5) := fun w4 g w5 A5 n5 hown hb4 hb5 k1 k2 hr => by
        have hgne : ∀ b, w4.heap.size ≤ b → (Value.slice (some ⟨g, 0, none⟩) l.length l.length).ownBlock ≠ some b := fun b hb e => by have := (hown.lt e).2; omega
        rw [e1.out]
        exact opInsertC w3.heap.size _ l p o A5 n5 w5 (hown.bl hb5) (by have := hb5.size; have := hb4.size; omega) hpl (by omega) ⟨ho.ok, A5, n5, k1, k2, rfl, hr.up fun b h => ⟨⟨by have := h.1; have := hb4.size; omega, h.2⟩, hgne b h.1⟩⟩
      replace hrest := hide hrest
      go_region_with (first
        | (go_at_call 31; refine (bagTwin A c l _ hsml.out (hA.bl hw3.drew)).mono ?_; rintro e w4 ⟨g, rfl, hown, hb40⟩; have hb4 : Bl w3 w4 := (Bl.refl w3).drew.trans hb40; clear hb40; obtain ⟨y0, y1, y2, y3, y4⟩ := kA.out w4 hb4)
        | (go_at_call 39; refine (opTwin o S d _ (ho.bl (hw3.trans hb4)) hsmo.out).mono ?_; rintro e w5 ⟨A5, n5, rfl, q1, q2, hr5, hb5⟩; obtain ⟨z0, z1, z2, z3, z4⟩ := kA.out w5 (hb4.trans hb5))
        | (go_at_call 50; refine (hrest.out w4 g w5 A5 n5 hown hb4 hb5 q1 q2 hr5).mono ?_; rintro e w6 ⟨A6, c6, rfl, j1, j2, hr6, hb6⟩))
      all_goals
        go_wp2_with fail
        go_ret2
        exact ⟨A6, c6, rfl, j1, j2, hr6.more hwz, Below.trans (B := w.heap.size) ((hw3.trans hb4).trans hb5) (Below.mono hb6 hwz)⟩
  · rw [hh] at hput hLe hwh
    have e2 : N = 0 := by rw [hput]; rfl
    have e1 : L = l := by rw [hLe, e2]; rfl
    replace hwh := hide hwh
    subst e1 e2
    clear hLe hput hh
    go_enter Try.func22, Try.ntmps22
    go_wp2_with fail
    refine (hchk.out _ hV0).mono ?_
    rintro e w1 ⟨rfl, hb1⟩
    obtain ⟨x0, x1, x2, x3, x4⟩ := (at0.bl hb1).cells
    have hlx := (at0.bl hb1).lt
    go_wp2_with fail
    refine (hone.out _ (hV0.trans hb1)).mono ?_
    rintro e w2 ⟨rfl, hb2⟩
    have hb12 := hb1.trans hb2
    clear x0 x1 x2 x3 x4 hlx
    obtain ⟨x0, x1, x2, x3, x4⟩ := (at0.bl hb12).cells
    have hlx := (at0.bl hb12).lt
    go_wp2_with fail
    refine (hwh.out _ (hV0.trans hb12)).mono ?_
    rintro e w3 ⟨rfl, hb3⟩
    have hw3 := (hV0.trans hb12).trans hb3
    go_wp2_with fail
    refine (bagTwin A c L _ hsml.out (hA.bl hw3)).mono ?_
    rintro e w4 ⟨g, rfl, hown, hb4⟩
    go_wp2_with fail
    go_ret2
    obtain ⟨A', c', ee, hr5, k1, k2⟩ := hown.reads
    injection ee with ee1 _ ee2
    subst ee1 ee2
    exact ⟨_, _, rfl, k1, k2, hr5.more hw3.size, hw3.trans hb4⟩
end Go.Proofs.Ytedcopjpgijpjaa

namespace Go.Proofs.Ytedcopjpgijpjaa
open Go.RowKit

set_option maxRecDepth 100000 in
set_option maxHeartbeats 1000000 in
theorem opEqualFunc (A B : Option Addr) (c d : Nat) (l m : List Op) (w : World) (hl : l.length ≤ maxLen) (_hm : m.length ≤ maxLen) (hA : R cOp 0 w A l) (hB : R cOp 0 w B m) :
    Calls Try.prog 40 #[.slice A l.length c, .slice B m.length d, .func (.func 20) #[] #[]] w fun e w' => e = .returned (.bool (same l m)) ∧ Bl w w' := by
  unfold maxLen at hl
  by_cases hne : l.length = m.length
  · have hne1 : ((l.length : Int) != (m.length : Int)) = false := by simp [hne]
    have hle : l.length ≤ m.length := by omega
    have hle' : m.length ≤ l.length := by omega
    clear hne
    go_enter Try.func40, Try.ntmps40
    go_wp2
    go_loopw [17] (fun i wr => Bl w wr ∧ ∃ k : Nat, k ≤ l.length ∧ i = .int .i64 k ∧ Hid (decide (l = m) = decide (l.drop k = m.drop k))) (fun i _ => l.length - (intOf i).toNat)
    case atStart => exact ⟨Bl.refl _, 0, Nat.zero_le _, rfl, rfl⟩
    case round =>
      obtain ⟨hbl, k, hk, rfl, hf⟩ := hrel
      by_cases hlt : k < l.length
      · have hR := hA.bl hbl
        have hS := hB.bl hbl
        obtain ⟨b, off, rfl, _, hb⟩ := hR.addr (by omega)
        obtain ⟨b', off', rfl, _, hb'⟩ := hS.addr (by omega)
        obtain ⟨x, hx⟩ := get_lt hlt
        obtain ⟨y, hy⟩ := get_lt (show k < m.length by omega)
        obtain ⟨_, ho, A1, a1, ha1, ha2, hA1, c0, c1, c2, c3, c4⟩ := hR.op hx
        obtain ⟨_, ho', B1, b1, hb1, hb2, hB1, d0, d1, d2, d3, d4⟩ := hS.op hy
        have hx := hide hx
        have hy := hide hy
        have hlt' : k < m.length := by omega
        have hxo : OpIn wr x A1 a1 := ⟨ho, ha1, ha2, hA1⟩
        have hyo : OpIn wr y B1 b1 := ⟨ho', hb1, hb2, hB1⟩
        have hcall := fun W (hW : Bl wr W) => opSame x y A1 B1 a1 b1 W (hxo.bl hW) (hyo.bl hW)
        cases hq : eqOp x y
        · have g := hide (drop_ne_step hf.out hx.out hy.out (eqOp_false hq))
          rw [hq] at hcall
          have hcall := hide hcall
          clear hq
          go_wp2_with (go_at_call 20; refine (hcall.out _ (((Bl.refl _).alloc _).alloc _)).mono ?_; rintro e w1 ⟨rfl, hbq⟩)
          go_ret
          exact ⟨ret_bool g.out, ((hbl.alloc _).alloc _).trans hbq⟩
        · have g := hide (drop_eq_step hf.out hx.out hy.out (eqOp_true hq))
          rw [hq] at hcall
          have hcall := hide hcall
          clear hq
          go_wp2_with (go_at_call 20; refine (hcall.out _ (((Bl.refl _).alloc _).alloc _)).mono ?_; rintro e w1 ⟨rfl, hbq⟩)
          go_roundw
          case rel => exact ⟨((hbl.alloc _).alloc _).trans hbq, k + 1, by omega, by go_num, g⟩
          case measure => simp [intOf]; omega
      · have hkl : l.length ≤ k := by omega
        go_wp2
        go_ret
        exact ⟨ret_bool (drop_eq_end hf.out hkl (by omega)), hbl⟩
  · have hne1 : ((l.length : Int) != (m.length : Int)) = true := by simp; omega
    go_enter Try.func40, Try.ntmps40
    go_wp2
    go_ret
    exact ⟨ret_bool (ne_of_length hne), Bl.refl _⟩

set_option maxHeartbeats 400000 in
theorem bagSame (A B : Option Addr) (c d : Nat) (l m : List Op) (w : World) (hl : l.length ≤ maxLen) (hm : m.length ≤ maxLen) (hA : R cOp 0 w A l) (hB : R cOp 0 w B m) :
    Calls Try.prog 14 #[.slice A l.length c, .slice B m.length d] w fun e w' => e = .returned (.bool (same l m)) ∧ Bl w w' := by
  go_enter Try.func14, Try.ntmps14
  go_wp2_with (go_at_call 40; refine (opEqualFunc A B c d l m _ hl hm hA hB).mono ?_; rintro e w' ⟨rfl, hb⟩)
  go_ret
  exact ⟨rfl, hb⟩

set_option maxHeartbeats 1000000 in
theorem refSame06 (A B : Option Addr) (c d : Nat) (l m : List Run) (w : World) (hl : l.length ≤ maxLen) (_hm : m.length ≤ maxLen) (hA : R cRun 0 w A l) (hB : R cRun 0 w B m) :
    Calls Try.prog 61 #[.slice A l.length c, .slice B m.length d] w fun e w' => e = .returned (.bool (same l m)) ∧ Bl w w' := by
  unfold maxLen at hl
  by_cases hne : l.length = m.length
  · have hne1 : ((l.length : Int) != (m.length : Int)) = false := by simp [hne]
    have hle : l.length ≤ m.length := by omega
    have hle' : m.length ≤ l.length := by omega
    clear hne
    go_enter Try.func61, Try.ntmps61
    go_wp2
    go_loopw [5] (fun i wr => Bl w wr ∧ ∃ k : Nat, k ≤ l.length ∧ i = .int .i64 k ∧ Hid (decide (l = m) = decide (l.drop k = m.drop k))) (fun i _ => l.length - (intOf i).toNat)
    case atStart => exact ⟨Bl.refl _, 0, Nat.zero_le _, rfl, rfl⟩
    case round =>
      obtain ⟨hbl, k, hk, rfl, hf⟩ := hrel
      by_cases hlt : k < l.length
      · have hR := hA.bl hbl
        have hS := hB.bl hbl
        obtain ⟨b, off, rfl, _, hb⟩ := hR.addr (by omega)
        obtain ⟨b', off', rfl, _, hb'⟩ := hS.addr (by omega)
        obtain ⟨x, hx⟩ := get_lt hlt
        obtain ⟨y, hy⟩ := get_lt (show k < m.length by omega)
        obtain ⟨_, ho, c0, c1, c2⟩ := hR.run hx
        obtain ⟨_, ho', d0, d1, d2⟩ := hS.run hy
        have C0 := fun p : Wd wr => Wd.cell c0 hb p
        have C1 := fun p : Wd wr => Wd.cell c1 hb p
        have C2 := fun p : Wd wr => Wd.cell c2 hb p
        have D0 := fun p : Wd wr => Wd.cell d0 hb' p
        have D1 := fun p : Wd wr => Wd.cell d1 hb' p
        have D2 := fun p : Wd wr => Wd.cell d2 hb' p
        clear c0 c1 c2 d0 d1 d2
        have hx := hide hx
        have hy := hide hy
        have hi : (k : Int) < (l.length : Int) := by omega
        have hi' : (k : Int) < (m.length : Int) := by omega
        have hne := run_neqRun x y
        cases hq : neqRun x y
        · have g := hide (drop_eq_step hf.out hx.out hy.out (neqRun_false hq))
          rw [hq] at hne
          clear hq
          go_wp2
          (refine wp_region_wd (by kernel_rfl) (by kernel_rfl) ?_
           repeat (go_big_quiet_step ((fail)))
           refine wpQuiet_nil ?_
           intro w2 hw'
           obtain ⟨⟨wx, hb2⟩, hw''⟩ := hw'
           subst hw'')
          go_wp2
          go_roundw
          case rel => exact ⟨hbl.trans hb2, k + 1, by omega, by go_num, g⟩
          case measure => simp [intOf]; omega
        · have g := hide (drop_ne_step hf.out hx.out hy.out (neqRun_true hq))
          rw [hq] at hne
          clear hq
          go_wp2
          (refine wp_region_wd (by kernel_rfl) (by kernel_rfl) ?_
           repeat (go_big_quiet_step ((fail)))
           refine wpQuiet_nil ?_
           intro w2 hw'
           obtain ⟨⟨wx, hb2⟩, hw''⟩ := hw'
           subst hw'')
          go_wp2
          go_ret
          exact ⟨ret_bool g.out, hbl.trans hb2⟩
      · have hkl : l.length ≤ k := by omega
        go_wp2
        go_ret
        exact ⟨ret_bool (drop_eq_end hf.out hkl (by omega)), hbl⟩
  · have hne1 : ((l.length : Int) != (m.length : Int)) = true := by simp; omega
    go_enter Try.func61, Try.ntmps61
    go_wp2
    go_ret
    exact ⟨ret_bool (ne_of_length hne), Bl.refl _⟩

theorem eqOp_parts9 (x y : Op) : eqOp x y = (x.kind == y.kind && (!neqId x.id y.id && (same x.pl y.pl && x.pt == y.pt))) := by
  rw [eqOp_parts, Bool.and_comm (x.pt == y.pt)]

set_option maxRecDepth 100000 in
set_option maxHeartbeats 2000000 in
theorem refSame09 (x y : Op) (A B : Option Addr) (c d : Nat) (w : World) (hx : OpIn w x A c) (hy : OpIn w y B d) :
    Calls Try.prog 32 #[.agg #[.int .u8 x.kind, .int .u32 x.id.t, .int .u8 x.id.r, .slice A x.pl.length c, .int .i64 x.pt], .agg #[.int .u8 y.kind, .int .u32 y.id.t, .int .u8 y.id.r, .slice B y.pl.length d, .int .i64 y.pt]] w fun e w' => e = .returned (.bool (eqOp x y)) ∧ Bl w w' := by
  obtain ⟨T, hT⟩ : ∃ T, T = eqOp x y := ⟨_, rfl⟩
  rw [← hT]
  rw [eqOp_parts9] at hT
  have heq := run_eqId x.id y.id
  obtain ⟨W, hW⟩ : ∃ W, W = (w.alloc (.cells #[Value.int IntKind.u8 x.kind, Value.int IntKind.u32 x.id.t, Value.int IntKind.u8 x.id.r, Value.slice A x.pl.length c, Value.int IntKind.i64 x.pt] 33)).alloc (.cells #[Value.int IntKind.u8 y.kind, Value.int IntKind.u32 y.id.t, Value.int IntKind.u8 y.id.r, Value.slice B y.pl.length d, Value.int IntKind.i64 y.pt] 33) := ⟨_, rfl⟩
  have hbW : Bl w W := by rw [hW]; exact ((Bl.refl _).alloc _).alloc _
  have at0 : OpBox W w.heap.size x A c := by rw [hW]; exact (OpBox.new w x A c _).bl ((Bl.refl _).alloc _)
  have at1 : OpBox W (w.heap.size + 1) y B d := by
    rw [hW]
    have := OpBox.new (w.alloc (.cells #[Value.int IntKind.u8 x.kind, Value.int IntKind.u32 x.id.t, Value.int IntKind.u8 x.id.r, Value.slice A x.pl.length c, Value.int IntKind.i64 x.pt] 33)) y B d 33
    rw [World.size_alloc] at this
    exact this
  have hbl : ∀ o1 o2, Bl w ((w.alloc o1).alloc o2) := fun _ _ => ((Bl.refl _).alloc _).alloc _
  have hs := hide (refSame06 A B c d x.pl y.pl W hx.small hy.small (hx.hR.bl hbW) (hy.hR.bl hbW))
  cases h1 : (x.kind == y.kind)
  · rw [h1] at hT
    have g := hide (show false = T from hT.symm ▸ rfl)
    clear hT
    go_enter Try.func32, Try.ntmps32
    go_wp2_with fail
    go_ret
    exact ⟨ret_bool g.out, hbl _ _⟩
  rw [h1] at hT
  cases h2 : neqId x.id y.id
  rotate_left
  · rw [h2] at hT heq
    have g := hide (show false = T from hT.symm ▸ rfl)
    clear hT h2
    go_enter Try.func32, Try.ntmps32
    go_wp2_with fail
    go_ret
    exact ⟨ret_bool g.out, hbl _ _⟩
  rw [h2] at hT heq
  clear h2
  have hT' : T = (same x.pl y.pl && x.pt == y.pt) := hT
  clear hT
  cases h3 : same x.pl y.pl
  · rw [h3] at hT' hs
    have g := hide (show false = T from hT'.symm ▸ rfl)
    clear hT' h3
    go_enter Try.func32, Try.ntmps32
    go_wp2_with fail
    rw [← hW]
    clear hW
    refine hs.out.mono ?_
    rintro e w1 ⟨rfl, hb1⟩
    go_wp2_with fail
    go_ret
    exact ⟨ret_bool g.out, hbW.trans hb1⟩
  · rw [h3] at hT' hs
    have hT2 : (x.pt == y.pt) = T := by rw [hT']; rfl
    clear hT' h3
    go_enter Try.func32, Try.ntmps32
    go_wp2_with fail
    rw [← hW]
    clear hW
    refine hs.out.mono ?_
    rintro e w1 ⟨rfl, hb1⟩
    obtain ⟨x0, x1, x2, x3, x4⟩ := (at0.bl hb1).cells
    obtain ⟨y0, y1, y2, y3, y4⟩ := (at1.bl hb1).cells
    have hl0 := (at0.bl hb1).lt
    have hl1 := (at1.bl hb1).lt
    go_wp2_with fail
    go_ret
    exact ⟨rfl, hbW.trans hb1⟩

set_option maxRecDepth 100000 in
set_option maxHeartbeats 1000000 in
theorem refSame10 (A B : Option Addr) (c d : Nat) (l m : List Op) (w : World) (hl : l.length ≤ maxLen) (_hm : m.length ≤ maxLen) (hA : R cOp 0 w A l) (hB : R cOp 0 w B m) :
    Calls Try.prog 36 #[.slice A l.length c, .slice B m.length d] w fun e w' => e = .returned (.bool (same l m)) ∧ Bl w w' := by
  unfold maxLen at hl
  by_cases hne : l.length = m.length
  · have hne1 : ((l.length : Int) != (m.length : Int)) = false := by simp [hne]
    have hle : l.length ≤ m.length := by omega
    have hle' : m.length ≤ l.length := by omega
    clear hne
    go_enter Try.func36, Try.ntmps36
    go_wp2
    go_loopw [5] (fun i wr => Bl w wr ∧ ∃ k : Nat, k ≤ l.length ∧ i = .int .i64 k ∧ Hid (decide (l = m) = decide (l.drop k = m.drop k))) (fun i _ => l.length - (intOf i).toNat)
    case atStart => exact ⟨Bl.refl _, 0, Nat.zero_le _, rfl, rfl⟩
    case round =>
      obtain ⟨hbl, k, hk, rfl, hf⟩ := hrel
      by_cases hlt : k < l.length
      · have hR := hA.bl hbl
        have hS := hB.bl hbl
        obtain ⟨b, off, rfl, _, hb⟩ := hR.addr (by omega)
        obtain ⟨b', off', rfl, _, hb'⟩ := hS.addr (by omega)
        obtain ⟨x, hx⟩ := get_lt hlt
        obtain ⟨y, hy⟩ := get_lt (show k < m.length by omega)
        obtain ⟨_, ho, A1, a1, ha1, ha2, hA1, c0, c1, c2, c3, c4⟩ := hR.op hx
        obtain ⟨_, ho', B1, b1, hb1, hb2, hB1, d0, d1, d2, d3, d4⟩ := hS.op hy
        have C0 := fun p : Wd wr => Wd.cell c0 hb p
        have C1 := fun p : Wd wr => Wd.cell c1 hb p
        have C2 := fun p : Wd wr => Wd.cell c2 hb p
        have C3 := fun p : Wd wr => Wd.cell c3 hb p
        have C4 := fun p : Wd wr => Wd.cell c4 hb p
        have D0 := fun p : Wd wr => Wd.cell d0 hb' p
        have D1 := fun p : Wd wr => Wd.cell d1 hb' p
        have D2 := fun p : Wd wr => Wd.cell d2 hb' p
        have D3 := fun p : Wd wr => Wd.cell d3 hb' p
        have D4 := fun p : Wd wr => Wd.cell d4 hb' p
        clear c0 c1 c2 c3 c4 d0 d1 d2 d3 d4
        have hx := hide hx
        have hy := hide hy
        have hi : (k : Int) < (l.length : Int) := by omega
        have hi' : (k : Int) < (m.length : Int) := by omega
        have hxo : OpIn wr x A1 a1 := ⟨ho, ha1, ha2, hA1⟩
        have hyo : OpIn wr y B1 b1 := ⟨ho', hb1, hb2, hB1⟩
        have hcall := fun pw : Wd wr => refSame09 x y A1 B1 a1 b1 pw.v (hxo.bl pw.h) (hyo.bl pw.h)
        cases hq : eqOp x y
        · have g := hide (drop_ne_step hf.out hx.out hy.out (eqOp_false hq))
          rw [hq] at hcall
          have hcall := hide hcall
          clear hq
          go_wp2
          (refine wp_region_wd (by kernel_rfl) (by kernel_rfl) ?_
           repeat (go_big_quiet_step ((go_at_call 32; exact Calls.wd (hcall.out _))))
           refine wpQuiet_nil ?_
           intro w2 hw'
           obtain ⟨⟨wx, hb2⟩, hw''⟩ := hw'
           subst hw'')
          go_wp2
          go_ret
          exact ⟨ret_bool g.out, hbl.trans hb2⟩
        · have g := hide (drop_eq_step hf.out hx.out hy.out (eqOp_true hq))
          rw [hq] at hcall
          have hcall := hide hcall
          clear hq
          go_wp2
          (refine wp_region_wd (by kernel_rfl) (by kernel_rfl) ?_
           repeat (go_big_quiet_step ((go_at_call 32; exact Calls.wd (hcall.out _))))
           refine wpQuiet_nil ?_
           intro w2 hw'
           obtain ⟨⟨wx, hb2⟩, hw''⟩ := hw'
           subst hw'')
          go_wp2
          go_roundw
          case rel => exact ⟨hbl.trans hb2, k + 1, by omega, by go_num, g⟩
          case measure => simp [intOf]; omega
      · have hkl : l.length ≤ k := by omega
        go_wp2
        go_ret
        exact ⟨ret_bool (drop_eq_end hf.out hkl (by omega)), hbl⟩
  · have hne1 : ((l.length : Int) != (m.length : Int)) = true := by simp; omega
    go_enter Try.func36, Try.ntmps36
    go_wp2
    go_ret
    exact ⟨ret_bool (ne_of_length hne), Bl.refl _⟩
end Go.Proofs.Ytedcopjpgijpjaa

namespace Go.Proofs.Ytedcopjpgijpjaa
open Go.RowKit Go.Shelf Go.Lib

/-- Two bags, merged; of two with one stamp the first one's. -/
def mergeF : Nat → List Op → List Op → List Op
  | 0, _, _ => []
  | _ + 1, [], [] => []
  | n + 1, [], y :: b => y :: mergeF n [] b
  | n + 1, x :: a, [] => x :: mergeF n a []
  | n + 1, x :: a, y :: b => if idLess x.id y.id then x :: mergeF n a (y :: b) else if idLess y.id x.id then y :: mergeF n (x :: a) b else x :: mergeF n a b
theorem mergeF_nil (n : Nat) : mergeF n [] [] = [] := by cases n <;> rfl
def joinM (a b : List Op) : List Op := mergeF (a.length + b.length) a b
def joinN (a b : List Op) : Int := if bagMay a && bagMay b then (if 1024 < (joinM a b).length then 9 else 0) else 8
def joinL (a b : List Op) : List Op := if joinN a b = 0 then joinM a b else []
def sliceLen : Value → Nat
  | .slice _ n _ => n
  | _ => 0
theorem cons_drop1 {l : List Op} {x : Op} (h : l[0]? = some x) : l = x :: l.drop 1 := by
  cases l with
  | nil => simp at h
  | cons y r => simp at h; subst h; rfl

theorem tail_R {lo : Nat} {w : World} {blk off d' : Nat} {b' : List Op} (hB : R cOp lo w (some ⟨blk, off, none⟩) b') (hd : b'.length ≤ d') : R cOp lo w (if d' = 1 then some ⟨blk, off, none⟩ else some ⟨blk, off + 5, none⟩) (b'.drop 1) := by
  by_cases h : d' = 1
  · rw [if_pos h, List.drop_eq_nil_of_le (by omega)]
    exact R.nil
  · rw [if_neg h]
    have := hB.sub 1 (b'.length - 1)
    rw [Option.map_some, add_plain', List.take_of_length_le (by rw [List.length_drop]; exact Nat.le_refl _)] at this
    exact this

/-- How the loop stands. -/
def JoinRel (w w2 : World) (J : List Op) (s0 s1 s4 : Value) (wr : World) : Prop :=
  Bl w2 wr ∧ ∃ (f : Nat) (a' b' acc : List Op) (A' B' : Option Addr) (c' d' : Nat), s0 = .slice A' a'.length c' ∧ s1 = .slice B' b'.length d' ∧ a'.length ≤ c' ∧ c' ≤ maxLen ∧ b'.length ≤ d' ∧ d' ≤ maxLen ∧ R cOp 0 w A' a' ∧ R cOp 0 w B' b' ∧
      Hid ((∀ x ∈ a', x.pl.length ≤ 1048576) ∧ ∀ x ∈ b', x.pl.length ≤ 1048576) ∧ a'.length + b'.length ≤ f ∧ acc.length + f ≤ 2048 ∧ Own cOp 33 w2.heap.size wr s4 acc ∧ Hid (J = acc ++ mergeF f a' b')

set_option maxRecDepth 100000 in
set_option maxHeartbeats 4000000 in
theorem bagJoin (A B : Option Addr) (c d : Nat) (a b : List Op) (w : World) (hac : a.length ≤ c) (hcm : c ≤ maxLen) (hbd : b.length ≤ d) (hdm : d ≤ maxLen) (hA : R cOp 0 w A a) (hB : R cOp 0 w B b) :
    Calls Try.prog 13 #[.slice A a.length c, .slice B b.length d] w (New2 cOp (joinL a b) (joinN a b) w) := by
  have hchkA := fun W (hb : Bl w W) => bagCheck A c a W (Nat.le_trans hac hcm) (hA.bl hb)
  have hchkB := fun W (hb : Bl w W) => bagCheck B d b W (Nat.le_trans hbd hdm) (hB.bl hb)
  obtain ⟨L, hL⟩ : ∃ L, L = joinL a b := ⟨_, rfl⟩
  obtain ⟨N, hN⟩ : ∃ N, N = joinN a b := ⟨_, rfl⟩
  rw [← hL, ← hN]
  cases hma : bagMay a
  · have e2 : N = 8 := by rw [hN]; unfold joinN; rw [hma]; rfl
    have e1 : L = [] := by rw [hL]; unfold joinL; rw [← hN, e2]; rfl
    subst e1 e2
    rw [hma, okOr_false] at hchkA
    replace hchkA := hide hchkA
    clear hL hN hma hchkB
    go_enter Try.func13, Try.ntmps13
    go_wp2_with fail
    go_step3
    go_wp2_with fail
    refine (hchkA.out _ (Bl.refl _)).mono ?_
    rintro e w1 ⟨rfl, hb1⟩
    go_wp2_with fail
    rw [Exit.noGoto_ret]
    go_ret2
    exact ⟨none, 0, rfl, Nat.le_refl _, Nat.zero_le _, R.nil, hb1⟩
  rw [hma, okOr_true] at hchkA
  replace hchkA := hide hchkA
  cases hmb : bagMay b
  · have e2 : N = 8 := by rw [hN]; unfold joinN; rw [hmb, Bool.and_false]; rfl
    have e1 : L = [] := by rw [hL]; unfold joinL; rw [← hN, e2]; rfl
    subst e1 e2
    rw [hmb, okOr_false] at hchkB
    replace hchkB := hide hchkB
    clear hL hN hma hmb
    go_enter Try.func13, Try.ntmps13
    go_wp2_with fail
    go_step3
    go_wp2_with fail
    refine (hchkA.out _ (Bl.refl _)).mono ?_
    rintro e w1 ⟨rfl, hb1⟩
    go_wp2_with fail
    refine (hchkB.out _ hb1).mono ?_
    rintro e w2 ⟨rfl, hb2⟩
    go_wp2_with fail
    rw [Exit.noGoto_ret]
    go_ret2
    exact ⟨none, 0, rfl, Nat.le_refl _, Nat.zero_le _, R.nil, hb1.trans hb2⟩
  rw [hmb, okOr_true] at hchkB
  replace hchkB := hide hchkB
  have hla := (bagMay_parts hma).1
  have hlb := (bagMay_parts hmb).1
  have hsa := hide ((bagMay_small hma).2)
  have hsb := hide ((bagMay_small hmb).2)
  have hN' := hide (show N = if 1024 < (joinM a b).length then 9 else 0 by rw [hN]; unfold joinN; rw [hma, hmb]; rfl)
  have hL' := hide (show L = if N = 0 then joinM a b else [] by rw [hL, hN]; rfl)
  clear hN hL hma hmb
  obtain ⟨n, hn⟩ : ∃ n, n = a.length + b.length := ⟨_, rfl⟩
  obtain ⟨i0, hi, hz0, hz1, hz2⟩ := info_parts Try.infoOp
  have hmk : ∀ V, (Instr.makeSlice 22 (.int .i64 0) (.int .i64 (n : Int))).run Try.prog V = .ok (.slice (some ⟨V.heap.size, 0, none⟩) 0 n) (V.alloc (.cells (madeCells #[Value.int IntKind.u8 0, Value.int IntKind.u32 0, Value.int IntKind.u8 0, Value.slice none 0 0, Value.int IntKind.i64 0] (n * 5)) 33)) := by
    intro V
    have := run_make (P := Try.prog) V 22 33 i0 _ Try.underlying22 hi hz0 .i64 .i64 0 (n : Int) (by omega) (by omega) (by rw [hz2]; omega) (by omega)
    rw [hz1, Int.toNat_natCast] at this
    exact this
  have hni : (a.length : Int) + (b.length : Int) = (n : Int) := by omega
  have hn2 : n ≤ 2048 := by omega
  have hJ := hide (show joinM a b = [] ++ mergeF n a b by unfold joinM; rw [hn]; rfl)
  replace hn := hide hn
  go_enter Try.func13, Try.ntmps13
  go_wp2_with fail
  go_step3
  go_wp2_with fail
  refine (hchkA.out _ (Bl.refl _)).mono ?_
  rintro e w1 ⟨rfl, hb1⟩
  go_wp2_with fail
  refine (hchkB.out _ hb1).mono ?_
  rintro e w2 ⟨rfl, hb2⟩
  have hb02 := hb1.trans hb2
  have hown0 : Own cOp 33 w2.heap.size (w2.alloc (.cells (madeCells #[Value.int IntKind.u8 0, Value.int IntKind.u32 0, Value.int IntKind.u8 0, Value.slice none 0 0, Value.int IntKind.i64 0] (n * 5)) 33)) (.slice (some ⟨w2.heap.size, 0, none⟩) 0 n) [] :=
    ⟨[], World.ownsRow_made w2 _ n (Nat.le_refl _) (by unfold maxLen; omega) (by rw [size_madeCells]; rfl), rfl⟩
  have hbv := hb02.size
  go_wp2_with fail
  go_step3
  go_wp2_with fail
  clear hmk hni
  generalize joinM a b = J at hJ hN' hL'
  go_loopw [0, 1, 4] (fun s0 s1 s4 wr => JoinRel w w2 J s0 s1 s4 wr) (fun s0 s1 _ _ => sliceLen s0 + sliceLen s1)
  case atStart => exact ⟨(Bl.refl _).alloc _, n, a, b, [], A, B, c, d, rfl, rfl, hac, hcm, hbd, hdm, hA, hB, ⟨hsa.out, hsb.out⟩, by rw [hn.out]; exact Nat.le_refl _, by simpa using hn2, hown0, hJ.out⟩
  case round =>
    clear hchkA hchkB hown0 hJ hn hn2 hla hlb hA hB hac hcm hbd hdm
    clear hsa hsb
    obtain ⟨hbl, f, a', b', acc, A', B', c', d', rfl, rfl, hac, hcm, hbd, hdm, hA, hB, hsm, hlen, htot, hown, hJ⟩ := hrel
    have hblw : Bl w wr := hb02.trans hbl
    have hzr := hbl.size
    by_cases ha0 : 0 < a'.length
    · obtain ⟨x, hx⟩ := get_lt ha0
      obtain ⟨blk, off, rfl, _, hbk⟩ := hA.addr ha0
      obtain ⟨_, ho, S, sc, s1, s2, hS, c0, c1, c2, c3, c4⟩ := hA.op hx
      simp only [Nat.zero_mul, Nat.add_zero] at c0 c1 c2 c3 c4
      have hai : (0 : Int) < (a'.length : Int) := by omega
      have hai1 : (1 : Int) ≤ (a'.length : Int) := by omega
      have kA := hide (fun V (hV : Bl w V) => (⟨(hV.cell hbk).trans c0, (hV.cell hbk).trans c1, (hV.cell hbk).trans c2, (hV.cell hbk).trans c3, (hV.cell hbk).trans c4⟩ : V.cell? ⟨blk, off, none⟩ = some (.int .u8 x.kind) ∧ V.cell? ⟨blk, off + 1, none⟩ = some (.int .u32 x.id.t) ∧ V.cell? ⟨blk, off + 2, none⟩ = some (.int .u8 x.id.r) ∧ V.cell? ⟨blk, off + 3, none⟩ = some (.slice S x.pl.length sc) ∧ V.cell? ⟨blk, off + 4, none⟩ = some (.int .i64 x.pt)))
      have hys := hsm.out.1 x (List.mem_of_getElem? hx)
      obtain ⟨f', rfl⟩ : ∃ f', f = f' + 1 := ⟨f - 1, by omega⟩
      have htot' : acc.length ≤ 2047 := by omega
      by_cases hb0 : 0 < b'.length
      · obtain ⟨y, hy⟩ := get_lt hb0
        obtain ⟨blk', off', rfl, _, hbk'⟩ := hB.addr hb0
        obtain ⟨_, ho', S', sc', s1', s2', hS', d0, d1, d2, d3, d4⟩ := hB.op hy
        simp only [Nat.zero_mul, Nat.add_zero] at d0 d1 d2 d3 d4
        have hbi : (0 : Int) < (b'.length : Int) := by omega
        have hbi1 : (1 : Int) ≤ (b'.length : Int) := by omega
        have kB := hide (fun V (hV : Bl w V) => (⟨(hV.cell hbk').trans d0, (hV.cell hbk').trans d1, (hV.cell hbk').trans d2, (hV.cell hbk').trans d3, (hV.cell hbk').trans d4⟩ : V.cell? ⟨blk', off', none⟩ = some (.int .u8 y.kind) ∧ V.cell? ⟨blk', off' + 1, none⟩ = some (.int .u32 y.id.t) ∧ V.cell? ⟨blk', off' + 2, none⟩ = some (.int .u8 y.id.r) ∧ V.cell? ⟨blk', off' + 3, none⟩ = some (.slice S' y.pl.length sc') ∧ V.cell? ⟨blk', off' + 4, none⟩ = some (.int .i64 y.pt)))
        have hys' := hsm.out.2 y (List.mem_of_getElem? hy)
        have hkr := Nat.lt_of_lt_of_le hbk hblw.size
        have hkr' := Nat.lt_of_lt_of_le hbk' hblw.size
        have C1 := fun p : Wd wr => Wd.cell (kA.out wr hblw).2.1 hkr p
        have C2 := fun p : Wd wr => Wd.cell (kA.out wr hblw).2.2.1 hkr p
        have D1 := fun p : Wd wr => Wd.cell (kB.out wr hblw).2.1 hkr' p
        have D2 := fun p : Wd wr => Wd.cell (kB.out wr hblw).2.2.1 hkr' p
        have hord := fun pw : Wd wr => bagOrder x.id y.id pw.v ho.2.1 ho'.2.1
        cases e1 : idLess x.id y.id
        · cases e2 : idLess y.id x.id
          · -- one stamp
            rw [show idCmp x.id y.id = 0 by unfold idCmp; rw [e1, e2]; rfl] at hord
            replace hord := hide hord
            have hmf : mergeF (f' + 1) a' b' = x :: mergeF f' (a'.drop 1) (b'.drop 1) := by
              conv => lhs; rw [cons_drop1 hx, cons_drop1 hy]
              rw [mergeF, e1, e2]; rfl
            have hrel : ∀ v4 w4, Bl w2 w4 → Own cOp 33 w2.heap.size w4 v4 (acc ++ [x]) → JoinRel w w2 J (.slice (if c' = 1 then some ⟨blk, off, none⟩ else some ⟨blk, off + 5, none⟩) (a'.length - 1) (c' - 1)) (.slice (if d' = 1 then some ⟨blk', off', none⟩ else some ⟨blk', off' + 5, none⟩) (b'.length - 1) (d' - 1)) v4 w4 := fun v4 w4 hb4 hown4 =>
              ⟨hb4, f', a'.drop 1, b'.drop 1, acc ++ [x], _, _, c' - 1, d' - 1, by rw [List.length_drop], by rw [List.length_drop], by rw [List.length_drop]; omega, by omega, by rw [List.length_drop]; omega, by omega, tail_R hA hac, tail_R hB hbd, ⟨fun x hx => hsm.out.1 x (List.mem_of_mem_drop hx), fun x hx => hsm.out.2 x (List.mem_of_mem_drop hx)⟩, by rw [List.length_drop, List.length_drop]; omega, by rw [List.length_append, List.length_singleton]; omega, hown4, by rw [hJ.out, hmf, List.append_assoc]; rfl⟩
            replace hrel := hide hrel
            replace hx := hide hx
            replace hy := hide hy
            clear hmf hsm hJ hlen htot c0 c1 c2 c3 c4 d0 d1 d2 d3 d4 e1 e2
            have hbd' : b'.length ≤ d' := hbd
            by_cases hc1 : c' = 1
            · rw [if_pos hc1, show a'.length - 1 = 0 by omega, show c' - 1 = 0 by omega] at hrel
              subst hc1
              by_cases hd1 : d' = 1
              · rw [if_pos hd1, show b'.length - 1 = 0 by omega, show d' - 1 = 0 by omega] at hrel
                subst hd1
                go_wp2_with fail
                (refine wp_region_wd (by kernel_rfl) (by kernel_rfl) ?_
                 repeat (go_big_quiet_step ((go_at_call 38; exact Calls.wd (hord.out _))))
                 refine wpQuiet_nil ?_
                 intro w5 hw'
                 obtain ⟨⟨wx, hb5⟩, hw''⟩ := hw'
                 subst hw'')
                replace hblw := hblw.trans hb5
                replace hown := hown.bl hb5
                replace hbl := hbl.trans hb5
                replace hzr := hbl.size
                clear C1 C2 D1 D2
                go_wp2_with fail
                go_region_held3 (fun W' => W'.cell? ⟨blk, off, none⟩ = some (.int .u8 x.kind) ∧ W'.cell? ⟨blk, off + 1, none⟩ = some (.int .u32 x.id.t) ∧ W'.cell? ⟨blk, off + 2, none⟩ = some (.int .u8 x.id.r) ∧ W'.cell? ⟨blk, off + 3, none⟩ = some (.slice S x.pl.length sc) ∧ W'.cell? ⟨blk, off + 4, none⟩ = some (.int .i64 x.pt))
                  (first
                    | exact kA.out _ hblw.drew
                    | exact kA.out _ hblw
                    | exact kA.out _ hbl1
                    | exact kA.out _ (hbl1.alloc _)
                    | exact kA.out _ hbl4
                    | go_keep)
                  (first
                    | (go_at_call 39; refine (opTwin x S sc _ ⟨ho, s1, s2, R.bl hS hblw.drew⟩ hys).mono ?_; rintro e w3 ⟨A1, n1, rfl, q1, q2, hr1, hb30⟩; have hb3 : Bl w5 w3 := (Bl.refl w5).drew.trans hb30; clear hb30; have hbl1 : Bl w w3 := hblw.trans hb3; have hzb3 : w5.heap.size ≤ w3.heap.size := hb3.size)
                    | (refine step_append_any2 (C := cOp) (xs := acc) (ys := [x]) rfl (.tmp 55) (.tmp 60) _ rfl 33 i0 _ 48 Try.underlying22 hi hz0 hz1 hz2 rfl _ w2.heap.size rfl ((hown.bl hb3).bl ((Bl.refl _).alloc _)) (some ⟨w3.heap.size, 0, none⟩) 1 _ rfl rfl (hown.src (cs := opCells x A1 n1) hb3 hzr ⟨ho, A1, n1, q1, q2, rfl, hr1⟩) ?_ ?_ ?_ ?_; (simp only [maxLen]; simp; omega); (simp; omega); (simp; omega); intro v4 w4 hown4 hg4 _; have hbl3 : Bl w2 w4 := ((hbl.trans hb3).alloc _).app ((hown.bl hb3).bl ((Bl.refl _).alloc _)) (Nat.le_refl _) hg4; have hbl4 : Bl w w4 := hb02.trans hbl3))
                go_wp2_with fail
                go_roundw
                case rel => exact hrel.out _ _ hbl3 hown4
                case measure => simp [sliceLen]; omega
              · rw [if_neg hd1] at hrel
                go_wp2_with fail
                (refine wp_region_wd (by kernel_rfl) (by kernel_rfl) ?_
                 repeat (go_big_quiet_step ((go_at_call 38; exact Calls.wd (hord.out _))))
                 refine wpQuiet_nil ?_
                 intro w5 hw'
                 obtain ⟨⟨wx, hb5⟩, hw''⟩ := hw'
                 subst hw'')
                replace hblw := hblw.trans hb5
                replace hown := hown.bl hb5
                replace hbl := hbl.trans hb5
                replace hzr := hbl.size
                clear C1 C2 D1 D2
                go_wp2_with fail
                go_region_held3 (fun W' => W'.cell? ⟨blk, off, none⟩ = some (.int .u8 x.kind) ∧ W'.cell? ⟨blk, off + 1, none⟩ = some (.int .u32 x.id.t) ∧ W'.cell? ⟨blk, off + 2, none⟩ = some (.int .u8 x.id.r) ∧ W'.cell? ⟨blk, off + 3, none⟩ = some (.slice S x.pl.length sc) ∧ W'.cell? ⟨blk, off + 4, none⟩ = some (.int .i64 x.pt))
                  (first
                    | exact kA.out _ hblw.drew
                    | exact kA.out _ hblw
                    | exact kA.out _ hbl1
                    | exact kA.out _ (hbl1.alloc _)
                    | exact kA.out _ hbl4
                    | go_keep)
                  (first
                    | (go_at_call 39; refine (opTwin x S sc _ ⟨ho, s1, s2, R.bl hS hblw.drew⟩ hys).mono ?_; rintro e w3 ⟨A1, n1, rfl, q1, q2, hr1, hb30⟩; have hb3 : Bl w5 w3 := (Bl.refl w5).drew.trans hb30; clear hb30; have hbl1 : Bl w w3 := hblw.trans hb3; have hzb3 : w5.heap.size ≤ w3.heap.size := hb3.size)
                    | (refine step_append_any2 (C := cOp) (xs := acc) (ys := [x]) rfl (.tmp 55) (.tmp 60) _ rfl 33 i0 _ 48 Try.underlying22 hi hz0 hz1 hz2 rfl _ w2.heap.size rfl ((hown.bl hb3).bl ((Bl.refl _).alloc _)) (some ⟨w3.heap.size, 0, none⟩) 1 _ rfl rfl (hown.src (cs := opCells x A1 n1) hb3 hzr ⟨ho, A1, n1, q1, q2, rfl, hr1⟩) ?_ ?_ ?_ ?_; (simp only [maxLen]; simp; omega); (simp; omega); (simp; omega); intro v4 w4 hown4 hg4 _; have hbl3 : Bl w2 w4 := ((hbl.trans hb3).alloc _).app ((hown.bl hb3).bl ((Bl.refl _).alloc _)) (Nat.le_refl _) hg4; have hbl4 : Bl w w4 := hb02.trans hbl3))
                go_wp2_with fail
                go_roundw
                case rel => exact hrel.out _ _ hbl3 hown4
                case measure => simp [sliceLen]; omega
            · rw [if_neg hc1] at hrel
              by_cases hd1 : d' = 1
              · rw [if_pos hd1, show b'.length - 1 = 0 by omega, show d' - 1 = 0 by omega] at hrel
                subst hd1
                go_wp2_with fail
                (refine wp_region_wd (by kernel_rfl) (by kernel_rfl) ?_
                 repeat (go_big_quiet_step ((go_at_call 38; exact Calls.wd (hord.out _))))
                 refine wpQuiet_nil ?_
                 intro w5 hw'
                 obtain ⟨⟨wx, hb5⟩, hw''⟩ := hw'
                 subst hw'')
                replace hblw := hblw.trans hb5
                replace hown := hown.bl hb5
                replace hbl := hbl.trans hb5
                replace hzr := hbl.size
                clear C1 C2 D1 D2
                go_wp2_with fail
                go_region_held3 (fun W' => W'.cell? ⟨blk, off, none⟩ = some (.int .u8 x.kind) ∧ W'.cell? ⟨blk, off + 1, none⟩ = some (.int .u32 x.id.t) ∧ W'.cell? ⟨blk, off + 2, none⟩ = some (.int .u8 x.id.r) ∧ W'.cell? ⟨blk, off + 3, none⟩ = some (.slice S x.pl.length sc) ∧ W'.cell? ⟨blk, off + 4, none⟩ = some (.int .i64 x.pt))
                  (first
                    | exact kA.out _ hblw.drew
                    | exact kA.out _ hblw
                    | exact kA.out _ hbl1
                    | exact kA.out _ (hbl1.alloc _)
                    | exact kA.out _ hbl4
                    | go_keep)
                  (first
                    | (go_at_call 39; refine (opTwin x S sc _ ⟨ho, s1, s2, R.bl hS hblw.drew⟩ hys).mono ?_; rintro e w3 ⟨A1, n1, rfl, q1, q2, hr1, hb30⟩; have hb3 : Bl w5 w3 := (Bl.refl w5).drew.trans hb30; clear hb30; have hbl1 : Bl w w3 := hblw.trans hb3; have hzb3 : w5.heap.size ≤ w3.heap.size := hb3.size)
                    | (refine step_append_any2 (C := cOp) (xs := acc) (ys := [x]) rfl (.tmp 55) (.tmp 60) _ rfl 33 i0 _ 48 Try.underlying22 hi hz0 hz1 hz2 rfl _ w2.heap.size rfl ((hown.bl hb3).bl ((Bl.refl _).alloc _)) (some ⟨w3.heap.size, 0, none⟩) 1 _ rfl rfl (hown.src (cs := opCells x A1 n1) hb3 hzr ⟨ho, A1, n1, q1, q2, rfl, hr1⟩) ?_ ?_ ?_ ?_; (simp only [maxLen]; simp; omega); (simp; omega); (simp; omega); intro v4 w4 hown4 hg4 _; have hbl3 : Bl w2 w4 := ((hbl.trans hb3).alloc _).app ((hown.bl hb3).bl ((Bl.refl _).alloc _)) (Nat.le_refl _) hg4; have hbl4 : Bl w w4 := hb02.trans hbl3))
                go_wp2_with fail
                go_roundw
                case rel => exact hrel.out _ _ hbl3 hown4
                case measure => simp [sliceLen]; omega
              · rw [if_neg hd1] at hrel
                go_wp2_with fail
                (refine wp_region_wd (by kernel_rfl) (by kernel_rfl) ?_
                 repeat (go_big_quiet_step ((go_at_call 38; exact Calls.wd (hord.out _))))
                 refine wpQuiet_nil ?_
                 intro w5 hw'
                 obtain ⟨⟨wx, hb5⟩, hw''⟩ := hw'
                 subst hw'')
                replace hblw := hblw.trans hb5
                replace hown := hown.bl hb5
                replace hbl := hbl.trans hb5
                replace hzr := hbl.size
                clear C1 C2 D1 D2
                go_wp2_with fail
                go_region_held3 (fun W' => W'.cell? ⟨blk, off, none⟩ = some (.int .u8 x.kind) ∧ W'.cell? ⟨blk, off + 1, none⟩ = some (.int .u32 x.id.t) ∧ W'.cell? ⟨blk, off + 2, none⟩ = some (.int .u8 x.id.r) ∧ W'.cell? ⟨blk, off + 3, none⟩ = some (.slice S x.pl.length sc) ∧ W'.cell? ⟨blk, off + 4, none⟩ = some (.int .i64 x.pt))
                  (first
                    | exact kA.out _ hblw.drew
                    | exact kA.out _ hblw
                    | exact kA.out _ hbl1
                    | exact kA.out _ (hbl1.alloc _)
                    | exact kA.out _ hbl4
                    | go_keep)
                  (first
                    | (go_at_call 39; refine (opTwin x S sc _ ⟨ho, s1, s2, R.bl hS hblw.drew⟩ hys).mono ?_; rintro e w3 ⟨A1, n1, rfl, q1, q2, hr1, hb30⟩; have hb3 : Bl w5 w3 := (Bl.refl w5).drew.trans hb30; clear hb30; have hbl1 : Bl w w3 := hblw.trans hb3; have hzb3 : w5.heap.size ≤ w3.heap.size := hb3.size)
                    | (refine step_append_any2 (C := cOp) (xs := acc) (ys := [x]) rfl (.tmp 55) (.tmp 60) _ rfl 33 i0 _ 48 Try.underlying22 hi hz0 hz1 hz2 rfl _ w2.heap.size rfl ((hown.bl hb3).bl ((Bl.refl _).alloc _)) (some ⟨w3.heap.size, 0, none⟩) 1 _ rfl rfl (hown.src (cs := opCells x A1 n1) hb3 hzr ⟨ho, A1, n1, q1, q2, rfl, hr1⟩) ?_ ?_ ?_ ?_; (simp only [maxLen]; simp; omega); (simp; omega); (simp; omega); intro v4 w4 hown4 hg4 _; have hbl3 : Bl w2 w4 := ((hbl.trans hb3).alloc _).app ((hown.bl hb3).bl ((Bl.refl _).alloc _)) (Nat.le_refl _) hg4; have hbl4 : Bl w w4 := hb02.trans hbl3))
                go_wp2_with fail
                go_roundw
                case rel => exact hrel.out _ _ hbl3 hown4
                case measure => simp [sliceLen]; omega
          · -- the second one's is first
            rw [show idCmp x.id y.id = 1 by unfold idCmp; rw [e1, e2]; rfl] at hord
            replace hord := hide hord
            have hmf : mergeF (f' + 1) a' b' = y :: mergeF f' a' (b'.drop 1) := by
              conv => lhs; rw [cons_drop1 hx, cons_drop1 hy]
              rw [mergeF, e1, e2, ← cons_drop1 hx]; rfl
            have hrel : ∀ v4 w4, Bl w2 w4 → Own cOp 33 w2.heap.size w4 v4 (acc ++ [y]) → JoinRel w w2 J (.slice (some ⟨blk, off, none⟩) a'.length c') (.slice (if d' = 1 then some ⟨blk', off', none⟩ else some ⟨blk', off' + 5, none⟩) (b'.length - 1) (d' - 1)) v4 w4 := fun v4 w4 hb4 hown4 =>
              ⟨hb4, f', a', b'.drop 1, acc ++ [y], _, _, c', d' - 1, rfl, by rw [List.length_drop], hac, hcm, by rw [List.length_drop]; omega, by omega, hA, tail_R hB hbd, ⟨hsm.out.1, fun x hx => hsm.out.2 x (List.mem_of_mem_drop hx)⟩, by rw [List.length_drop]; omega, by rw [List.length_append, List.length_singleton]; omega, hown4, by rw [hJ.out, hmf, List.append_assoc]; rfl⟩
            replace hrel := hide hrel
            replace hx := hide hx
            replace hy := hide hy
            replace ho := ho'
            replace s1 := s1'
            replace s2 := s2'
            replace hys := hys'
            replace hS := hS'
            clear hmf hsm hJ hlen htot c0 c1 c2 c3 c4 d0 d1 d2 d3 d4 e1 e2
            by_cases hd1 : d' = 1
            · rw [if_pos hd1, show b'.length - 1 = 0 by omega, show d' - 1 = 0 by omega] at hrel
              subst hd1
              go_wp2_with fail
              (refine wp_region_wd (by kernel_rfl) (by kernel_rfl) ?_
               repeat (go_big_quiet_step ((go_at_call 38; exact Calls.wd (hord.out _))))
               refine wpQuiet_nil ?_
               intro w5 hw'
               obtain ⟨⟨wx, hb5⟩, hw''⟩ := hw'
               subst hw'')
              replace hblw := hblw.trans hb5
              replace hown := hown.bl hb5
              replace hbl := hbl.trans hb5
              replace hzr := hbl.size
              clear C1 C2 D1 D2
              go_wp2_with fail
              go_region_held3 (fun W' => W'.cell? ⟨blk', off', none⟩ = some (.int .u8 y.kind) ∧ W'.cell? ⟨blk', off' + 1, none⟩ = some (.int .u32 y.id.t) ∧ W'.cell? ⟨blk', off' + 2, none⟩ = some (.int .u8 y.id.r) ∧ W'.cell? ⟨blk', off' + 3, none⟩ = some (.slice S' y.pl.length sc') ∧ W'.cell? ⟨blk', off' + 4, none⟩ = some (.int .i64 y.pt))
                (first
                  | exact kB.out _ hblw.drew
                  | exact kB.out _ hblw
                  | exact kB.out _ hbl1
                  | exact kB.out _ (hbl1.alloc _)
                  | exact kB.out _ hbl4
                  | go_keep)
                (first
                  | (go_at_call 39; refine (opTwin y S' sc' _ ⟨ho, s1, s2, R.bl hS hblw.drew⟩ hys).mono ?_; rintro e w3 ⟨A1, n1, rfl, q1, q2, hr1, hb30⟩; have hb3 : Bl w5 w3 := (Bl.refl w5).drew.trans hb30; clear hb30; have hbl1 : Bl w w3 := hblw.trans hb3; have hzb3 : w5.heap.size ≤ w3.heap.size := hb3.size)
                  | (refine step_append_any2 (C := cOp) (xs := acc) (ys := [y]) rfl (.tmp 46) (.tmp 51) _ rfl 33 i0 _ 48 Try.underlying22 hi hz0 hz1 hz2 rfl _ w2.heap.size rfl ((hown.bl hb3).bl ((Bl.refl _).alloc _)) (some ⟨w3.heap.size, 0, none⟩) 1 _ rfl rfl (hown.src (cs := opCells y A1 n1) hb3 hzr ⟨ho, A1, n1, q1, q2, rfl, hr1⟩) ?_ ?_ ?_ ?_; (simp only [maxLen]; simp; omega); (simp; omega); (simp; omega); intro v4 w4 hown4 hg4 _; have hbl3 : Bl w2 w4 := ((hbl.trans hb3).alloc _).app ((hown.bl hb3).bl ((Bl.refl _).alloc _)) (Nat.le_refl _) hg4; have hbl4 : Bl w w4 := hb02.trans hbl3))
              go_wp2_with fail
              go_roundw
              case rel => exact hrel.out _ _ hbl3 hown4
              case measure => simp [sliceLen]; omega
            · rw [if_neg hd1] at hrel
              go_wp2_with fail
              (refine wp_region_wd (by kernel_rfl) (by kernel_rfl) ?_
               repeat (go_big_quiet_step ((go_at_call 38; exact Calls.wd (hord.out _))))
               refine wpQuiet_nil ?_
               intro w5 hw'
               obtain ⟨⟨wx, hb5⟩, hw''⟩ := hw'
               subst hw'')
              replace hblw := hblw.trans hb5
              replace hown := hown.bl hb5
              replace hbl := hbl.trans hb5
              replace hzr := hbl.size
              clear C1 C2 D1 D2
              go_wp2_with fail
              go_region_held3 (fun W' => W'.cell? ⟨blk', off', none⟩ = some (.int .u8 y.kind) ∧ W'.cell? ⟨blk', off' + 1, none⟩ = some (.int .u32 y.id.t) ∧ W'.cell? ⟨blk', off' + 2, none⟩ = some (.int .u8 y.id.r) ∧ W'.cell? ⟨blk', off' + 3, none⟩ = some (.slice S' y.pl.length sc') ∧ W'.cell? ⟨blk', off' + 4, none⟩ = some (.int .i64 y.pt))
                (first
                  | exact kB.out _ hblw.drew
                  | exact kB.out _ hblw
                  | exact kB.out _ hbl1
                  | exact kB.out _ (hbl1.alloc _)
                  | exact kB.out _ hbl4
                  | go_keep)
                (first
                  | (go_at_call 39; refine (opTwin y S' sc' _ ⟨ho, s1, s2, R.bl hS hblw.drew⟩ hys).mono ?_; rintro e w3 ⟨A1, n1, rfl, q1, q2, hr1, hb30⟩; have hb3 : Bl w5 w3 := (Bl.refl w5).drew.trans hb30; clear hb30; have hbl1 : Bl w w3 := hblw.trans hb3; have hzb3 : w5.heap.size ≤ w3.heap.size := hb3.size)
                  | (refine step_append_any2 (C := cOp) (xs := acc) (ys := [y]) rfl (.tmp 46) (.tmp 51) _ rfl 33 i0 _ 48 Try.underlying22 hi hz0 hz1 hz2 rfl _ w2.heap.size rfl ((hown.bl hb3).bl ((Bl.refl _).alloc _)) (some ⟨w3.heap.size, 0, none⟩) 1 _ rfl rfl (hown.src (cs := opCells y A1 n1) hb3 hzr ⟨ho, A1, n1, q1, q2, rfl, hr1⟩) ?_ ?_ ?_ ?_; (simp only [maxLen]; simp; omega); (simp; omega); (simp; omega); intro v4 w4 hown4 hg4 _; have hbl3 : Bl w2 w4 := ((hbl.trans hb3).alloc _).app ((hown.bl hb3).bl ((Bl.refl _).alloc _)) (Nat.le_refl _) hg4; have hbl4 : Bl w w4 := hb02.trans hbl3))
              go_wp2_with fail
              go_roundw
              case rel => exact hrel.out _ _ hbl3 hown4
              case measure => simp [sliceLen]; omega
        · -- the first one's is first
          rw [idCmp_neg e1] at hord
          replace hord := hide hord
          have hmf : mergeF (f' + 1) a' b' = x :: mergeF f' (a'.drop 1) b' := by
            conv => lhs; rw [cons_drop1 hx, cons_drop1 hy]
            rw [mergeF, e1, ← cons_drop1 hy]; rfl
          have hrel : ∀ v4 w4, Bl w2 w4 → Own cOp 33 w2.heap.size w4 v4 (acc ++ [x]) → JoinRel w w2 J (.slice (if c' = 1 then some ⟨blk, off, none⟩ else some ⟨blk, off + 5, none⟩) (a'.length - 1) (c' - 1)) (.slice (some ⟨blk', off', none⟩) b'.length d') v4 w4 := fun v4 w4 hb4 hown4 =>
            ⟨hb4, f', a'.drop 1, b', acc ++ [x], _, _, c' - 1, d', by rw [List.length_drop], rfl, by rw [List.length_drop]; omega, by omega, hbd, hdm, tail_R hA hac, hB, ⟨fun x hx => hsm.out.1 x (List.mem_of_mem_drop hx), hsm.out.2⟩, by rw [List.length_drop]; omega, by rw [List.length_append, List.length_singleton]; omega, hown4, by rw [hJ.out, hmf, List.append_assoc]; rfl⟩
          replace hrel := hide hrel
          replace hx := hide hx
          replace hy := hide hy
          clear hmf hsm hJ hlen htot c0 c1 c2 c3 c4 d0 d1 d2 d3 d4 e1
          by_cases hd1 : c' = 1
          · rw [if_pos hd1, show a'.length - 1 = 0 by omega, show c' - 1 = 0 by omega] at hrel
            subst hd1
            go_wp2_with fail
            (refine wp_region_wd (by kernel_rfl) (by kernel_rfl) ?_
             repeat (go_big_quiet_step ((go_at_call 38; exact Calls.wd (hord.out _))))
             refine wpQuiet_nil ?_
             intro w5 hw'
             obtain ⟨⟨wx, hb5⟩, hw''⟩ := hw'
             subst hw'')
            replace hblw := hblw.trans hb5
            replace hown := hown.bl hb5
            replace hbl := hbl.trans hb5
            replace hzr := hbl.size
            clear C1 C2 D1 D2
            go_wp2_with fail
            go_region_held3 (fun W' => W'.cell? ⟨blk, off, none⟩ = some (.int .u8 x.kind) ∧ W'.cell? ⟨blk, off + 1, none⟩ = some (.int .u32 x.id.t) ∧ W'.cell? ⟨blk, off + 2, none⟩ = some (.int .u8 x.id.r) ∧ W'.cell? ⟨blk, off + 3, none⟩ = some (.slice S x.pl.length sc) ∧ W'.cell? ⟨blk, off + 4, none⟩ = some (.int .i64 x.pt))
              (first
                | exact kA.out _ hblw.drew
                | exact kA.out _ hblw
                | exact kA.out _ hbl1
                | exact kA.out _ (hbl1.alloc _)
                | exact kA.out _ hbl4
                | go_keep)
              (first
                | (go_at_call 39; refine (opTwin x S sc _ ⟨ho, s1, s2, R.bl hS hblw.drew⟩ hys).mono ?_; rintro e w3 ⟨A1, n1, rfl, q1, q2, hr1, hb30⟩; have hb3 : Bl w5 w3 := (Bl.refl w5).drew.trans hb30; clear hb30; have hbl1 : Bl w w3 := hblw.trans hb3; have hzb3 : w5.heap.size ≤ w3.heap.size := hb3.size)
                | (refine step_append_any2 (C := cOp) (xs := acc) (ys := [x]) rfl (.tmp 55) (.tmp 60) _ rfl 33 i0 _ 48 Try.underlying22 hi hz0 hz1 hz2 rfl _ w2.heap.size rfl ((hown.bl hb3).bl ((Bl.refl _).alloc _)) (some ⟨w3.heap.size, 0, none⟩) 1 _ rfl rfl (hown.src (cs := opCells x A1 n1) hb3 hzr ⟨ho, A1, n1, q1, q2, rfl, hr1⟩) ?_ ?_ ?_ ?_; (simp only [maxLen]; simp; omega); (simp; omega); (simp; omega); intro v4 w4 hown4 hg4 _; have hbl3 : Bl w2 w4 := ((hbl.trans hb3).alloc _).app ((hown.bl hb3).bl ((Bl.refl _).alloc _)) (Nat.le_refl _) hg4; have hbl4 : Bl w w4 := hb02.trans hbl3))
            go_wp2_with fail
            go_roundw
            case rel => exact hrel.out _ _ hbl3 hown4
            case measure => simp [sliceLen]; omega
          · rw [if_neg hd1] at hrel
            go_wp2_with fail
            (refine wp_region_wd (by kernel_rfl) (by kernel_rfl) ?_
             repeat (go_big_quiet_step ((go_at_call 38; exact Calls.wd (hord.out _))))
             refine wpQuiet_nil ?_
             intro w5 hw'
             obtain ⟨⟨wx, hb5⟩, hw''⟩ := hw'
             subst hw'')
            replace hblw := hblw.trans hb5
            replace hown := hown.bl hb5
            replace hbl := hbl.trans hb5
            replace hzr := hbl.size
            clear C1 C2 D1 D2
            go_wp2_with fail
            go_region_held3 (fun W' => W'.cell? ⟨blk, off, none⟩ = some (.int .u8 x.kind) ∧ W'.cell? ⟨blk, off + 1, none⟩ = some (.int .u32 x.id.t) ∧ W'.cell? ⟨blk, off + 2, none⟩ = some (.int .u8 x.id.r) ∧ W'.cell? ⟨blk, off + 3, none⟩ = some (.slice S x.pl.length sc) ∧ W'.cell? ⟨blk, off + 4, none⟩ = some (.int .i64 x.pt))
              (first
                | exact kA.out _ hblw.drew
                | exact kA.out _ hblw
                | exact kA.out _ hbl1
                | exact kA.out _ (hbl1.alloc _)
                | exact kA.out _ hbl4
                | go_keep)
              (first
                | (go_at_call 39; refine (opTwin x S sc _ ⟨ho, s1, s2, R.bl hS hblw.drew⟩ hys).mono ?_; rintro e w3 ⟨A1, n1, rfl, q1, q2, hr1, hb30⟩; have hb3 : Bl w5 w3 := (Bl.refl w5).drew.trans hb30; clear hb30; have hbl1 : Bl w w3 := hblw.trans hb3; have hzb3 : w5.heap.size ≤ w3.heap.size := hb3.size)
                | (refine step_append_any2 (C := cOp) (xs := acc) (ys := [x]) rfl (.tmp 55) (.tmp 60) _ rfl 33 i0 _ 48 Try.underlying22 hi hz0 hz1 hz2 rfl _ w2.heap.size rfl ((hown.bl hb3).bl ((Bl.refl _).alloc _)) (some ⟨w3.heap.size, 0, none⟩) 1 _ rfl rfl (hown.src (cs := opCells x A1 n1) hb3 hzr ⟨ho, A1, n1, q1, q2, rfl, hr1⟩) ?_ ?_ ?_ ?_; (simp only [maxLen]; simp; omega); (simp; omega); (simp; omega); intro v4 w4 hown4 hg4 _; have hbl3 : Bl w2 w4 := ((hbl.trans hb3).alloc _).app ((hown.bl hb3).bl ((Bl.refl _).alloc _)) (Nat.le_refl _) hg4; have hbl4 : Bl w w4 := hb02.trans hbl3))
            go_wp2_with fail
            go_roundw
            case rel => exact hrel.out _ _ hbl3 hown4
            case measure => simp [sliceLen]; omega
      · have eb : b' = [] := List.eq_nil_of_length_eq_zero (by omega)
        have hbi : ¬ (0 : Int) < (b'.length : Int) := by omega
        have hmf : mergeF (f' + 1) a' b' = x :: mergeF f' (a'.drop 1) b' := by
          rw [eb]
          conv => lhs; rw [cons_drop1 hx]
          rfl
        have hrel : ∀ v4 w4, Bl w2 w4 → Own cOp 33 w2.heap.size w4 v4 (acc ++ [x]) → JoinRel w w2 J (.slice (if c' = 1 then some ⟨blk, off, none⟩ else some ⟨blk, off + 5, none⟩) (a'.length - 1) (c' - 1)) (.slice B' b'.length d') v4 w4 := fun v4 w4 hb4 hown4 =>
          ⟨hb4, f', a'.drop 1, b', acc ++ [x], _, B', c' - 1, d', by rw [List.length_drop], rfl, by rw [List.length_drop]; omega, by omega, hbd, hdm, tail_R hA hac, hB, ⟨fun x hx => hsm.out.1 x (List.mem_of_mem_drop hx), hsm.out.2⟩, by rw [List.length_drop]; omega, by rw [List.length_append, List.length_singleton]; omega, hown4, by rw [hJ.out, hmf, List.append_assoc]; rfl⟩
        replace hrel := hide hrel
        replace eb := hide eb
        replace hx := hide hx
        clear hmf hsm hJ hB hbd hdm hlen htot c0 c1 c2 c3 c4
        by_cases hd1 : c' = 1
        · rw [if_pos hd1, show a'.length - 1 = 0 by omega, show c' - 1 = 0 by omega] at hrel
          subst hd1
          go_wp2_with fail
          go_region_held3 (fun W' => W'.cell? ⟨blk, off, none⟩ = some (.int .u8 x.kind) ∧ W'.cell? ⟨blk, off + 1, none⟩ = some (.int .u32 x.id.t) ∧ W'.cell? ⟨blk, off + 2, none⟩ = some (.int .u8 x.id.r) ∧ W'.cell? ⟨blk, off + 3, none⟩ = some (.slice S x.pl.length sc) ∧ W'.cell? ⟨blk, off + 4, none⟩ = some (.int .i64 x.pt))
            (first
              | exact kA.out _ hblw.drew
              | exact kA.out _ hblw
              | exact kA.out _ hbl1
              | exact kA.out _ (hbl1.alloc _)
              | exact kA.out _ hbl4
              | go_keep)
            (first
              | (go_at_call 39; refine (opTwin x S sc _ ⟨ho, s1, s2, R.bl hS hblw.drew⟩ hys).mono ?_; rintro e w3 ⟨A1, n1, rfl, q1, q2, hr1, hb30⟩; have hb3 : Bl wr w3 := (Bl.refl wr).drew.trans hb30; clear hb30; have hbl1 : Bl w w3 := hblw.trans hb3; have hzb3 : wr.heap.size ≤ w3.heap.size := hb3.size)
              | (refine step_append_any2 (C := cOp) (xs := acc) (ys := [x]) rfl (.tmp 55) (.tmp 60) _ rfl 33 i0 _ 48 Try.underlying22 hi hz0 hz1 hz2 rfl _ w2.heap.size rfl ((hown.bl hb3).bl ((Bl.refl _).alloc _)) (some ⟨w3.heap.size, 0, none⟩) 1 _ rfl rfl (hown.src (cs := opCells x A1 n1) hb3 hzr ⟨ho, A1, n1, q1, q2, rfl, hr1⟩) ?_ ?_ ?_ ?_; (simp only [maxLen]; simp; omega); (simp; omega); (simp; omega); intro v4 w4 hown4 hg4 _; have hbl3 : Bl w2 w4 := ((hbl.trans hb3).alloc _).app ((hown.bl hb3).bl ((Bl.refl _).alloc _)) (Nat.le_refl _) hg4; have hbl4 : Bl w w4 := hb02.trans hbl3))
          go_wp2_with fail
          go_roundw
          case rel => exact hrel.out _ _ hbl3 hown4
          case measure => simp [sliceLen]; omega
        · have hif : (if c' = 1 then some (⟨blk, off, none⟩ : Addr) else some ⟨blk, off + 5, none⟩) = some ⟨blk, off + 5, none⟩ := if_neg hd1
          rw [hif] at hrel
          clear hif
          go_wp2_with fail
          go_region_held3 (fun W' => W'.cell? ⟨blk, off, none⟩ = some (.int .u8 x.kind) ∧ W'.cell? ⟨blk, off + 1, none⟩ = some (.int .u32 x.id.t) ∧ W'.cell? ⟨blk, off + 2, none⟩ = some (.int .u8 x.id.r) ∧ W'.cell? ⟨blk, off + 3, none⟩ = some (.slice S x.pl.length sc) ∧ W'.cell? ⟨blk, off + 4, none⟩ = some (.int .i64 x.pt))
            (first
              | exact kA.out _ hblw.drew
              | exact kA.out _ hblw
              | exact kA.out _ hbl1
              | exact kA.out _ (hbl1.alloc _)
              | exact kA.out _ hbl4
              | go_keep)
            (first
              | (go_at_call 39; refine (opTwin x S sc _ ⟨ho, s1, s2, R.bl hS hblw.drew⟩ hys).mono ?_; rintro e w3 ⟨A1, n1, rfl, q1, q2, hr1, hb30⟩; have hb3 : Bl wr w3 := (Bl.refl wr).drew.trans hb30; clear hb30; have hbl1 : Bl w w3 := hblw.trans hb3; have hzb3 : wr.heap.size ≤ w3.heap.size := hb3.size)
              | (refine step_append_any2 (C := cOp) (xs := acc) (ys := [x]) rfl (.tmp 55) (.tmp 60) _ rfl 33 i0 _ 48 Try.underlying22 hi hz0 hz1 hz2 rfl _ w2.heap.size rfl ((hown.bl hb3).bl ((Bl.refl _).alloc _)) (some ⟨w3.heap.size, 0, none⟩) 1 _ rfl rfl (hown.src (cs := opCells x A1 n1) hb3 hzr ⟨ho, A1, n1, q1, q2, rfl, hr1⟩) ?_ ?_ ?_ ?_; (simp only [maxLen]; simp; omega); (simp; omega); (simp; omega); intro v4 w4 hown4 hg4 _; have hbl3 : Bl w2 w4 := ((hbl.trans hb3).alloc _).app ((hown.bl hb3).bl ((Bl.refl _).alloc _)) (Nat.le_refl _) hg4; have hbl4 : Bl w w4 := hb02.trans hbl3))
          go_wp2_with fail
          go_roundw
          case rel => exact hrel.out _ _ hbl3 hown4
          case measure => simp [sliceLen]; omega
    · have ea : a' = [] := List.eq_nil_of_length_eq_zero (by omega)
      by_cases hb0 : 0 < b'.length
      · obtain ⟨y, hy⟩ := get_lt hb0
        obtain ⟨blk, off, rfl, _, hbk⟩ := hB.addr hb0
        obtain ⟨_, ho, S, sc, s1, s2, hS, c0, c1, c2, c3, c4⟩ := hB.op hy
        simp only [Nat.zero_mul, Nat.add_zero] at c0 c1 c2 c3 c4
        have hai : ¬ (0 : Int) < (a'.length : Int) := by omega
        have hbi : (0 : Int) < (b'.length : Int) := by omega
        have hbi1 : (1 : Int) ≤ (b'.length : Int) := by omega
        have kA := hide (fun V (hV : Bl w V) => (⟨(hV.cell hbk).trans c0, (hV.cell hbk).trans c1, (hV.cell hbk).trans c2, (hV.cell hbk).trans c3, (hV.cell hbk).trans c4⟩ : V.cell? ⟨blk, off, none⟩ = some (.int .u8 y.kind) ∧ V.cell? ⟨blk, off + 1, none⟩ = some (.int .u32 y.id.t) ∧ V.cell? ⟨blk, off + 2, none⟩ = some (.int .u8 y.id.r) ∧ V.cell? ⟨blk, off + 3, none⟩ = some (.slice S y.pl.length sc) ∧ V.cell? ⟨blk, off + 4, none⟩ = some (.int .i64 y.pt)))
        have hys := hsm.out.2 y (List.mem_of_getElem? hy)
        obtain ⟨f', rfl⟩ : ∃ f', f = f' + 1 := ⟨f - 1, by omega⟩
        have hmf : mergeF (f' + 1) a' b' = y :: mergeF f' a' (b'.drop 1) := by
          rw [ea]
          conv => lhs; rw [cons_drop1 hy]
          rfl
        have hrel : ∀ v4 w4, Bl w2 w4 → Own cOp 33 w2.heap.size w4 v4 (acc ++ [y]) → JoinRel w w2 J (.slice A' a'.length c') (.slice (if d' = 1 then some ⟨blk, off, none⟩ else some ⟨blk, off + 5, none⟩) (b'.length - 1) (d' - 1)) v4 w4 := fun v4 w4 hb4 hown4 =>
          ⟨hb4, f', a', b'.drop 1, acc ++ [y], A', _, c', d' - 1, rfl, by rw [List.length_drop], hac, hcm, by rw [List.length_drop]; omega, by omega, hA, tail_R hB hbd, ⟨hsm.out.1, fun x hx => hsm.out.2 x (List.mem_of_mem_drop hx)⟩, by rw [List.length_drop]; omega, by rw [List.length_append, List.length_singleton]; omega, hown4, by rw [hJ.out, hmf, List.append_assoc]; rfl⟩
        replace hrel := hide hrel
        replace ea := hide ea
        replace hy := hide hy
        have htot' : acc.length ≤ 2047 := by omega
        clear hmf hsm hJ hA hac hcm hlen htot c0 c1 c2 c3 c4
        by_cases hd1 : d' = 1
        · rw [if_pos hd1, show b'.length - 1 = 0 by omega, show d' - 1 = 0 by omega] at hrel
          subst hd1
          go_wp2_with fail
          go_region_held3 (fun W' => W'.cell? ⟨blk, off, none⟩ = some (.int .u8 y.kind) ∧ W'.cell? ⟨blk, off + 1, none⟩ = some (.int .u32 y.id.t) ∧ W'.cell? ⟨blk, off + 2, none⟩ = some (.int .u8 y.id.r) ∧ W'.cell? ⟨blk, off + 3, none⟩ = some (.slice S y.pl.length sc) ∧ W'.cell? ⟨blk, off + 4, none⟩ = some (.int .i64 y.pt))
            (first
              | exact kA.out _ hblw.drew
              | exact kA.out _ hblw
              | exact kA.out _ hbl1
              | exact kA.out _ (hbl1.alloc _)
              | exact kA.out _ hbl4
              | go_keep)
            (first
              | (go_at_call 39; refine (opTwin y S sc _ ⟨ho, s1, s2, R.bl hS hblw.drew⟩ hys).mono ?_; rintro e w3 ⟨A1, n1, rfl, q1, q2, hr1, hb30⟩; have hb3 : Bl wr w3 := (Bl.refl wr).drew.trans hb30; clear hb30; have hbl1 : Bl w w3 := hblw.trans hb3; have hzb3 : wr.heap.size ≤ w3.heap.size := hb3.size)
              | (refine step_append_any2 (C := cOp) (xs := acc) (ys := [y]) rfl (.tmp 46) (.tmp 51) _ rfl 33 i0 _ 48 Try.underlying22 hi hz0 hz1 hz2 rfl _ w2.heap.size rfl ((hown.bl hb3).bl ((Bl.refl _).alloc _)) (some ⟨w3.heap.size, 0, none⟩) 1 _ rfl rfl (hown.src (cs := opCells y A1 n1) hb3 hzr ⟨ho, A1, n1, q1, q2, rfl, hr1⟩) ?_ ?_ ?_ ?_; (simp only [maxLen]; simp; omega); (simp; omega); (simp; omega); intro v4 w4 hown4 hg4 _; have hbl3 : Bl w2 w4 := ((hbl.trans hb3).alloc _).app ((hown.bl hb3).bl ((Bl.refl _).alloc _)) (Nat.le_refl _) hg4; have hbl4 : Bl w w4 := hb02.trans hbl3))
          go_wp2_with fail
          go_roundw
          case rel => exact hrel.out _ _ hbl3 hown4
          case measure => simp [sliceLen]; omega
        · have hif : (if d' = 1 then some (⟨blk, off, none⟩ : Addr) else some ⟨blk, off + 5, none⟩) = some ⟨blk, off + 5, none⟩ := if_neg hd1
          rw [hif] at hrel
          clear hif
          go_wp2_with fail
          go_region_held3 (fun W' => W'.cell? ⟨blk, off, none⟩ = some (.int .u8 y.kind) ∧ W'.cell? ⟨blk, off + 1, none⟩ = some (.int .u32 y.id.t) ∧ W'.cell? ⟨blk, off + 2, none⟩ = some (.int .u8 y.id.r) ∧ W'.cell? ⟨blk, off + 3, none⟩ = some (.slice S y.pl.length sc) ∧ W'.cell? ⟨blk, off + 4, none⟩ = some (.int .i64 y.pt))
            (first
              | exact kA.out _ hblw.drew
              | exact kA.out _ hblw
              | exact kA.out _ hbl1
              | exact kA.out _ (hbl1.alloc _)
              | exact kA.out _ hbl4
              | go_keep)
            (first
              | (go_at_call 39; refine (opTwin y S sc _ ⟨ho, s1, s2, R.bl hS hblw.drew⟩ hys).mono ?_; rintro e w3 ⟨A1, n1, rfl, q1, q2, hr1, hb30⟩; have hb3 : Bl wr w3 := (Bl.refl wr).drew.trans hb30; clear hb30; have hbl1 : Bl w w3 := hblw.trans hb3; have hzb3 : wr.heap.size ≤ w3.heap.size := hb3.size)
              | (refine step_append_any2 (C := cOp) (xs := acc) (ys := [y]) rfl (.tmp 46) (.tmp 51) _ rfl 33 i0 _ 48 Try.underlying22 hi hz0 hz1 hz2 rfl _ w2.heap.size rfl ((hown.bl hb3).bl ((Bl.refl _).alloc _)) (some ⟨w3.heap.size, 0, none⟩) 1 _ rfl rfl (hown.src (cs := opCells y A1 n1) hb3 hzr ⟨ho, A1, n1, q1, q2, rfl, hr1⟩) ?_ ?_ ?_ ?_; (simp only [maxLen]; simp; omega); (simp; omega); (simp; omega); intro v4 w4 hown4 hg4 _; have hbl3 : Bl w2 w4 := ((hbl.trans hb3).alloc _).app ((hown.bl hb3).bl ((Bl.refl _).alloc _)) (Nat.le_refl _) hg4; have hbl4 : Bl w w4 := hb02.trans hbl3))
          go_wp2_with fail
          go_roundw
          case rel => exact hrel.out _ _ hbl3 hown4
          case measure => simp [sliceLen]; omega
      · have eb : b' = [] := List.eq_nil_of_length_eq_zero (by omega)
        have hJe : J = acc := by rw [hJ.out, ea, eb, mergeF_nil, List.append_nil]
        have hai : ¬ (0 : Int) < (a'.length : Int) := by omega
        have hbi : ¬ (0 : Int) < (b'.length : Int) := by omega
        obtain ⟨A5, c5, hv5, hr5, q1, q2⟩ := hown.reads
        subst hv5
        rw [hJe] at hN' hL'
        replace ea := hide ea
        replace eb := hide eb
        by_cases hbig : 1024 < acc.length
        · have e2 : N = 9 := by rw [hN'.out, if_pos hbig]
          have e1 : L = [] := by rw [hL'.out, e2]; rfl
          subst e1 e2
          have hbig' : (1024 : Int) < (acc.length : Int) := by omega
          clear hJe hJ hsm
          go_wp2_with fail
          go_ret2
          exact ⟨none, 0, rfl, Nat.le_refl _, Nat.zero_le _, R.nil, hblw⟩
        · have e2 : N = 0 := by rw [hN'.out, if_neg hbig]
          have e1 : L = acc := by rw [hL'.out, e2]; rfl
          subst e1 e2
          have hbig' : ¬ (1024 : Int) < (L.length : Int) := by omega
          clear hJe hJ hsm
          go_wp2_with fail
          go_ret2
          exact ⟨A5, c5, rfl, q1, q2, hr5.more hb02.size, hblw⟩
end Go.Proofs.Ytedcopjpgijpjaa
