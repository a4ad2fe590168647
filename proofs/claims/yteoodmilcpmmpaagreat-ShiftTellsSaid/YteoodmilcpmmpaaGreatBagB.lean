/-
  The walk of bag.Add.
  The walks of bag.Same, and of the references Same of the layers 6, 9, 10.
  The walk of bag.Join.
-/
import Derived.Test.YteoodmilcpmmpaaGreatBagA
import Derived.Test.YteoodmilcpmmpaaGreatOp3B
import Derived.WalkMore
namespace Go.Proofs.YteoodmilcpmmpaaGreat

open Go.RowKit Go.Shelf Go.Lib

def addN (l : List Op) (o : Op) : Int := if bagMay l && opMay o then (if hasId l o.id then 0 else if l.length = 1024 then 9 else 0) else 8

def addL (l : List Op) (o : Op) : List Op := if addN l o = 0 then (if hasId l o.id then l else l.take (posOf l o.id) ++ o :: l.drop (posOf l o.id)) else []

theorem opMay_small {x : Op} (h : opMay x = true) : x.pl.length ≤ 1048576 := by
  unfold opMay at h
  simp only [Bool.and_eq_true] at h
  have := placeMay_parts h.1.2
  omega

theorem bagMay_small {l : List Op} (h : bagMay l = true) : smallB l := by
  obtain ⟨h1, _, h2⟩ := bagMay_parts h
  exact ⟨by omega, fun x hx => opMay_small (h2 x hx)⟩

set_option maxRecDepth 100000 in
set_option maxHeartbeats 4000000 in
theorem bagAdd (A S : Option Addr) (c d : Nat) (l : List Op) (o : Op) (w : World) (hl : l.length ≤ maxLen) (hA : R cOp 0 w A l) (ho : OpIn w o S d) :
    Calls Tryz.prog 18 #[.slice A l.length c, .agg #[.int .u8 o.kind, .int .u32 o.id.t, .int .u8 o.id.r, .slice S o.pl.length d, .int .i64 o.pt]] w (New2 cOp (addL l o) (addN l o) w) := by
  have hchk := fun W (hb : Bl w W) => bagCheck A c l W hl (hA.bl hb)
  have hone := fun W (hb : Bl w W) => opCheck o S d W (ho.bl hb)
  obtain ⟨L, hL⟩ : ∃ L, L = addL l o := ⟨_, rfl⟩
  obtain ⟨N, hN⟩ : ∃ N, N = addN l o := ⟨_, rfl⟩
  rw [← hL, ← hN]
  have hV0 : Bl w (w.alloc (.cells #[Value.int IntKind.u8 o.kind, Value.int IntKind.u32 o.id.t, Value.int IntKind.u8 o.id.r, Value.slice S o.pl.length d, Value.int IntKind.i64 o.pt] 47)) := (Bl.refl _).alloc _
  have at0 := OpBox.new w o S d 47
  cases hm : bagMay l
  · have e2 : N = 8 := by rw [hN]; unfold addN; rw [hm]; rfl
    have e1 : L = [] := by rw [hL]; unfold addL; rw [← hN, e2]; rfl
    subst e1 e2
    rw [hm, okOr_false] at hchk
    replace hchk := hide hchk
    clear hL hN hm hone at0
    go_enter Tryz.func18, Tryz.ntmps18
    go_wp2_with fail
    refine (hchk.out _ hV0).mono ?_
    rintro e w1 ⟨rfl, hb1⟩
    go_wp2_with fail
    go_ret2
    exact ⟨none, 0, rfl, Nat.le_refl _, Nat.zero_le _, R.nil, hV0.trans hb1⟩
  rw [hm, okOr_true] at hchk
  replace hchk := hide hchk
  cases hmx : opMay o
  · have e2 : N = 8 := by rw [hN]; unfold addN; rw [hm, hmx]; rfl
    have e1 : L = [] := by rw [hL]; unfold addL; rw [← hN, e2]; rfl
    subst e1 e2
    rw [hmx, okOr_false] at hone
    replace hone := hide hone
    clear hL hN hm hmx
    go_enter Tryz.func18, Tryz.ntmps18
    go_wp2_with fail
    refine (hchk.out _ hV0).mono ?_
    rintro e w1 ⟨rfl, hb1⟩
    obtain ⟨x0, x1, x2, x3, x4⟩ := (at0.bl hb1).cells
    have hlx := (at0.bl hb1).lt
    go_wp2_with fail
    refine (hone.out _ (hV0.trans hb1)).mono ?_
    rintro e w2 ⟨rfl, hb2⟩
    go_wp2_with fail
    go_ret2
    exact ⟨none, 0, rfl, Nat.le_refl _, Nat.zero_le _, R.nil, (hV0.trans hb1).trans hb2⟩
  rw [hmx, okOr_true] at hone
  replace hone := hide hone
  obtain ⟨hl1024, hsrt, -⟩ := bagMay_parts hm
  have hsml := hide (bagMay_small hm)
  have hsmo := hide (opMay_small hmx)
  have hwh := fun W (hb : Bl w W) => bagWhere A c l o.id W (by omega) (hA.bl hb) ho.ok.2.1 hsrt
  have hput : N = if hasId l o.id then 0 else if l.length = 1024 then 9 else 0 := by rw [hN]; unfold addN; rw [hm, hmx]; rfl
  obtain ⟨p, hp⟩ : ∃ p, p = posOf l o.id := ⟨_, rfl⟩
  have hpl : p ≤ l.length := by rw [hp]; exact pos_le l o.id
  rw [← hp] at hwh
  have hLe : L = if N = 0 then (if hasId l o.id then l else l.take p ++ o :: l.drop p) else [] := by rw [hL, hN, hp]; rfl
  clear hm hmx hL hN hp
  cases hh : hasId l o.id
  · rw [hh] at hput hLe hwh
    by_cases h1024 : l.length = 1024
    · have e2 : N = 9 := by rw [hput, if_pos h1024]; rfl
      have e1 : L = [] := by rw [hLe, e2]; rfl
      subst e1 e2
      replace hwh := hide hwh
      have h65' : ((l.length : Int) == 1024) = true := by simp [h1024]
      clear hLe hput h1024 hl1024
      go_enter Tryz.func18, Tryz.ntmps18
      go_wp2_with fail
      refine (hchk.out _ hV0).mono ?_
      rintro e w1 ⟨rfl, hb1⟩
      obtain ⟨x0, x1, x2, x3, x4⟩ := (at0.bl hb1).cells
      have hlx := (at0.bl hb1).lt
      go_wp2_with fail
      refine (hone.out _ (hV0.trans hb1)).mono ?_
      rintro e w2 ⟨rfl, hb2⟩
      have hb12 := hb1.trans hb2
      clear x0 x1 x2 x3 x4 hlx
      obtain ⟨x0, x1, x2, x3, x4⟩ := (at0.bl hb12).cells
      have hlx := (at0.bl hb12).lt
      go_wp2_with fail
      refine (hwh.out _ (hV0.trans hb12)).mono ?_
      rintro e w3 ⟨rfl, hb3⟩
      go_wp2_with fail
      go_ret2
      exact ⟨none, 0, rfl, Nat.le_refl _, Nat.zero_le _, R.nil, (hV0.trans hb12).trans hb3⟩
    · have e2 : N = 0 := by rw [hput, if_neg h1024]; rfl
      have e1 : L = l.take p ++ o :: l.drop p := by rw [hLe, e2]; rfl
      replace e1 := hide e1
      subst e2
      replace hwh := hide hwh
      have h65' : ((l.length : Int) == 1024) = false := beq_eq_false_iff_ne.2 (by omega)
      clear hLe hput h1024
      go_enter Tryz.func18, Tryz.ntmps18
      go_wp2_with fail
      refine (hchk.out _ hV0).mono ?_
      rintro e w1 ⟨rfl, hb1⟩
      obtain ⟨x0, x1, x2, x3, x4⟩ := (at0.bl hb1).cells
      have hlx := (at0.bl hb1).lt
      go_wp2_with fail
      refine (hone.out _ (hV0.trans hb1)).mono ?_
      rintro e w2 ⟨rfl, hb2⟩
      have hb12 := hb1.trans hb2
      clear x0 x1 x2 x3 x4 hlx
      obtain ⟨x0, x1, x2, x3, x4⟩ := (at0.bl hb12).cells
      have hlx := (at0.bl hb12).lt
      go_wp2_with fail
      refine (hwh.out _ (hV0.trans hb12)).mono ?_
      rintro e w3 ⟨rfl, hb3⟩
      have hb13 := hb12.trans hb3
      have hw3 := hV0.trans hb13
      have hwz := hw3.size
      clear x0 x1 x2 x3 x4 hlx hwh hone hchk
      go_wp2_with fail
      have kA := hide (fun V (hV : Bl w3 V) => (at0.bl (hb13.trans hV)).cells)
      have hlx := (at0.bl hb13).lt
      obtain ⟨x0, x1, x2, x3, x4⟩ := kA.out w3 (Bl.refl _)
      have hrest : ∀ w4 g w5 A5 n5, Own cOp 47 w3.heap.size w4 (.slice (some ⟨g, 0, none⟩) l.length l.length) l → Bl w3 w4 → Bl w4 w5 → o.pl.length ≤ n5 → n5 ≤ maxLen → R cRun w4.heap.size w5 A5 o.pl →
          Calls Tryz.prog 58 #[.slice (some ⟨g, 0, none⟩) l.length l.length, .int .i64 p, .slice (some ⟨w5.heap.size, 0, none⟩) 1 1] (w5.alloc (.cells #[Value.int IntKind.u8 o.kind, Value.int IntKind.u32 o.id.t, Value.int IntKind.u8 o.id.r, Value.slice A5 o.pl.length n5, Value.int IntKind.i64 o.pt] 47)) (NewFrom cOp w3.heap.size L w5) := fun w4 g w5 A5 n5 hown hb4 hb5 k1 k2 hr => by
        have hgne : ∀ b, w4.heap.size ≤ b → (Value.slice (some ⟨g, 0, none⟩) l.length l.length).ownBlock ≠ some b := fun b hb e => by have := (hown.lt e).2; omega
        rw [e1.out]
        exact opInsertC w3.heap.size _ l p o A5 n5 w5 (hown.bl hb5) (by have := hb5.size; have := hb4.size; omega) hpl (by omega) ⟨ho.ok, A5, n5, k1, k2, rfl, hr.up fun b h => ⟨⟨by have := h.1; have := hb4.size; omega, h.2⟩, hgne b h.1⟩⟩
      replace hrest := hide hrest
      go_region_with (first
        | (go_at_call 57; refine (bagTwin A c l _ hsml.out (hA.bl hw3.drew)).mono ?_; rintro e w4 ⟨g, rfl, hown, hb40⟩; have hb4 : Bl w3 w4 := (Bl.refl w3).drew.trans hb40; clear hb40; obtain ⟨y0, y1, y2, y3, y4⟩ := kA.out w4 hb4)
        | (go_at_call 59; refine (opTwin o S d _ (ho.bl (hw3.trans hb4)) hsmo.out).mono ?_; rintro e w5 ⟨A5, n5, rfl, q1, q2, hr5, hb5⟩; obtain ⟨z0, z1, z2, z3, z4⟩ := kA.out w5 (hb4.trans hb5))
        | (go_at_call 58; refine (hrest.out w4 g w5 A5 n5 hown hb4 hb5 q1 q2 hr5).mono ?_; rintro e w6 ⟨A6, c6, rfl, j1, j2, hr6, hb6⟩))
      all_goals
        go_wp2_with fail
        go_ret2
        exact ⟨A6, c6, rfl, j1, j2, hr6.more hwz, Below.trans (B := w.heap.size) ((hw3.trans hb4).trans hb5) (Below.mono hb6 hwz)⟩
  · rw [hh] at hput hLe hwh
    have e2 : N = 0 := by rw [hput]; rfl
    have e1 : L = l := by rw [hLe, e2]; rfl
    replace hwh := hide hwh
    subst e1 e2
    clear hLe hput hh
    go_enter Tryz.func18, Tryz.ntmps18
    go_wp2_with fail
    refine (hchk.out _ hV0).mono ?_
    rintro e w1 ⟨rfl, hb1⟩
    obtain ⟨x0, x1, x2, x3, x4⟩ := (at0.bl hb1).cells
    have hlx := (at0.bl hb1).lt
    go_wp2_with fail
    refine (hone.out _ (hV0.trans hb1)).mono ?_
    rintro e w2 ⟨rfl, hb2⟩
    have hb12 := hb1.trans hb2
    clear x0 x1 x2 x3 x4 hlx
    obtain ⟨x0, x1, x2, x3, x4⟩ := (at0.bl hb12).cells
    have hlx := (at0.bl hb12).lt
    go_wp2_with fail
    refine (hwh.out _ (hV0.trans hb12)).mono ?_
    rintro e w3 ⟨rfl, hb3⟩
    have hw3 := (hV0.trans hb12).trans hb3
    go_wp2_with fail
    refine (bagTwin A c L _ hsml.out (hA.bl hw3)).mono ?_
    rintro e w4 ⟨g, rfl, hown, hb4⟩
    go_wp2_with fail
    go_ret2
    obtain ⟨A', c', ee, hr5, k1, k2⟩ := hown.reads
    injection ee with ee1 _ ee2
    subst ee1 ee2
    exact ⟨_, _, rfl, k1, k2, hr5.more hw3.size, hw3.trans hb4⟩

end Go.Proofs.YteoodmilcpmmpaaGreat

namespace Go.Proofs.YteoodmilcpmmpaaGreat

open Go.RowKit

set_option maxHeartbeats 1000000 in
theorem refSame06 (A B : Option Addr) (c d : Nat) (l m : List Run) (w : World) (hl : l.length ≤ maxLen) (_hm : m.length ≤ maxLen) (hA : R cRun 0 w A l) (hB : R cRun 0 w B m) :
    Calls Tryz.prog 15 #[.slice A l.length c, .slice B m.length d] w fun e w' => e = .returned (.bool (same l m)) ∧ Bl w w' := by
  unfold maxLen at hl
  by_cases hne : l.length = m.length
  · have hne1 : ((l.length : Int) != (m.length : Int)) = false := by simp [hne]
    have hle : l.length ≤ m.length := by omega
    have hle' : m.length ≤ l.length := by omega
    clear hne
    go_enter Tryz.func15, Tryz.ntmps15
    go_wp2
    go_loopw [5] (fun i wr => Bl w wr ∧ ∃ k : Nat, k ≤ l.length ∧ i = .int .i64 k ∧ Hid (decide (l = m) = decide (l.drop k = m.drop k))) (fun i _ => l.length - (intOf i).toNat)
    case atStart => exact ⟨Bl.refl _, 0, Nat.zero_le _, rfl, rfl⟩
    case round =>
      obtain ⟨hbl, k, hk, rfl, hf⟩ := hrel
      by_cases hlt : k < l.length
      · have hR := hA.bl hbl
        have hS := hB.bl hbl
        obtain ⟨b, off, rfl, _, hb⟩ := hR.addr (by omega)
        obtain ⟨b', off', rfl, _, hb'⟩ := hS.addr (by omega)
        obtain ⟨x, hx⟩ := get_lt hlt
        obtain ⟨y, hy⟩ := get_lt (show k < m.length by omega)
        obtain ⟨_, ho, c0, c1, c2⟩ := hR.run hx
        obtain ⟨_, ho', d0, d1, d2⟩ := hS.run hy
        have C0 := fun p : Wd wr => Wd.cell c0 hb p
        have C1 := fun p : Wd wr => Wd.cell c1 hb p
        have C2 := fun p : Wd wr => Wd.cell c2 hb p
        have D0 := fun p : Wd wr => Wd.cell d0 hb' p
        have D1 := fun p : Wd wr => Wd.cell d1 hb' p
        have D2 := fun p : Wd wr => Wd.cell d2 hb' p
        clear c0 c1 c2 d0 d1 d2
        have hx := hide hx
        have hy := hide hy
        have hi : (k : Int) < (l.length : Int) := by omega
        have hi' : (k : Int) < (m.length : Int) := by omega
        have hne := run_neqRun x y
        cases hq : neqRun x y
        · have g := hide (drop_eq_step hf.out hx.out hy.out (neqRun_false hq))
          rw [hq] at hne
          clear hq
          go_wp2
          (refine wp_region_wd (by kernel_rfl) (by kernel_rfl) ?_
           repeat (go_big_quiet_step ((fail)))
           refine wpQuiet_nil ?_
           intro w2 hw'
           obtain ⟨⟨wx, hb2⟩, hw''⟩ := hw'
           subst hw'')
          go_wp2
          go_roundw
          case rel => exact ⟨hbl.trans hb2, k + 1, by omega, by go_num, g⟩
          case measure => simp [intOf]; omega
        · have g := hide (drop_ne_step hf.out hx.out hy.out (neqRun_true hq))
          rw [hq] at hne
          clear hq
          go_wp2
          (refine wp_region_wd (by kernel_rfl) (by kernel_rfl) ?_
           repeat (go_big_quiet_step ((fail)))
           refine wpQuiet_nil ?_
           intro w2 hw'
           obtain ⟨⟨wx, hb2⟩, hw''⟩ := hw'
           subst hw'')
          go_wp2
          go_ret
          exact ⟨ret_bool g.out, hbl.trans hb2⟩
      · have hkl : l.length ≤ k := by omega
        go_wp2
        go_ret
        exact ⟨ret_bool (drop_eq_end hf.out hkl (by omega)), hbl⟩
  · have hne1 : ((l.length : Int) != (m.length : Int)) = true := by simp; omega
    go_enter Tryz.func15, Tryz.ntmps15
    go_wp2
    go_ret
    exact ⟨ret_bool (ne_of_length hne), Bl.refl _⟩

theorem eqOp_parts9 (x y : Op) : eqOp x y = (x.kind == y.kind && (!neqId x.id y.id && (same x.pl y.pl && x.pt == y.pt))) := by
  rw [eqOp_parts, Bool.and_comm (x.pt == y.pt)]

set_option maxRecDepth 100000 in
set_option maxHeartbeats 2000000 in
theorem refSame09 (x y : Op) (A B : Option Addr) (c d : Nat) (w : World) (hx : OpIn w x A c) (hy : OpIn w y B d) :
    Calls Tryz.prog 108 #[.agg #[.int .u8 x.kind, .int .u32 x.id.t, .int .u8 x.id.r, .slice A x.pl.length c, .int .i64 x.pt], .agg #[.int .u8 y.kind, .int .u32 y.id.t, .int .u8 y.id.r, .slice B y.pl.length d, .int .i64 y.pt]] w fun e w' => e = .returned (.bool (eqOp x y)) ∧ Bl w w' := by
  obtain ⟨T, hT⟩ : ∃ T, T = eqOp x y := ⟨_, rfl⟩
  rw [← hT]
  rw [eqOp_parts9] at hT
  have heq := run_eqId x.id y.id
  obtain ⟨W, hW⟩ : ∃ W, W = (w.alloc (.cells #[Value.int IntKind.u8 x.kind, Value.int IntKind.u32 x.id.t, Value.int IntKind.u8 x.id.r, Value.slice A x.pl.length c, Value.int IntKind.i64 x.pt] 47)).alloc (.cells #[Value.int IntKind.u8 y.kind, Value.int IntKind.u32 y.id.t, Value.int IntKind.u8 y.id.r, Value.slice B y.pl.length d, Value.int IntKind.i64 y.pt] 47) := ⟨_, rfl⟩
  have hbW : Bl w W := by rw [hW]; exact ((Bl.refl _).alloc _).alloc _
  have at0 : OpBox W w.heap.size x A c := by rw [hW]; exact (OpBox.new w x A c _).bl ((Bl.refl _).alloc _)
  have at1 : OpBox W (w.heap.size + 1) y B d := by
    rw [hW]
    have := OpBox.new (w.alloc (.cells #[Value.int IntKind.u8 x.kind, Value.int IntKind.u32 x.id.t, Value.int IntKind.u8 x.id.r, Value.slice A x.pl.length c, Value.int IntKind.i64 x.pt] 47)) y B d 47
    rw [World.size_alloc] at this
    exact this
  have hbl : ∀ o1 o2, Bl w ((w.alloc o1).alloc o2) := fun _ _ => ((Bl.refl _).alloc _).alloc _
  have hs := hide (refSame06 A B c d x.pl y.pl W hx.small hy.small (hx.hR.bl hbW) (hy.hR.bl hbW))
  cases h1 : (x.kind == y.kind)
  · rw [h1] at hT
    have g := hide (show false = T from hT.symm ▸ rfl)
    clear hT
    go_enter Tryz.func108, Tryz.ntmps108
    go_wp2_with fail
    go_ret
    exact ⟨ret_bool g.out, hbl _ _⟩
  rw [h1] at hT
  cases h2 : neqId x.id y.id
  rotate_left
  · rw [h2] at hT heq
    have g := hide (show false = T from hT.symm ▸ rfl)
    clear hT h2
    go_enter Tryz.func108, Tryz.ntmps108
    go_wp2_with fail
    go_ret
    exact ⟨ret_bool g.out, hbl _ _⟩
  rw [h2] at hT heq
  clear h2
  have hT' : T = (same x.pl y.pl && x.pt == y.pt) := hT
  clear hT
  cases h3 : same x.pl y.pl
  · rw [h3] at hT' hs
    have g := hide (show false = T from hT'.symm ▸ rfl)
    clear hT' h3
    go_enter Tryz.func108, Tryz.ntmps108
    go_wp2_with fail
    rw [← hW]
    clear hW
    refine hs.out.mono ?_
    rintro e w1 ⟨rfl, hb1⟩
    go_wp2_with fail
    go_ret
    exact ⟨ret_bool g.out, hbW.trans hb1⟩
  · rw [h3] at hT' hs
    have hT2 : (x.pt == y.pt) = T := by rw [hT']; rfl
    clear hT' h3
    go_enter Tryz.func108, Tryz.ntmps108
    go_wp2_with fail
    rw [← hW]
    clear hW
    refine hs.out.mono ?_
    rintro e w1 ⟨rfl, hb1⟩
    obtain ⟨x0, x1, x2, x3, x4⟩ := (at0.bl hb1).cells
    obtain ⟨y0, y1, y2, y3, y4⟩ := (at1.bl hb1).cells
    have hl0 := (at0.bl hb1).lt
    have hl1 := (at1.bl hb1).lt
    go_wp2_with fail
    go_ret
    exact ⟨rfl, hbW.trans hb1⟩

set_option maxRecDepth 100000 in
set_option maxHeartbeats 1000000 in
theorem refSame10 (A B : Option Addr) (c d : Nat) (l m : List Op) (w : World) (hl : l.length ≤ maxLen) (_hm : m.length ≤ maxLen) (hA : R cOp 0 w A l) (hB : R cOp 0 w B m) :
    Calls Tryz.prog 50 #[.slice A l.length c, .slice B m.length d] w fun e w' => e = .returned (.bool (same l m)) ∧ Bl w w' := by
  unfold maxLen at hl
  by_cases hne : l.length = m.length
  · have hne1 : ((l.length : Int) != (m.length : Int)) = false := by simp [hne]
    have hle : l.length ≤ m.length := by omega
    have hle' : m.length ≤ l.length := by omega
    clear hne
    go_enter Tryz.func50, Tryz.ntmps50
    go_wp2
    go_loopw [5] (fun i wr => Bl w wr ∧ ∃ k : Nat, k ≤ l.length ∧ i = .int .i64 k ∧ Hid (decide (l = m) = decide (l.drop k = m.drop k))) (fun i _ => l.length - (intOf i).toNat)
    case atStart => exact ⟨Bl.refl _, 0, Nat.zero_le _, rfl, rfl⟩
    case round =>
      obtain ⟨hbl, k, hk, rfl, hf⟩ := hrel
      by_cases hlt : k < l.length
      · have hR := hA.bl hbl
        have hS := hB.bl hbl
        obtain ⟨b, off, rfl, _, hb⟩ := hR.addr (by omega)
        obtain ⟨b', off', rfl, _, hb'⟩ := hS.addr (by omega)
        obtain ⟨x, hx⟩ := get_lt hlt
        obtain ⟨y, hy⟩ := get_lt (show k < m.length by omega)
        obtain ⟨_, ho, A1, a1, ha1, ha2, hA1, c0, c1, c2, c3, c4⟩ := hR.op hx
        obtain ⟨_, ho', B1, b1, hb1, hb2, hB1, d0, d1, d2, d3, d4⟩ := hS.op hy
        have C0 := fun p : Wd wr => Wd.cell c0 hb p
        have C1 := fun p : Wd wr => Wd.cell c1 hb p
        have C2 := fun p : Wd wr => Wd.cell c2 hb p
        have C3 := fun p : Wd wr => Wd.cell c3 hb p
        have C4 := fun p : Wd wr => Wd.cell c4 hb p
        have D0 := fun p : Wd wr => Wd.cell d0 hb' p
        have D1 := fun p : Wd wr => Wd.cell d1 hb' p
        have D2 := fun p : Wd wr => Wd.cell d2 hb' p
        have D3 := fun p : Wd wr => Wd.cell d3 hb' p
        have D4 := fun p : Wd wr => Wd.cell d4 hb' p
        clear c0 c1 c2 c3 c4 d0 d1 d2 d3 d4
        have hx := hide hx
        have hy := hide hy
        have hi : (k : Int) < (l.length : Int) := by omega
        have hi' : (k : Int) < (m.length : Int) := by omega
        have hxo : OpIn wr x A1 a1 := ⟨ho, ha1, ha2, hA1⟩
        have hyo : OpIn wr y B1 b1 := ⟨ho', hb1, hb2, hB1⟩
        have hcall := fun pw : Wd wr => refSame09 x y A1 B1 a1 b1 pw.v (hxo.bl pw.h) (hyo.bl pw.h)
        cases hq : eqOp x y
        · have g := hide (drop_ne_step hf.out hx.out hy.out (eqOp_false hq))
          rw [hq] at hcall
          have hcall := hide hcall
          clear hq
          go_wp2
          (refine wp_region_wd (by kernel_rfl) (by kernel_rfl) ?_
           repeat (go_big_quiet_step ((go_at_call 108; exact Calls.wd (hcall.out _))))
           refine wpQuiet_nil ?_
           intro w2 hw'
           obtain ⟨⟨wx, hb2⟩, hw''⟩ := hw'
           subst hw'')
          go_wp2
          go_ret
          exact ⟨ret_bool g.out, hbl.trans hb2⟩
        · have g := hide (drop_eq_step hf.out hx.out hy.out (eqOp_true hq))
          rw [hq] at hcall
          have hcall := hide hcall
          clear hq
          go_wp2
          (refine wp_region_wd (by kernel_rfl) (by kernel_rfl) ?_
           repeat (go_big_quiet_step ((go_at_call 108; exact Calls.wd (hcall.out _))))
           refine wpQuiet_nil ?_
           intro w2 hw'
           obtain ⟨⟨wx, hb2⟩, hw''⟩ := hw'
           subst hw'')
          go_wp2
          go_roundw
          case rel => exact ⟨hbl.trans hb2, k + 1, by omega, by go_num, g⟩
          case measure => simp [intOf]; omega
      · have hkl : l.length ≤ k := by omega
        go_wp2
        go_ret
        exact ⟨ret_bool (drop_eq_end hf.out hkl (by omega)), hbl⟩
  · have hne1 : ((l.length : Int) != (m.length : Int)) = true := by simp; omega
    go_enter Tryz.func50, Tryz.ntmps50
    go_wp2
    go_ret
    exact ⟨ret_bool (ne_of_length hne), Bl.refl _⟩

end Go.Proofs.YteoodmilcpmmpaaGreat

namespace Go.Proofs.YteoodmilcpmmpaaGreat

open Go.RowKit Go.Shelf Go.Lib

end Go.Proofs.YteoodmilcpmmpaaGreat
