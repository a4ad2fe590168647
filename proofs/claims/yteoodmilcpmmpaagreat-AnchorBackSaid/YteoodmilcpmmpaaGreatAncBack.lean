/-
  Plain: an anchor is found where it is; with more operations it is found where it is seen, or at the first that is seen behind it.
  The walk of AnchorBack.
-/
import Derived.Test.YteoodmilcpmmpaaGreatAncA
import Derived.Test.YteoodmilcpmmpaaGreatAncAlive
namespace Go.Proofs.YteoodmilcpmmpaaGreat
open Go.RowKit

theorem elem_home {l : List Op} {s : Id} {x : Op} (h : bagMay l = true) (hx : x ∈ elemsL l s) : homeF (livesF l) x.pl = s := by
  have h1 := foldl_ins (shownL (countL l s)) [] (fun x hx => by cases hx) (shown_mk h) List.Pairwise.nil (by rw [List.nil_append]; exact shown_ids h)
  rcases (h1.2 x).1 hx with h2 | h2
  · cases h2
  · have h3 := (List.mem_filter.1 (List.mem_filter.1 h2).1).1
    have h4 := (List.mem_filter.1 h3).2
    rw [Bool.and_eq_true, decide_eq_true_eq] at h4
    exact h4.2

theorem pos_own {L : List Op} {i : Nat} {x : Op} (hm : ∀ x ∈ L, Mk x) (hs : SrtP L) (hi : L[i]? = some x) : posP L x.pl = i := by
  have hx := hm x (List.mem_of_getElem? hi)
  have hlt := (List.getElem?_eq_some_iff.1 hi).1
  refine CutP.pos ⟨fun k y hk hy => hs.get hy hi hk, fun k y hk hy => ?_⟩ (by omega)
  by_cases e : k = i
  · subst e
    rw [hi] at hy
    cases hy
    have := hx.irr
    omega
  · have h1 := hs.get hi hy (by omega)
    have h2 := hx.anti (hm y (List.mem_of_getElem? hy))
    omega

theorem fnd_of {l : List Op} {p : List Run} (hb : bagMay l = true) (hp : placeMay p = true) : fndB l p = true ∧ fndS l p = homeF (livesF l) p ∧ fndK l p = (posP (elemsL l (homeF (livesF l) p)) p : Int) := by
  have h : fndB l p = true := by unfold fndB; rw [hb, hp]; rfl
  unfold fndS fndK
  rw [h, if_pos rfl, if_pos rfl]
  exact ⟨rfl, rfl, rfl⟩

/-- What was anchored is found where it is. -/
theorem anchor_found {l : List Op} {s : Id} {k : Int} (h : atN l s k = 0) : bagMay l = true ∧ placeMay (atX l s k).pl = true ∧ fndB l (atX l s k).pl = true ∧ fndS l (atX l s k).pl = s ∧ fndK l (atX l s k).pl = k := by
  obtain ⟨h1, h2, h3, h4⟩ := at_zero h
  rw [view_zero h1] at h3 h4
  have hb := (where_zero h1).1
  have hm := (at_mk h).may
  obtain ⟨f1, f2, f3⟩ := fnd_of hb hm
  have hh := elem_home hb (List.mem_of_getElem? h4)
  refine ⟨hb, hm, f1, f2.trans hh, ?_⟩
  rw [f3, hh, pos_own (elems_mk hb) (elems_srt hb) h4]
  omega

theorem anchor_none {l : List Op} {s : Id} {k : Int} (h : atN l s k ≠ 0) : (atX l s k).pl.length = 0 := by
  unfold atX
  rw [if_neg h]
  rfl

/-- Where a place is found in any bag. -/
theorem anchor_seen {l : List Op} {p : List Run} (hb : bagMay l = true) (hp : placeMay p = true) :
    whereN l (fndS l p) 0 = 0 ∧ ∃ n : Nat, fndK l p = n ∧ n ≤ (viewL l (fndS l p)).length ∧ (∀ m x, m + 1 = n → (viewL l (fndS l p))[m]? = some x → plCmp x.pl p < 0) ∧ (∀ x, (viewL l (fndS l p))[n]? = some x → plCmp p x.pl ≤ 0) := by
  obtain ⟨f1, f2, f3⟩ := fnd_of hb hp
  have hz := fnd_zero hb hp
  rw [f2, view_zero hz]
  have hm := elems_mk (s := homeF (livesF l) p) hb
  have hc := cutP_pos hm (elems_srt hb) (may_pos hp)
  have hpa : plAny p = true := by unfold plAny; rw [hp, Bool.or_true]
  refine ⟨hz, _, f3, posP_le _ _, fun m x e hx => ?_, fun x hx => ?_⟩
  · rw [mk_cmpL (hm x (List.mem_of_getElem? hx)) hpa]
    exact hc.lo m x (by omega) hx
  · rw [mk_cmpR (hm x (List.mem_of_getElem? hx)) hpa]
    have := hc.hi _ x (Nat.le_refl _) hx
    omega

theorem addL_le (l : List Op) (o : Op) : (addL l o).length ≤ l.length + 1 := by
  unfold addL
  split
  · split
    · omega
    · rw [List.length_append, List.length_cons, List.length_take, List.length_drop]
      omega
  · simp

end Go.Proofs.YteoodmilcpmmpaaGreat

namespace Go.Proofs.YteoodmilcpmmpaaGreat
open Go.RowKit

set_option maxRecDepth 100000 in
set_option maxHeartbeats 16000000 in
theorem anchorBack17 (A B : Option Addr) (c d : Nat) (l more : List Op) (s : Id) (k : Int) (w : World) (hl : l.length ≤ 140737488355328) (hm : more.length ≤ 140737488355328) (hk : i64ok k) (hA : R cOp 0 w A l) (hB : R cOp 0 w B more) :
    Calls Tryz.prog 4 #[.slice A l.length c, .agg #[.int .u32 s.t, .int .u8 s.r], .int .i64 k, .slice B more.length d] w fun e w' => e = .returned (.bool true) ∧ Bl w w' := by
  have hlm : l.length ≤ maxLen := by unfold maxLen; omega
  have hmm : more.length ≤ maxLen := by unfold maxLen; omega
  obtain ⟨k1, k2⟩ := hk
  obtain ⟨W, hW⟩ : ∃ W, W = w.alloc (.cells #[Value.int IntKind.u32 s.t, Value.int IntKind.u8 s.r] 25) := ⟨_, rfl⟩
  have hbW : Bl w W := by rw [hW]; exact (Bl.refl _).alloc _
  have at0 : IdBox W w.heap.size s := by rw [hW]; exact IdBox.new w s _
  have hga := hide (fun V (hb : Bl w V) => refGreat10 A c l 30 V hl (hA.bl hb))
  have hgb := hide (fun V (hb : Bl w V) => refGreat10 B d more 10 V hm (hB.bl hb))
  go_enter Tryz.func4, Tryz.ntmps4
  go_wp2_with fail
  rw [← hW]
  clear hW
  refine (lawAlive17 _).mono ?_
  rintro e w0 ⟨rfl, hb0⟩
  have hbw0 := hbW.trans hb0
  go_wp2_with fail
  refine (hga.out _ hbw0).mono ?_
  rintro e w1 ⟨ba, rfl, hfa, hb1⟩
  have hbw1 := hbw0.trans hb1
  cases ba
  rotate_left
  · clear hfa hgb
    go_wp2_with fail
    go_ret
    exact ⟨rfl, hbw1⟩
  have hl30 : l.length ≤ 30 := by have := (hfa rfl).1; omega
  clear hfa hga
  go_wp2_with fail
  refine (hgb.out _ hbw1).mono ?_
  rintro e w2 ⟨bb, rfl, hfb, hb2⟩
  have hbw2 := hbw1.trans hb2
  have hbW2 := hb0.trans (hb1.trans hb2)
  cases bb
  rotate_left
  · clear hfb
    go_wp2_with fail
    go_ret
    exact ⟨rfl, hbw2⟩
  have hm10 : more.length ≤ 10 := by have := (hfb rfl).1; omega
  clear hfb hgb
  obtain ⟨i0, i1, -, -⟩ := at0.bl hbW2
  have hil := (at0.bl hbW2).lt
  have hmk := hide (anchorMake A c l s k w2 (by omega) (hA.bl hbw2))
  have hfd := hide fun P pc V (hv : Bl w V) (hP : R cRun 0 V P (atX l s k).pl) => anchorFind A P c pc l (atX l s k).pl V hlm (Nat.le_trans at_place (by unfold maxLen; omega)) (hA.bl hv) hP
  by_cases hN : atN l s k = 0
  rotate_left
  · have hp0 := anchor_none hN
    have hNz : (atN l s k == 0) = false := by rw [beq_eq_false_iff_ne]; exact hN
    have hpz : (((atX l s k).pl.length : Int) == 0) = true := by rw [hp0]; rfl
    replace hp0 := hide hp0
    replace hN := hide hN
    clear hfd
    generalize atN l s k = N at *
    go_wp2_with fail
    refine hmk.out.mono ?_
    rintro e w3 ⟨P, pc, rfl, p1, p2, hP, hb3⟩
    go_wp2_with fail
    go_ret
    exact ⟨rfl, hbw2.trans hb3⟩
  obtain ⟨hbm, hpm, f1, f2, f3⟩ := anchor_found hN
  rw [f1, f2, f3, okOr_true] at hfd
  rw [hN] at hmk
  have hps := (placeMay_parts hpm).2.1
  clear hN f1 f2 f3
  generalize (atX l s k).pl = p at *
  go_wp2_with fail
  refine hmk.out.mono ?_
  rintro e w3 ⟨P, pc, rfl, p1, p2, hP, hb3⟩
  have hbw3 := hbw2.trans hb3
  clear i0 i1 hil hmk
  go_wp2_with fail
  refine (hfd.out P pc _ hbw3 hP.zero).mono ?_
  rintro e w4 ⟨rfl, hb4⟩
  have hbw4 := hbw3.trans hb4
  have hbW4 := hbW2.trans (hb3.trans hb4)
  obtain ⟨i0, i1, -, -⟩ := at0.bl hbW4
  have hil := (at0.bl hbW4).lt
  have hne := run_neqId s s
  rw [neqId_self] at hne
  obtain ⟨V4, hV4⟩ : ∃ V4, V4 = w4.alloc (.cells #[Value.int IntKind.u32 s.t, Value.int IntKind.u8 s.r] 25) := ⟨_, rfl⟩
  have atT : IdBox V4 w4.heap.size s := by rw [hV4]; exact IdBox.new w4 s _
  have hb4V : Bl w4 V4 := by rw [hV4]; exact (Bl.refl _).alloc _
  have hsz4 : w.heap.size ≤ w4.heap.size := hbw4.size
  clear hfd
  go_wp2_with fail
  rw [← hV4]
  clear hV4 i0 i1 hil hne
  have hbV := hbw4.trans hb4V
  go_loopw [0, 15] (fun v i wr => Bl w3 wr ∧ ∃ (j : Nat) (l' : List Op) (A' : Option Addr) (c' : Nat) (q : Id), j ≤ more.length ∧ i = .int .i64 j ∧ v = .slice A' l'.length c' ∧ l'.length ≤ 30 + j ∧ bagMay l' = true ∧ ((A' = A ∧ l' = l) ∨ R cOp (w4.heap.size + 1) wr A' l') ∧ IdBox wr w4.heap.size q) (fun _ i _ => more.length - (intOf i).toNat)
  case atStart => exact ⟨hb4.trans hb4V, 0, l, A, c, s, Nat.zero_le _, rfl, rfl, by omega, hbm, .inl ⟨rfl, rfl⟩, atT⟩
  case round =>
    clear hbm atT
    obtain ⟨hbl, j, l', A', c', q, hj, rfl, rfl, hlj, hbm, hor, atT⟩ := hrel
    have hblw := hbw3.trans hbl
    have hA' : R cOp 0 wr A' l' := by
      rcases hor with ⟨rfl, rfl⟩ | h
      · exact hA.bl hblw
      · exact h.zero
    have hTl := atT.lt
    have hlm' : l'.length ≤ maxLen := by unfold maxLen; omega
    by_cases hlt : j < more.length
    · obtain ⟨b, off, rfl, _, hb⟩ := hB.addr (by omega)
      obtain ⟨x, hx⟩ := get_lt hlt
      obtain ⟨_, ho, S, sc, s1, s2, hS, c0, c1, c2, c3, c4⟩ := (hB.bl hblw).op hx
      have hji : (j : Int) < (more.length : Int) := by omega
      have hadd := hide (bagAdd A' S c' sc l' x wr hlm' hA' ⟨ho, s1, s2, hS⟩)
      have hle := addL_le l' x
      by_cases hN : addN l' x = 0
      · have hmay := hide (addL_may hN)
        rw [hN] at hadd
        clear hx hN
        generalize addL l' x = l2 at *
        go_wp2_with fail
        refine hadd.out.mono ?_
        rintro e w5 ⟨A5, c5, rfl, q1, q2, hr5, hb5⟩
        go_wp2_with fail
        go_roundw
        case rel => exact ⟨hbl.trans hb5, j + 1, l2, A5, c5, q, by omega, by go_num, rfl, by omega, hmay.out, .inr (hr5.more hTl), atT.bl hb5⟩
        case measure => simp [intOf]; omega
      · have hNz : (addN l' x == 0) = false := by rw [beq_eq_false_iff_ne]; exact hN
        replace hN := hide hN
        clear hx
        generalize addL l' x = l2 at *
        generalize addN l' x = N at *
        go_wp2_with fail
        refine hadd.out.mono ?_
        rintro e w5 ⟨A5, c5, rfl, q1, q2, hr5, hb5⟩
        go_wp2_with fail
        go_roundw
        case rel => exact ⟨hbl.trans hb5, j + 1, l', A', c', q, by omega, by go_num, rfl, by omega, hbm, hor.imp id (fun h => h.bl hb5), atT.bl hb5⟩
        case measure => simp [intOf]; omega
    · have hji : ¬ (j : Int) < (more.length : Int) := by omega
      have hfd := hide (anchorFind A' P c' pc l' p wr hlm' (by unfold maxLen; omega) hA' (hP.zero.bl hbl))
      obtain ⟨f1, -, -⟩ := fnd_of hbm hpm
      obtain ⟨g1, n, g2, g3, g4, g5⟩ := anchor_seen hbm hpm
      have hve := hide fun V (hv : R cOp 0 V A' l') => viewElements A' c' l' (fndS l' p) V (by omega) hv
      rw [f1, g2, okOr_true] at hfd
      rw [g1] at hve
      have hvs : (viewL l' (fndS l' p)).length ≤ l'.length := elems_small
      generalize fndS l' p = t at *
      generalize viewL l' t = E at *
      clear g1 g2 f1
      have hsz3 : w3.heap.size ≤ w4.heap.size := hb4.size
      go_wp2_with fail
      refine hfd.out.mono ?_
      rintro e w5 ⟨rfl, hb5⟩
      have atT5 := (atT.bl hb5).set t
      obtain ⟨y0, y1, y2, y3⟩ := atT.bl hb5
      have hyl := (atT.bl hb5).lt
      have hb35 : Bl w3 ((w5.setCell ⟨w4.heap.size, 0, none⟩ (.int .u32 t.t)).setCell ⟨w4.heap.size, 1, none⟩ (.int .u8 t.r)) := ((hbl.trans hb5).setCell (p := ⟨w4.heap.size, 0, none⟩) hsz3 _).setCell (p := ⟨w4.heap.size, 1, none⟩) hsz3 _
      have hA5 : R cOp 0 ((w5.setCell ⟨w4.heap.size, 0, none⟩ (.int .u32 t.t)).setCell ⟨w4.heap.size, 1, none⟩ (.int .u8 t.r)) A' l' := by
        rcases hor with ⟨rfl, rfl⟩ | h
        · exact hA.bl (hbw3.trans hb35)
        · exact (((h.bl hb5).set (p := ⟨w4.heap.size, 0, none⟩) (Nat.lt_succ_self _) _).set (p := ⟨w4.heap.size, 1, none⟩) (Nat.lt_succ_self _) _).zero
      obtain ⟨V5, hV5⟩ : ∃ V5, V5 = (w5.setCell ⟨w4.heap.size, 0, none⟩ (.int .u32 t.t)).setCell ⟨w4.heap.size, 1, none⟩ (.int .u8 t.r) := ⟨_, rfl⟩
      rw [← hV5] at atT5 hb35 hA5
      have hP5 := hP.zero.bl hb35
      clear hor hA'
      go_upto_region 17 with fail
      rw [← hV5]
      clear hV5 y0 y1 y2 y3 hyl
      obtain ⟨t0, t1, -, -⟩ := atT5
      go_wp2_with fail
      refine (hve.out _ hA5).mono ?_
      rintro e w6 ⟨Y, y, rfl, y1, y2, hY, hb6⟩
      have hbw6 := (hbw3.trans hb35).trans hb6
      have hn0 : ¬ (n : Int) < 0 := by omega
      have hnl : ¬ (E.length : Int) < (n : Int) := by omega
      have hpm64 : p.length ≤ maxLen := by unfold maxLen; omega
      have hEl : E.length ≤ 1048576 := by omega
      clear t0 t1 hve hfd
      have hcm1 := hide fun (x : Op) (S : Option Addr) (sc : Nat) V (hv : Bl w6 V) (h : x.pl.length ≤ maxLen) (hS : R cRun 0 w6 S x.pl) => placeCompareD S P sc pc x.pl p V h hpm64 (hS.bl hv) (hP5.bl (hb6.trans hv))
      have hcm2 := hide fun (x : Op) (S : Option Addr) (sc : Nat) V (hv : Bl w6 V) (h : x.pl.length ≤ maxLen) (hS : R cRun 0 w6 S x.pl) => placeCompareD P S pc sc p x.pl V hpm64 h (hP5.bl (hb6.trans hv)) (hS.bl hv)
      replace g4 := hide g4
      replace g5 := hide g5
      by_cases hE0 : E.length = 0
      · have hnz : n = 0 := by omega
        have e0 : decide ((0 : Int) < (n : Int)) = false := decide_eq_false (by omega)
        have e0' : decide (0 < n) = false := decide_eq_false (by omega)
        have e1 : ((n : Int) == (E.length : Int)) = true := by rw [hE0, hnz]; rfl
        have e1' : (n == E.length) = true := by rw [hE0, hnz]; rfl
        replace hE0 := hide hE0
        replace hnz := hide hnz
        go_wp2_with fail
        go_ret
        exact ⟨rfl, hbw6⟩
      obtain ⟨yb, yo, rfl, _, hyb⟩ := hY.addr (by omega)
      by_cases hn : 0 < n
      · obtain ⟨m, hmn⟩ : ∃ m : Nat, m + 1 = n := ⟨n - 1, by omega⟩
        have e0 : decide ((0 : Int) < (n : Int)) = true := decide_eq_true (by omega)
        have e0' : decide (0 < n) = true := decide_eq_true (by omega)
        have ew : IntKind.i64.wrap ((n : Int) - 1) = (m : Int) := by rw [IntWalk.i64_in _ (by omega)]; omega
        have hml : (m : Int) < (E.length : Int) := by omega
        have hml2 : m < E.length := by omega
        obtain ⟨x, hx⟩ := get_lt hml2
        obtain ⟨_, ho, S, sc, s1, s2, hS, -, -, x2, -⟩ := hY.el hx
        have hc := g4.out m x hmn hx
        have hcall := hide (hcm1.out x S sc w6 (Bl.refl _) (Nat.le_trans s1 s2) hS.zero)
        have ec : decide (0 ≤ plCmp x.pl p) = false := decide_eq_false (by omega)
        generalize plCmp x.pl p = C at *
        clear hc hx hcm1
        go_wp2_with fail
        refine hcall.out.mono ?_
        rintro e w7 ⟨rfl, hb7⟩
        clear x2
        by_cases hnE : n = E.length
        · have e1 : ((n : Int) == (E.length : Int)) = true := by rw [hnE]; simp
          have e1' : (n == E.length) = true := by rw [hnE]; simp
          replace hnE := hide hnE
          go_wp2_with fail
          go_ret
          exact ⟨rfl, hbw6.trans hb7.bl⟩
        · have e1 : ((n : Int) == (E.length : Int)) = false := by simp; omega
          have e1' : (n == E.length) = false := by simp; omega
          have hnl3 : (n : Int) < (E.length : Int) := by omega
          have hnl2 : n < E.length := by omega
          obtain ⟨z, hz⟩ := get_lt hnl2
          obtain ⟨_, zo, Z, zc, z1, z2, hZ, -, -, d2, -⟩ := hY.el hz
          have hc2 := g5.out z hz
          have hcall2 := hide (hcm2.out z Z zc w7 hb7.bl (Nat.le_trans z1 z2) hZ.zero)
          have ec2 : decide (plCmp p z.pl ≤ 0) = true := decide_eq_true hc2
          replace d2 := ((hb7.bl).cell hyb).trans d2
          generalize plCmp p z.pl = C2 at *
          clear hc2 hz
          go_wp2_with fail
          refine hcall2.out.mono ?_
          rintro e w8 ⟨rfl, hb8⟩
          go_wp2_with fail
          go_ret
          exact ⟨rfl, hbw6.trans ((hb7.bl).trans hb8.bl)⟩
      · have e0 : decide ((0 : Int) < (n : Int)) = false := decide_eq_false (by omega)
        have e0' : decide (0 < n) = false := decide_eq_false (by omega)
        have hb7 : Bl w6 w6 := Bl.refl _
        obtain ⟨w7, hw7⟩ : ∃ w7, w7 = w6 := ⟨_, rfl⟩
        subst hw7
        by_cases hnE : n = E.length
        · have e1 : ((n : Int) == (E.length : Int)) = true := by rw [hnE]; simp
          have e1' : (n == E.length) = true := by rw [hnE]; simp
          replace hnE := hide hnE
          go_wp2_with fail
          go_ret
          exact ⟨rfl, hbw6.trans hb7⟩
        · have e1 : ((n : Int) == (E.length : Int)) = false := by simp; omega
          have e1' : (n == E.length) = false := by simp; omega
          have hnl3 : (n : Int) < (E.length : Int) := by omega
          have hnl2 : n < E.length := by omega
          obtain ⟨z, hz⟩ := get_lt hnl2
          obtain ⟨_, zo, Z, zc, z1, z2, hZ, -, -, d2, -⟩ := hY.el hz
          have hc2 := g5.out z hz
          have hcall2 := hide (hcm2.out z Z zc w7 hb7 (Nat.le_trans z1 z2) hZ.zero)
          have ec2 : decide (plCmp p z.pl ≤ 0) = true := decide_eq_true hc2
          replace d2 := ((hb7).cell hyb).trans d2
          generalize plCmp p z.pl = C2 at *
          clear hc2 hz
          go_wp2_with fail
          refine hcall2.out.mono ?_
          rintro e w8 ⟨rfl, hb8⟩
          go_wp2_with fail
          go_ret
          exact ⟨rfl, hbw6.trans ((hb7).trans hb8.bl)⟩
end Go.Proofs.YteoodmilcpmmpaaGreat
