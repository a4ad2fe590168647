/-
  The walks of cover.some and its closure, and of cover.Counts.
-/
import Derived.Test.YteoodmilcpmmpaaGreatCover
import Derived.Test.YteoodmilcpmmpaaGreatLessB
namespace Go.Proofs.YteoodmilcpmmpaaGreat

open Go.RowKit

/-- What stays. -/
def keepS (l : List Op) (s : Id) (o : Op) : Bool := contentO o && (decide (homeF (livesF l) o.pl = s) && backF l s o.pl (manyO o).toNat)

set_option maxRecDepth 100000 in
set_option maxHeartbeats 4000000 in
theorem coverKeep (l : List Op) (s : Id) (x : Op) (A F T : Option Addr) (c cf ct Y b1 b2 : Nat) (fr tu : List Run) (f : Id → Int) (w : World) (hk : Knows l s fr tu f) (hx : OpIn w x A c) (hm : placeMay x.pl = true) (hs : SectAt w fr tu f F cf T ct Y) (h1 : At w b1 0 [.slice F fr.length cf, .slice T tu.length ct, .func (.func 202) #[] #[.pointer (some ⟨Y, 0, none⟩)]]) (h2 : w.cell? ⟨b2, 0, none⟩ = some (.func (.func 116) #[] #[])) :
    Calls Tryz.prog 165 #[.agg #[.int .u8 x.kind, .int .u32 x.id.t, .int .u8 x.id.r, .slice A x.pl.length c, .int .i64 x.pt], .pointer (some ⟨b1, 0, none⟩), .pointer (some ⟨b2, 0, none⟩)] w fun e w' => e = .returned (.bool (!keepS l s x)) ∧ Bl w w' := by
  obtain ⟨W, hW⟩ : ∃ W, W = w.alloc (.cells #[Value.int IntKind.u8 x.kind, Value.int IntKind.u32 x.id.t, Value.int IntKind.u8 x.id.r, Value.slice A x.pl.length c, Value.int IntKind.i64 x.pt] 47) := ⟨_, rfl⟩
  have hbW : Bl w W := by rw [hW]; exact (Bl.refl _).alloc _
  have at0 : OpBox W w.heap.size x A c := by rw [hW]; exact OpBox.new w x A c _
  have at1 := h1.bl hbW (by simp)
  have hl1 := Nat.lt_of_lt_of_le (h1.lt (by simp)) hbW.size
  have hl2 := Nat.lt_of_lt_of_le (World.block_lt_of_cell? _ _ h2) hbW.size
  have at2 := (hbW.cell (World.block_lt_of_cell? _ _ h2)).trans h2
  obtain ⟨x0, x1, x2, x3, x4⟩ := at0.cells
  have hl0 := at0.lt
  have hf1 := Nat.le_trans hs.f1 hs.f2
  have ht1 := Nat.le_trans hs.t1 hs.t2
  have hcon := hide (opContent x A c W)
  have hinV := fun V (hv : Bl W V) => sectIn fr tu x.pl F T A cf ct c (.func (.func 202) #[] #[.pointer (some ⟨Y, 0, none⟩)]) V hf1 ht1 (Nat.le_trans hx.h1 hx.h2) (hs.hF.bl (hbW.trans hv)) (hs.hT.bl (hbW.trans hv)) (hx.hR.bl (hbW.trans hv))
  rw [hk.hin x.pl (may_any hm)] at hinV
  obtain ⟨B, hB⟩ : ∃ B, B = !keepS l s x := ⟨_, rfl⟩
  rw [← hB]
  unfold keepS at hB
  by_cases hc : contentO x = true
  · have hcoV := fun V (hv : Bl W V) => sectCounts l s x A F T c cf ct Y fr tu f V hk (hx.bl (hbW.trans hv)) hm hc (hs.bl (hbW.trans hv))
    rw [hc, Bool.true_and] at hB
    rw [hc] at hcon
    by_cases hh : homeF (livesF l) x.pl = s
    · rw [decide_eq_true hh, Bool.true_and] at hB
      rw [decide_eq_true hh] at hinV
      replace hinV := hide hinV
      replace hcoV := hide hcoV
      generalize backF l s x.pl (manyO x).toNat = K at *
      replace hB := hide hB
      clear hc hh hk
      go_enter Tryz.func165, Tryz.ntmps165
      go_wp2_with fail
      rw [← hW]
      clear hW
      refine hcon.out.mono ?_
      rintro e w1 ⟨rfl, hb1⟩
      obtain ⟨y0, y1, y2, y3, y4⟩ := (at0.bl hb1).cells
      have h11 := at1.bl hb1 (by simp)
      have z0 := (h11 0 _ rfl).1
      have z1 := (h11 1 _ rfl).1
      have z2 := (h11 2 _ rfl).1
      simp only [Nat.zero_add] at z0 z1 z2
      clear x0 x1 x2 x3 x4
      go_wp2_with fail
      refine (hinV.out _ hb1).mono ?_
      rintro e w2 ⟨rfl, hb2⟩
      have hb12 := hb1.trans hb2
      obtain ⟨x0, x1, x2, x3, x4⟩ := (at0.bl hb12).cells
      have h12 := at1.bl hb12 (by simp)
      have u0 := (h12 0 _ rfl).1
      have u1 := (h12 1 _ rfl).1
      have u2 := (h12 2 _ rfl).1
      simp only [Nat.zero_add] at u0 u1 u2
      have a2 := (hb12.cell hl2).trans at2
      clear y0 y1 y2 y3 y4 z0 z1 z2
      go_wp2_with fail
      refine (hcoV.out _ hb12).mono ?_
      rintro e w3 ⟨rfl, hb3⟩
      go_wp2_with fail
      go_ret
      exact ⟨ret_bool hB.out.symm, hbW.trans (hb12.trans hb3)⟩
    · rw [decide_eq_false hh, Bool.false_and] at hB
      rw [decide_eq_false hh] at hinV
      replace hinV := hide hinV
      subst hB
      clear hc hh hk hcoV
      go_enter Tryz.func165, Tryz.ntmps165
      go_wp2_with fail
      rw [← hW]
      clear hW
      refine hcon.out.mono ?_
      rintro e w1 ⟨rfl, hb1⟩
      obtain ⟨y0, y1, y2, y3, y4⟩ := (at0.bl hb1).cells
      have h11 := at1.bl hb1 (by simp)
      have z0 := (h11 0 _ rfl).1
      have z1 := (h11 1 _ rfl).1
      have z2 := (h11 2 _ rfl).1
      simp only [Nat.zero_add] at z0 z1 z2
      clear x0 x1 x2 x3 x4
      go_wp2_with fail
      refine (hinV.out _ hb1).mono ?_
      rintro e w2 ⟨rfl, hb2⟩
      go_wp2_with fail
      go_ret
      exact ⟨rfl, hbW.trans (hb1.trans hb2)⟩
  · rw [Bool.not_eq_true] at hc
    rw [hc, Bool.false_and] at hB
    rw [hc] at hcon
    subst hB
    clear hc hk hinV
    go_enter Tryz.func165, Tryz.ntmps165
    go_wp2_with fail
    rw [← hW]
    clear hW
    refine hcon.out.mono ?_
    rintro e w1 ⟨rfl, hb1⟩
    clear x0 x1 x2 x3 x4
    go_wp2_with fail
    go_ret
    exact ⟨rfl, hbW.trans hb1⟩

theorem idx_get : ∀ {l : List Id} {s : Id}, 0 ≤ idxOf l s → l[(idxOf l s).toNat]? = some s
  | [], s, h => by
    unfold idxOf at h
    omega
  | x :: l, s, h => by
    unfold idxOf at h ⊢
    by_cases e : x = s
    · rw [if_pos e]
      subst e
      rfl
    · rw [if_neg e] at h ⊢
      by_cases e2 : idxOf l s < 0
      · rw [if_pos e2] at h
        omega
      · rw [if_neg e2]
        have h2 := idx_get (l := l) (s := s) (by omega)
        rw [show (idxOf l s + 1).toNat = (idxOf l s).toNat + 1 by omega, List.getElem?_cons_succ]
        exact h2

theorem where_zero {l : List Op} {s : Id} (h : whereN l s 0 = 0) : bagMay l = true ∧ (sectF (livesF l))[(idxOf (sectF (livesF l)) s).toNat]? = some s := by
  unfold whereN at h
  cases hb : bagMay l
  · rw [hb] at h
    simp at h
  · rw [hb, if_pos rfl] at h
    by_cases e : idxOf (sectF (livesF l)) s < 0
    · rw [if_pos e] at h
      omega
    · exact ⟨rfl, idx_get (by omega)⟩

theorem knows_of {l : List Op} {s : Id} (h : whereN l s 0 = 0) : Knows l s (spanA l s) (spanB l s) (heldN l) := by
  obtain ⟨hb, hi⟩ := where_zero h
  refine ⟨fun q hq => ?_, held_has l⟩
  have h1 := in_home hb hq hi
  unfold spanA spanB
  rw [if_pos h, if_pos h]
  have h2 : inB (beginF (livesF l) (idxOf (sectF (livesF l)) s).toNat) (beginF (livesF l) ((idxOf (sectF (livesF l)) s).toNat + 1)) q = inF (livesF l) q (idxOf (sectF (livesF l)) s).toNat := rfl
  rw [h2, h1, decide_eq_decide]
  exact eq_comm

theorem op_place {o : Op} (h : opMay o = true) : placeMay o.pl = true := by
  unfold opMay at h
  simp only [Bool.and_eq_true] at h
  exact h.1.2

theorem keep_count {l : List Op} {s : Id} (h : bagMay l = true) : (l.filter fun x => !(!keepS l s x)) = countL l s := by
  unfold countL inL
  rw [List.filter_filter]
  refine List.filter_congr fun x hx => ?_
  rw [Bool.not_not]
  unfold keepS
  cases hc : contentO x
  · rw [Bool.false_and, Bool.false_and, Bool.and_false]
  · rw [Bool.true_and, Bool.true_and]
    by_cases hh : homeF (livesF l) x.pl = s
    · have hp := op_place ((bagMay_parts h).2.2 x hx)
      rw [decide_eq_true hh, Bool.true_and, Bool.and_true, back_all h (may_pos hp) hh]
      rfl
    · rw [decide_eq_false hh, Bool.false_and, Bool.and_false]

/-- What of a section counts; nothing, if it is none. -/
def cntL (l : List Op) (s : Id) : List Op := if whereN l s 0 = 0 then countL l s else []

set_option maxRecDepth 100000 in
set_option maxHeartbeats 4000000 in
theorem coverSome (A : Option Addr) (c : Nat) (l : List Op) (s : Id) (w : World) (hl : l.length ≤ 1048576) (hA : R cOp 0 w A l) :
    Calls Tryz.prog 115 #[.slice A l.length c, .agg #[.int .u32 s.t, .int .u8 s.r], .func (.func 116) #[] #[]] w (New2 cOp (cntL l s) (whereN l s 0) w) := by
  obtain ⟨W, hW⟩ : ∃ W, W = (w.alloc (.cells #[Value.int IntKind.u32 s.t, Value.int IntKind.u8 s.r] 25)).alloc (.cells #[.func (.func 116) #[] #[]] 145) := ⟨_, rfl⟩
  have hbW : Bl w W := by rw [hW]; exact ((Bl.refl _).alloc _).alloc _
  have at0 : IdBox W w.heap.size s := by rw [hW]; exact (IdBox.new w s _).bl ((Bl.refl _).alloc _)
  have at1 : W.cell? ⟨w.heap.size + 1, 0, none⟩ = some (.func (.func 116) #[] #[]) := by
    have h := (At.new (w.alloc (.cells #[Value.int IntKind.u32 s.t, Value.int IntKind.u8 s.r] 25)) [.func (.func 116) #[] #[]] 145 0 _ rfl).1
    rw [World.size_alloc w] at h
    rw [hW]
    exact h
  obtain ⟨x0, x1, -, -⟩ := at0
  have hl1 := World.block_lt_of_cell? _ _ at1
  have hof := hide (coverOf A c l s W hl (hA.bl hbW))
  have hkn := hide (knows_of (l := l) (s := s))
  have hwz := hide (where_zero (l := l) (s := s))
  obtain ⟨L, hL⟩ : ∃ L, L = cntL l s := ⟨_, rfl⟩
  rw [← hL]
  unfold cntL at hL
  by_cases hN : whereN l s 0 = 0
  · rw [if_pos hN] at hL
    have hb := (hwz.out hN).1
    have hke := keep_count (s := s) hb
    rw [← hL] at hke
    have hsm := hide (bagMay_small hb)
    have hkn := hide (hkn.out hN)
    have hall := hide (fun x (hx : x ∈ l) => op_place ((bagMay_parts hb).2.2 x hx))
    rw [hN] at hof ⊢
    clear hL hN hb hwz
    go_enter Tryz.func115, Tryz.ntmps115
    go_wp2_with fail
    rw [← hW]
    clear hW
    refine hof.out.mono ?_
    rintro e w1 ⟨F, cf, T, ct, Y, rfl, hsec, hb1⟩
    obtain ⟨W2, hW2⟩ : ∃ W2, W2 = w1.alloc (.cells #[.slice F (spanA l s).length cf, .slice T (spanB l s).length ct, .func (.func 202) #[] #[.pointer (some ⟨Y, 0, none⟩)]] 148) := ⟨_, rfl⟩
    have hb12 : Bl w1 W2 := by rw [hW2]; exact (Bl.refl _).alloc _
    have at2 : At W2 w1.heap.size 0 [.slice F (spanA l s).length cf, .slice T (spanB l s).length ct, .func (.func 202) #[] #[.pointer (some ⟨Y, 0, none⟩)]] := by rw [hW2]; exact At.new w1 _ _
    have hbW2 := hb1.trans hb12
    have hsec2 := hsec.bl hb12
    have hbw2 := hbW.trans hbW2
    have at3 := (hbW2.cell hl1).trans at1
    have hl2 := Nat.lt_of_lt_of_le hl1 hbW2.size
    have hpred : PredO W2 165 #[.pointer (some ⟨w1.heap.size, 0, none⟩), .pointer (some ⟨w.heap.size + 1, 0, none⟩)] l (fun x => !keepS l s x) := fun V x A c hx hV hin => coverKeep l s x A F T c cf ct Y w1.heap.size (w.heap.size + 1) (spanA l s) (spanB l s) (heldN l) V hkn.out hin (hall.out x hx) (hsec2.bl hV) (at2.bl hV (by simp)) ((hV.cell hl2).trans at3)
    have hdel := hide fun (g : Nat) (V : World) (hV : Bl W2 V) hown => opDeleteFunc 165 #[.pointer (some ⟨w1.heap.size, 0, none⟩), .pointer (some ⟨w.heap.size + 1, 0, none⟩)] (enters_of Tryz.func165 (by kernel_rfl) rfl) g l.length l (fun x => !keepS l s x) W2 V rfl hV hl hown hpred
    rw [hke] at hdel
    clear hsec hsec2 hpred at2 at3 hke hb12 hkn
    go_wp2_with fail
    rw [← hW2]
    clear hW2
    refine (bagTwin A c l W2 hsm.out (hA.bl hbw2)).mono ?_
    rintro e w3 ⟨g, rfl, hown, hb3⟩
    have hdel2 := hide (hdel.out g w3 hb3 hown)
    clear hdel hown
    go_wp2_with fail
    refine hdel2.out.mono ?_
    rintro e w4 ⟨c4, rfl, q1, q2, hr4, hb4⟩
    go_wp2_with fail
    go_ret2
    exact ⟨_, c4, rfl, q1, q2, hr4.more hbw2.size, hbw2.trans hb4⟩
  · rw [if_neg hN] at hL
    subst hL
    have hNz : (whereN l s 0 == 0) = false := by rw [beq_eq_false_iff_ne]; exact hN
    generalize whereN l s 0 = N at *
    clear hwz hkn
    go_enter Tryz.func115, Tryz.ntmps115
    go_wp2_with fail
    rw [← hW]
    clear hW
    refine hof.out.mono ?_
    rintro e w1 ⟨F, cf, T, ct, Y, rfl, hsec, hb1⟩
    clear hsec
    go_wp2_with fail
    go_ret2
    exact ⟨none, 0, rfl, Nat.le_refl _, Nat.zero_le _, R.nil, (hbW.trans hb1).alloc _⟩

set_option maxRecDepth 100000 in
set_option maxHeartbeats 1000000 in
theorem coverCounts (A : Option Addr) (c : Nat) (l : List Op) (s : Id) (w : World) (hl : l.length ≤ 1048576) (hA : R cOp 0 w A l) :
    Calls Tryz.prog 60 #[.slice A l.length c, .agg #[.int .u32 s.t, .int .u8 s.r]] w (New2 cOp (cntL l s) (whereN l s 0) w) := by
  have hb : Bl w (w.alloc (.cells #[Value.int IntKind.u32 s.t, Value.int IntKind.u8 s.r] 25)) := (Bl.refl _).alloc _
  have hso := hide (coverSome A c l s _ hl (hA.bl hb))
  go_enter Tryz.func60, Tryz.ntmps60
  go_wp2_with fail
  refine hso.out.mono ?_
  rintro e w1 ⟨B, d, rfl, q1, q2, hB, hb1⟩
  go_wp2_with fail
  go_ret2
  exact ⟨B, d, rfl, q1, q2, hB.more hb.size, hb.trans hb1⟩

end Go.Proofs.YteoodmilcpmmpaaGreat
