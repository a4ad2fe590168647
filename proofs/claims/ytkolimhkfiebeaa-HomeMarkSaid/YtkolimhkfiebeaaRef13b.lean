/-
  The walks of the references All, Of, Ahead, Begin, Span of layer 13.
-/
import Derived.Test.YtkolimhkfiebeaaRef12
import Derived.Test.YtkolimhkfiebeaaRef13
import Derived.Test.YtkolimhkfiebeaaRefB
namespace Go.Proofs.Ytkolimhkfiebeaa
open Go.RowKit

/-- The live marks, of a bag that may be. -/
theorem livesOf (A : Option Addr) (c : Nat) (l : List Op) (w : World) (h : bagMay l = true) (hA : R cOp 0 w A l) :
    Calls Try.prog 81 #[.slice A l.length c] w fun e w' => ∃ A' c', e = .returned (.slice A' (livesF l).length c') ∧ (livesF l).length ≤ c' ∧ c' ≤ maxLen ∧ R cOp 0 w' A' (livesF l) ∧ Bl w w' :=
  refLives12 A c l w (Nat.le_trans (bagMay_parts h).1 (by decide)) (bag_places h) hA

set_option maxRecDepth 100000 in
set_option maxHeartbeats 1000000 in
theorem refAll13 (A : Option Addr) (c : Nat) (l : List Op) (w : World) (hl : l.length ≤ maxLen) (hA : R cOp 0 w A l) :
    Calls Try.prog 24 #[.slice A l.length c] w fun e w' => ∃ A' c', e = .returned (.tuple #[.slice A' (allL l).length c', .int .i64 (okOr 8 (bagMay l))]) ∧ (allL l).length ≤ c' ∧ c' ≤ maxLen ∧ R cId 0 w' A' (allL l) ∧ Bl w w' := by
  have hmay := refMay11 A c l w hl hA
  obtain ⟨L, hL⟩ : ∃ L, L = allL l := ⟨_, rfl⟩
  rw [← hL]
  cases h : bagMay l
  · rw [h] at hmay
    have e1 : L = [] := by rw [hL]; unfold allL; rw [h]; rfl
    subst e1
    replace hmay := hide hmay
    clear hL h
    go_enter Try.func24, Try.ntmps24
    go_wp2_with fail
    refine (hmay.out).mono ?_
    rintro e w1 ⟨rfl, hb1⟩
    go_wp2_with fail
    go_ret2
    exact ⟨none, 0, rfl, Nat.le_refl _, Nat.zero_le _, R.nil, hb1⟩
  · rw [h] at hmay
    have hlv := hide fun V (hv : Bl w V) => livesOf A c l V h (hA.bl hv)
    have hsm := lives_small h
    have e1 := hide (show L = sectF (livesF l) by rw [hL]; unfold allL; rw [h]; rfl)
    clear hL h
    generalize livesF l = M at *
    replace hmay := hide hmay
    go_enter Try.func24, Try.ntmps24
    go_wp2_with fail
    refine (hmay.out).mono ?_
    rintro e w1 ⟨rfl, hb1⟩
    go_wp2_with fail
    refine (hlv.out _ hb1).mono ?_
    rintro e w2 ⟨X, x, rfl, x1, x2, hX, hb2⟩
    go_wp2_with fail
    refine (refSect13 X x M _ (by omega) hX).mono ?_
    rintro e w3 ⟨Y, y, rfl, y1, y2, hY, hb3⟩
    go_wp2_with fail
    go_ret2
    rw [e1.out]
    exact ⟨Y, y, rfl, y1, y2, hY.zero, hb1.trans (hb2.trans hb3)⟩

set_option maxRecDepth 100000 in
set_option maxHeartbeats 2000000 in
theorem refOf13 (A B : Option Addr) (c d : Nat) (l : List Op) (p : List Run) (w : World) (hl : l.length ≤ maxLen) (hpd : p.length ≤ d) (hdm : d ≤ maxLen) (hA : R cOp 0 w A l) (hB : R cRun 0 w B p) :
    Calls Try.prog 26 #[.slice A l.length c, .slice B p.length d] w fun e w' => e = .returned (.tuple #[.agg #[.int .u32 (ofS l p).t, .int .u8 (ofS l p).r], .int .i64 (ofN l p)]) ∧ Bl w w' := by
  have hmay := fun V (hv : Bl w V) => refMay11 A c l V hl (hA.bl hv)
  have hany := fun V (hv : Bl w V) => refAny06 B d p V (Nat.le_trans hpd hdm) (hB.bl hv)
  obtain ⟨q, hq⟩ : ∃ q, q = ofS l p := ⟨_, rfl⟩
  obtain ⟨N, hN⟩ : ∃ N, N = ofN l p := ⟨_, rfl⟩
  rw [← hq, ← hN]
  unfold ofS at hq
  unfold ofN at hN
  obtain ⟨W, hW⟩ : ∃ W, W = w.alloc (.cells #[Value.int IntKind.u32 0, Value.int IntKind.u8 0] 36) := ⟨_, rfl⟩
  have hbW : Bl w W := by rw [hW]; exact (Bl.refl _).alloc _
  have at0 : IdBox W w.heap.size ⟨0, 0⟩ := by rw [hW]; exact IdBox.new w ⟨0, 0⟩ _
  have hout : ∀ (V : World) (s : Id), Bl w V → Bl w ((V.setCell ⟨w.heap.size, 0, none⟩ (.int .u32 s.t)).setCell ⟨w.heap.size, 1, none⟩ (.int .u8 s.r)) := fun V s hV => (hV.setCell (Nat.le_refl _) _).setCell (Nat.le_refl _) _
  replace hout := hide hout
  cases h : bagMay l
  · rw [h] at hmay hq hN
    have e1 : q = ⟨0, 0⟩ := hq
    have e2 : N = 8 := hN
    subst e1 e2
    replace hmay := hide hmay
    clear hq hN h hany
    go_enter Try.func26, Try.ntmps26
    go_wp2_with fail
    rw [← hW]
    clear hW
    refine (hmay.out _ hbW).mono ?_
    rintro e w1 ⟨rfl, hb1⟩
    obtain ⟨y0, y1, f0, f1⟩ := at0.bl hb1
    have hyl := (at0.bl hb1).lt
    go_wp2_with fail
    refine bodyPost_ret (v := .tuple #[.agg #[.int .u32 0, .int .u8 0], .int .i64 8]) (by simp [results, Try.results26, go_sem, y0, y1]) rfl ?_
    exact ⟨rfl, hout.out w1 ⟨0, 0⟩ (hbW.trans hb1)⟩
  rw [h] at hmay hq hN
  replace hmay := hide hmay
  cases h2 : plAny p
  · rw [h2] at hany hq hN
    have e1 : q = ⟨0, 0⟩ := hq
    have e2 : N = 8 := hN
    subst e1 e2
    replace hany := hide hany
    clear hq hN h h2
    go_enter Try.func26, Try.ntmps26
    go_wp2_with fail
    rw [← hW]
    clear hW
    refine (hmay.out _ hbW).mono ?_
    rintro e w1 ⟨rfl, hb1⟩
    go_wp2_with fail
    refine (hany.out _ (hbW.trans hb1)).mono ?_
    rintro e w2 ⟨rfl, hb2⟩
    have hb12 := hb1.trans hb2
    obtain ⟨y0, y1, f0, f1⟩ := at0.bl hb12
    have hyl := (at0.bl hb12).lt
    go_wp2_with fail
    refine bodyPost_ret (v := .tuple #[.agg #[.int .u32 0, .int .u8 0], .int .i64 8]) (by simp [results, Try.results26, go_sem, y0, y1]) rfl ?_
    exact ⟨rfl, hout.out w2 ⟨0, 0⟩ (hbW.trans hb12)⟩
  · rw [h2] at hany hq hN
    have e2 : N = 0 := hN
    have e1 : q = homeF (livesF l) p := hq
    subst e2
    have hlv := hide fun V (hv : Bl w V) => livesOf A c l V h (hA.bl hv)
    have hsm := lives_small h
    have hpl := hide (lives_places h)
    generalize livesF l = M at *
    have hho := fun X x V (hX : R cOp 0 V X M) (hv : Bl w V) => refHome13 X B x d M p V (by unfold maxLen; omega) hpl.out h2 hpd hdm hX (hB.bl hv)
    replace hany := hide hany
    rw [← e1] at hho
    replace hho := hide hho
    clear hq hN h h2 e1
    go_enter Try.func26, Try.ntmps26
    go_wp2_with fail
    rw [← hW]
    clear hW
    refine (hmay.out _ hbW).mono ?_
    rintro e w1 ⟨rfl, hb1⟩
    go_wp2_with fail
    refine (hany.out _ (hbW.trans hb1)).mono ?_
    rintro e w2 ⟨rfl, hb2⟩
    have hb12 := hb1.trans hb2
    go_wp2_with fail
    refine (hlv.out _ (hbW.trans hb12)).mono ?_
    rintro e w3 ⟨X, x, rfl, x1, x2, hX, hb3⟩
    have hb13 := hb12.trans hb3
    go_wp2_with fail
    refine (hho.out X x _ hX (hbW.trans hb13)).mono ?_
    rintro e w4 ⟨rfl, hb4⟩
    have hb14 := hb13.trans hb4
    obtain ⟨y0, y1, f0, f1⟩ := at0.bl hb14
    have hyl := (at0.bl hb14).lt
    go_wp2_with fail
    refine bodyPost_ret (v := .tuple #[.agg #[.int .u32 q.t, .int .u8 q.r], .int .i64 0]) (by simp [results, Try.results26, go_sem, y0, y1]) rfl ?_
    exact ⟨rfl, hout.out w4 q (hbW.trans hb14)⟩

set_option maxRecDepth 100000 in
set_option maxHeartbeats 1000000 in
theorem refBegin13 (A : Option Addr) (c k : Nat) (l : List Op) (w : World) (hl : l.length ≤ 1048576) (hk : k ≤ 1048577) (hA : R cOp 0 w A l) :
    Calls Try.prog 89 #[.slice A l.length c, .int .i64 k] w (NewO cRun (beginF l k) w) := by
  match k, hk with
  | 0, _ =>
    go_enter Try.func89, Try.ntmps89
    go_wp2_with fail
    go_ret
    exact ⟨none, 0, rfl, Nat.le_refl _, Nat.zero_le _, R.nil, Bl.refl _⟩
  | k + 1, hk =>
    by_cases hlt : k < l.length
    · obtain ⟨b, off, rfl, _, hb⟩ := hA.addr (by omega)
      obtain ⟨x, hx⟩ := get_lt hlt
      obtain ⟨_, ho, S, sc, s1, s2, hS, c0, c1, c2, c3, c4⟩ := hA.op hx
      have hbe := hide (show beginF l (k + 1) = x.pl by unfold beginF; dsimp only; rw [hx])
      have hki : ¬ ((k + 1 : Nat) : Int) < 1 := by omega
      have hki2 : ¬ (l.length : Int) < ((k + 1 : Nat) : Int) := by omega
      have hki3 : ((k + 1 : Nat) : Int) - 1 = (k : Int) := by omega
      have hki4 : (k : Int) < (l.length : Int) := by omega
      clear hx
      go_enter Try.func89, Try.ntmps89
      go_wp2_with fail
      go_ret
      rw [hbe.out]
      exact ⟨S, sc, rfl, s1, s2, hS, Bl.refl _⟩
    · have hbe := hide (show beginF l (k + 1) = [] by unfold beginF; dsimp only; rw [List.getElem?_eq_none (by omega)])
      have hki : ¬ ((k + 1 : Nat) : Int) < 1 := by omega
      have hki2 : (l.length : Int) < ((k + 1 : Nat) : Int) := by omega
      go_enter Try.func89, Try.ntmps89
      go_wp2_with fail
      go_ret
      rw [hbe.out]
      exact ⟨none, 0, rfl, Nat.le_refl _, Nat.zero_le _, R.nil, Bl.refl _⟩

theorem whereN_bad {l : List Op} {s : Id} {least : Int} (h : bagMay l = false) : whereN l s least = 8 := by unfold whereN; rw [h]; rfl

theorem whereN_good {l : List Op} {s : Id} {least : Int} (h : bagMay l = true) : whereN l s least = if whereF (livesF l) s < least then 130 else 0 := by unfold whereN; rw [h]; rfl

set_option maxRecDepth 100000 in
set_option maxHeartbeats 2000000 in
theorem refAhead13 (A : Option Addr) (c : Nat) (l : List Op) (s : Id) (w : World) (hl : l.length ≤ maxLen) (hA : R cOp 0 w A l) :
    Calls Try.prog 28 #[.slice A l.length c, .agg #[.int .u32 s.t, .int .u8 s.r]] w fun e w' => e = .returned (.tuple #[.agg #[.int .u32 (aheadS l s).t, .int .u8 (aheadS l s).r], .int .i64 (whereN l s 1)]) ∧ Bl w w' := by
  have hmay := fun V (hv : Bl w V) => refMay11 A c l V hl (hA.bl hv)
  obtain ⟨q, hq⟩ : ∃ q, q = aheadS l s := ⟨_, rfl⟩
  obtain ⟨N, hN⟩ : ∃ N, N = whereN l s 1 := ⟨_, rfl⟩
  rw [← hq, ← hN]
  unfold aheadS at hq
  rw [← hN] at hq
  obtain ⟨W, hW⟩ : ∃ W, W = (w.alloc (.cells #[Value.int IntKind.u32 s.t, Value.int IntKind.u8 s.r] 36)).alloc (.cells #[Value.int IntKind.u32 0, Value.int IntKind.u8 0] 36) := ⟨_, rfl⟩
  have hbW : Bl w W := by rw [hW]; exact ((Bl.refl _).alloc _).alloc _
  have at0 : IdBox W w.heap.size s := by rw [hW]; exact (IdBox.new w s _).bl ((Bl.refl _).alloc _)
  have at1 : IdBox W (w.heap.size + 1) ⟨0, 0⟩ := by
    have h := IdBox.new (w.alloc (.cells #[Value.int IntKind.u32 s.t, Value.int IntKind.u8 s.r] 36)) ⟨0, 0⟩ 36
    rw [World.size_alloc w] at h
    rw [hW]
    exact h
  have hout : ∀ (V : World) (s : Id), Bl w V → Bl w ((V.setCell ⟨w.heap.size + 1, 0, none⟩ (.int .u32 s.t)).setCell ⟨w.heap.size + 1, 1, none⟩ (.int .u8 s.r)) := fun V s hV => (hV.setCell (Nat.le_succ _) _).setCell (Nat.le_succ _) _
  replace hout := hide hout
  cases h : bagMay l
  · rw [h] at hmay
    have e2 : N = 8 := hN.trans (whereN_bad h)
    subst e2
    have e1 : q = ⟨0, 0⟩ := hq
    subst e1
    replace hmay := hide hmay
    clear hq hN h
    go_enter Try.func28, Try.ntmps28
    go_wp2_with fail
    rw [← hW]
    clear hW
    refine (hmay.out _ hbW).mono ?_
    rintro e w1 ⟨rfl, hb1⟩
    obtain ⟨y0, y1, f0, f1⟩ := at1.bl hb1
    have hyl := (at1.bl hb1).lt
    go_wp2_with fail
    refine bodyPost_ret (v := .tuple #[.agg #[.int .u32 0, .int .u8 0], .int .i64 8]) (by simp [results, Try.results28, go_sem, y0, y1]) rfl ?_
    exact ⟨rfl, hout.out w1 ⟨0, 0⟩ (hbW.trans hb1)⟩
  rw [h] at hmay
  replace hmay := hide hmay
  have hlv := hide fun V (hv : Bl w V) => livesOf A c l V h (hA.bl hv)
  have hsm := lives_small h
  rw [whereN_good h] at hN
  have hwr := fun X x V (hX : R cOp 0 V X (livesF l)) => refWhere13 X x (livesF l) s V (by omega) hX
  have hse := hide fun X x V (hX : R cOp 0 V X (livesF l)) => refSect13 X x (livesF l) V (by omega) hX
  obtain ⟨k, hk⟩ : ∃ k, k = whereF (livesF l) s := ⟨_, rfl⟩
  rw [← hk] at hN hwr
  replace hwr := hide hwr
  rw [show idxOf (sectF (livesF l)) s = k from hk.symm] at hq
  have hkl : k < (((livesF l).length + 1 : Nat) : Int) := by rw [hk, ← sect_length]; exact idx_le _ _
  generalize livesF l = M at *
  have hsl := sect_length M
  generalize sectF M = S at *
  clear hk h
  go_enter Try.func28, Try.ntmps28
  go_wp2_with fail
  rw [← hW]
  clear hW
  refine (hmay.out _ hbW).mono ?_
  rintro e w1 ⟨rfl, hb1⟩
  go_wp2_with fail
  refine (hlv.out _ (hbW.trans hb1)).mono ?_
  rintro e w2 ⟨X, x, rfl, x1, x2, hX, hb2⟩
  have hb12 := hb1.trans hb2
  obtain ⟨z0, z1, -, -⟩ := at0.bl hb12
  go_wp2_with fail
  refine (hwr.out X x _ hX).mono ?_
  rintro e w3 ⟨rfl, hb3⟩
  have hb13 := hb12.trans hb3
  clear z0 z1
  by_cases hk1 : k < 1
  · rw [if_pos hk1] at hN
    subst hN
    have e1 : q = ⟨0, 0⟩ := hq
    subst e1
    clear hq
    obtain ⟨y0, y1, f0, f1⟩ := at1.bl hb13
    have hyl := (at1.bl hb13).lt
    go_wp2_with fail
    refine bodyPost_ret (v := .tuple #[.agg #[.int .u32 0, .int .u8 0], .int .i64 130]) (by simp [results, Try.results28, go_sem, y0, y1]) rfl ?_
    exact ⟨rfl, hout.out w3 ⟨0, 0⟩ (hbW.trans hb13)⟩
  · rw [if_neg hk1] at hN
    subst hN
    rw [if_pos rfl] at hq
    obtain ⟨j, hj⟩ : ∃ j, j = k.toNat - 1 := ⟨_, rfl⟩
    have hkj : k - 1 = (j : Int) := by omega
    rw [← hj] at hq
    obtain ⟨y, hy⟩ := get_lt (show j < S.length by omega)
    have e1 : q = y := by rw [hq, hy]; rfl
    subst e1
    have hjs : (j : Int) < (S.length : Int) := by omega
    replace hj := hide hj
    have hslb : S.length ≤ 1025 := by omega
    clear hq hkl
    go_wp2_with fail
    refine (hse.out X x _ (hX.bl hb3)).mono ?_
    rintro e w4 ⟨Y, yc, rfl, y1, y2, hY, hb4⟩
    have hb14 := hb13.trans hb4
    obtain ⟨b, off, rfl, _, hb⟩ := hY.addr (by omega)
    obtain ⟨_, ho, c0, c1⟩ := hY.id hy
    obtain ⟨y0, y1, f0, f1⟩ := at1.bl hb14
    have hyl := (at1.bl hb14).lt
    clear hy
    go_wp2_with fail
    refine bodyPost_ret (v := .tuple #[.agg #[.int .u32 q.t, .int .u8 q.r], .int .i64 0]) (by simp [results, Try.results28, go_sem, y0, y1]) rfl ?_
    exact ⟨rfl, hout.out w4 q (hbW.trans hb14)⟩

set_option maxRecDepth 100000 in
set_option maxHeartbeats 2000000 in
theorem refSpan13 (A : Option Addr) (c : Nat) (l : List Op) (s : Id) (w : World) (hl : l.length ≤ maxLen) (hA : R cOp 0 w A l) :
    Calls Try.prog 30 #[.slice A l.length c, .agg #[.int .u32 s.t, .int .u8 s.r]] w fun e w' => ∃ (X Y : Option Addr) (x y : Nat), e = .returned (.tuple #[.slice X (spanA l s).length x, .slice Y (spanB l s).length y, .int .i64 (whereN l s 0)]) ∧ (spanA l s).length ≤ x ∧ x ≤ maxLen ∧ (spanB l s).length ≤ y ∧ y ≤ maxLen ∧ R cRun 0 w' X (spanA l s) ∧ R cRun 0 w' Y (spanB l s) ∧ Bl w w' := by
  have hmay := fun V (hv : Bl w V) => refMay11 A c l V hl (hA.bl hv)
  obtain ⟨p, hp⟩ : ∃ p, p = spanA l s := ⟨_, rfl⟩
  obtain ⟨q, hq⟩ : ∃ q, q = spanB l s := ⟨_, rfl⟩
  obtain ⟨N, hN⟩ : ∃ N, N = whereN l s 0 := ⟨_, rfl⟩
  rw [← hp, ← hq, ← hN]
  unfold spanA at hp
  unfold spanB at hq
  rw [← hN] at hp hq
  obtain ⟨W, hW⟩ : ∃ W, W = w.alloc (.cells #[Value.int IntKind.u32 s.t, Value.int IntKind.u8 s.r] 36) := ⟨_, rfl⟩
  have hbW : Bl w W := by rw [hW]; exact (Bl.refl _).alloc _
  have at0 : IdBox W w.heap.size s := by rw [hW]; exact IdBox.new w s _
  cases h : bagMay l
  · rw [h] at hmay
    have e2 : N = 8 := hN.trans (whereN_bad h)
    subst e2
    have e1 : p = [] := hp
    have e3 : q = [] := hq
    subst e1 e3
    replace hmay := hide hmay
    clear hq hp hN h
    go_enter Try.func30, Try.ntmps30
    go_wp2_with fail
    rw [← hW]
    clear hW
    refine (hmay.out _ hbW).mono ?_
    rintro e w1 ⟨rfl, hb1⟩
    go_wp2_with fail
    go_ret3
    exact ⟨none, none, 0, 0, rfl, Nat.le_refl _, Nat.zero_le _, Nat.le_refl _, Nat.zero_le _, R.nil, R.nil, hbW.trans hb1⟩
  rw [h] at hmay
  replace hmay := hide hmay
  have hlv := hide fun V (hv : Bl w V) => livesOf A c l V h (hA.bl hv)
  have hsm := lives_small h
  rw [whereN_good h] at hN
  have hwr := fun X x V (hX : R cOp 0 V X (livesF l)) => refWhere13 X x (livesF l) s V (by omega) hX
  have hbe := hide fun X x k V (hk : k ≤ 1025) (hX : R cOp 0 V X (livesF l)) => refBegin13 X x k (livesF l) V (by omega) (by omega) hX
  obtain ⟨k, hk⟩ : ∃ k, k = whereF (livesF l) s := ⟨_, rfl⟩
  rw [← hk] at hN hwr
  replace hwr := hide hwr
  rw [show idxOf (sectF (livesF l)) s = k from hk.symm] at hp hq
  have hkl : k < (((livesF l).length + 1 : Nat) : Int) := by rw [hk, ← sect_length]; exact idx_le _ _
  generalize livesF l = M at *
  clear hk h
  go_enter Try.func30, Try.ntmps30
  go_wp2_with fail
  rw [← hW]
  clear hW
  refine (hmay.out _ hbW).mono ?_
  rintro e w1 ⟨rfl, hb1⟩
  go_wp2_with fail
  refine (hlv.out _ (hbW.trans hb1)).mono ?_
  rintro e w2 ⟨X, x, rfl, x1, x2, hX, hb2⟩
  have hb12 := hb1.trans hb2
  obtain ⟨z0, z1, -, -⟩ := at0.bl hb12
  go_wp2_with fail
  refine (hwr.out X x _ hX).mono ?_
  rintro e w3 ⟨rfl, hb3⟩
  have hb13 := hb12.trans hb3
  clear z0 z1
  by_cases hk1 : k < 0
  · rw [if_pos hk1] at hN
    subst hN
    have e1 : p = [] := hp
    have e3 : q = [] := hq
    subst e1 e3
    clear hq hp
    go_wp2_with fail
    go_ret3
    exact ⟨none, none, 0, 0, rfl, Nat.le_refl _, Nat.zero_le _, Nat.le_refl _, Nat.zero_le _, R.nil, R.nil, hbW.trans hb13⟩
  · rw [if_neg hk1] at hN
    subst hN
    rw [if_pos rfl] at hp hq
    obtain ⟨n, rfl⟩ : ∃ n : Nat, k = (n : Int) := ⟨k.toNat, by omega⟩
    rw [Int.toNat_natCast] at hp hq
    obtain ⟨n1, hn1⟩ : ∃ n1, n1 = n + 1 := ⟨_, rfl⟩
    rw [← hn1] at hq
    have hnn : (n : Int) + 1 = (n1 : Int) := by omega
    have hX3 := hX.bl hb3
    have hb1' := hide (hbe.out X x n w3 (by omega) hX3)
    replace hp := hide hp
    replace hq := hide hq
    have hnb : n ≤ 1024 := by omega
    have hnb1 : n1 ≤ 1025 := by omega
    replace hn1 := hide hn1
    clear hkl hk1
    go_wp2_with fail
    refine hb1'.out.mono ?_
    rintro e w4 ⟨Y, y, rfl, y1, y2, hY, hb4⟩
    have hb2' := hide (hbe.out X x n1 w4 hnb1 (hX3.bl hb4))
    rw [← hp.out] at y1 hY ⊢
    go_wp2_with fail
    refine hb2'.out.mono ?_
    rintro e w5 ⟨Z, z, rfl, z1, z2, hZ, hb5⟩
    rw [← hq.out] at z1 hZ ⊢
    go_wp2_with fail
    go_ret3
    exact ⟨Y, Z, y, z, rfl, y1, y2, z1, z2, hY.bl hb5, hZ, hbW.trans (hb13.trans (hb4.trans hb5))⟩
end Go.Proofs.Ytkolimhkfiebeaa
