/-
  The walks of the references At, Before of layer 15, Make, Find of layer 17.
-/
import Derived.Test.YteoodmilcpmmpaaGreatRef15
import Derived.Test.YteoodmilcpmmpaaGreatAncA
namespace Go.Proofs.YteoodmilcpmmpaaGreat
open Go.RowKit

/-! ### At -/

set_option maxRecDepth 100000 in
set_option maxHeartbeats 4000000 in
theorem refAt15 (A : Option Addr) (c : Nat) (l : List Op) (s : Id) (k : Int) (w : World) (hl : l.length ≤ 1048576) (hA : R cOp 0 w A l) :
    Calls Tryz.prog 38 #[.slice A l.length c, .agg #[.int .u32 s.t, .int .u8 s.r], .int .i64 k] w (El2 (atX l s k) (atN l s k) w) := by
  obtain ⟨W, hW⟩ : ∃ W, W = (w.alloc (.cells #[Value.int IntKind.u32 s.t, Value.int IntKind.u8 s.r] 25)).alloc (.cells #[Value.int IntKind.u32 0, Value.int IntKind.u8 0, Value.slice none 0 0, Value.int IntKind.i64 0] 53) := ⟨_, rfl⟩
  have hbW : Bl w W := by rw [hW]; exact ((Bl.refl _).alloc _).alloc _
  have hsW : W.heap.size = w.heap.size + 2 := by rw [hW, World.size_alloc, World.size_alloc]
  have at0 : ElBox W (w.heap.size + 1) zeroOp none 0 := by
    have h := ElBox.new (w.alloc (.cells #[Value.int IntKind.u32 s.t, Value.int IntKind.u8 s.r] 25)) zeroOp none 0 53
    rw [World.size_alloc w] at h
    rw [hW]
    exact h
  have idx : IdBox W w.heap.size s := by rw [hW]; exact (IdBox.new w s _).bl ((Bl.refl _).alloc _)
  obtain ⟨i0, i1, -, -⟩ := idx
  have hel := hide (refElements15 A c l s W hl (hA.bl hbW))
  have hout : ∀ (V : World) (y : Op) (S : Option Addr) (sc : Nat) (n : Int), y.pl.length ≤ sc → sc ≤ maxLen → R cRun (w.heap.size + 2) V S y.pl → Bl w V → El2 y n w (.returned (.tuple #[.agg #[.int .u32 y.id.t, .int .u8 y.id.r, .slice S y.pl.length sc, .int .i64 y.pt], .int .i64 n])) ((((V.setCell ⟨w.heap.size + 1, 0, none⟩ (.int .u32 y.id.t)).setCell ⟨w.heap.size + 1, 1, none⟩ (.int .u8 y.id.r)).setCell ⟨w.heap.size + 1, 2, none⟩ (.slice S y.pl.length sc)).setCell ⟨w.heap.size + 1, 3, none⟩ (.int .i64 y.pt)) := fun V y S sc n h1 h2 hR hV =>
    ⟨S, sc, rfl, h1, h2, ((((hR.set (p := ⟨w.heap.size + 1, 0, none⟩) (by show w.heap.size + 1 < _; omega) _).set (p := ⟨w.heap.size + 1, 1, none⟩) (by show w.heap.size + 1 < _; omega) _).set (p := ⟨w.heap.size + 1, 2, none⟩) (by show w.heap.size + 1 < _; omega) _).set (p := ⟨w.heap.size + 1, 3, none⟩) (by show w.heap.size + 1 < _; omega) _).more (by omega), (((hV.setCell (p := ⟨w.heap.size + 1, 0, none⟩) (Nat.le_succ _) _).setCell (p := ⟨w.heap.size + 1, 1, none⟩) (Nat.le_succ _) _).setCell (p := ⟨w.heap.size + 1, 2, none⟩) (Nat.le_succ _) _).setCell (p := ⟨w.heap.size + 1, 3, none⟩) (Nat.le_succ _) _⟩
  replace hout := hide hout
  obtain ⟨X, hX⟩ : ∃ X, X = atX l s k := ⟨_, rfl⟩
  obtain ⟨N, hN⟩ : ∃ N, N = atN l s k := ⟨_, rfl⟩
  have hXz : N ≠ 0 → X = zeroOp := fun h => by rw [hX]; unfold atX; rw [← hN, if_neg h]
  have hXg : N = 0 → (viewL l s)[k.toNat]? = some X := fun h => by rw [hX]; exact (at_zero (hN ▸ h)).2.2.2
  rw [← hX, ← hN]
  unfold atN at hN
  by_cases hw : whereN l s 0 = 0
  · rw [if_pos hw] at hN
    rw [hw] at hel
    generalize viewL l s = E at *
    clear hX hw
    by_cases hk : k < 0 ∨ (E.length : Int) ≤ k
    · rw [if_pos hk] at hN
      subst hN
      have e1 := hXz (by omega)
      subst e1
      clear hXz hXg
      by_cases hk0 : k < 0
      · clear hk
        go_enter Tryz.func38, Tryz.ntmps38
        go_wp2_with fail
        rw [← hW]
        clear hW
        refine hel.out.mono ?_
        rintro e w1 ⟨Y, y, rfl, y1, y2, hY, hb1⟩
        obtain ⟨z0, z1, z2, z3⟩ := (at0.bl hb1).cells
        obtain ⟨g0, g1, g2, g3⟩ := (at0.bl hb1).frozens
        have hl1 := (at0.bl hb1).lt
        rw [hsW] at hY
        go_wp2_with fail
        refine bodyPost_ret (v := .tuple #[.agg #[.int .u32 0, .int .u8 0, .slice none 0 0, .int .i64 0], .int .i64 2]) (by simp [results, Tryz.results38, go_sem, z0, z1, z2, z3]) rfl ?_
        exact hout.out w1 zeroOp none 0 2 (Nat.le_refl _) (Nat.zero_le _) R.nil (hbW.trans hb1)
      · have hkl : (E.length : Int) ≤ k := by omega
        clear hk
        go_enter Tryz.func38, Tryz.ntmps38
        go_wp2_with fail
        rw [← hW]
        clear hW
        refine hel.out.mono ?_
        rintro e w1 ⟨Y, y, rfl, y1, y2, hY, hb1⟩
        obtain ⟨z0, z1, z2, z3⟩ := (at0.bl hb1).cells
        obtain ⟨g0, g1, g2, g3⟩ := (at0.bl hb1).frozens
        have hl1 := (at0.bl hb1).lt
        rw [hsW] at hY
        go_wp2_with fail
        refine bodyPost_ret (v := .tuple #[.agg #[.int .u32 0, .int .u8 0, .slice none 0 0, .int .i64 0], .int .i64 2]) (by simp [results, Tryz.results38, go_sem, z0, z1, z2, z3]) rfl ?_
        exact hout.out w1 zeroOp none 0 2 (Nat.le_refl _) (Nat.zero_le _) R.nil (hbW.trans hb1)
    · rw [if_neg hk] at hN
      subst hN
      have hx := hXg rfl
      have hk0 : ¬ k < 0 := by omega
      have hk1 : ¬ (E.length : Int) ≤ k := by omega
      obtain ⟨j, rfl⟩ : ∃ j : Nat, k = j := ⟨k.toNat, by omega⟩
      rw [show ((j : Int)).toNat = j by omega] at hx
      have hjl : (j : Int) < (E.length : Int) := by omega
      clear hk hXz hXg
      go_enter Tryz.func38, Tryz.ntmps38
      go_wp2_with fail
      rw [← hW]
      clear hW
      refine hel.out.mono ?_
      rintro e w1 ⟨Y, y, rfl, y1, y2, hY, hb1⟩
      obtain ⟨z0, z1, z2, z3⟩ := (at0.bl hb1).cells
      obtain ⟨g0, g1, g2, g3⟩ := (at0.bl hb1).frozens
      have hl1 := (at0.bl hb1).lt
      rw [hsW] at hY
      obtain ⟨b, off, rfl, _, hb⟩ := hY.addr (by omega)
      obtain ⟨hbb, ho, S, sc, s1, s2, hS, c0, c1, c2, c3⟩ := hY.el hx
      have hne1 : b ≠ w.heap.size + 1 := by omega
      have hne2 : w.heap.size + 1 ≠ b := by omega
      clear hx
      go_wp2_with fail
      refine bodyPost_ret (v := .tuple #[.agg #[.int .u32 X.id.t, .int .u8 X.id.r, .slice S X.pl.length sc, .int .i64 X.pt], .int .i64 0]) (by simp [results, Tryz.results38, go_sem, z0, z1, z2, z3]) rfl ?_
      exact hout.out w1 X S sc 0 s1 s2 hS (hbW.trans hb1)
  · rw [if_neg hw] at hN
    rw [← hN] at hel
    have hNz : (N == 0) = false := by rw [beq_eq_false_iff_ne, hN]; exact hw
    have e1 := hXz (by rw [hN]; exact hw)
    subst e1
    clear hXz hXg hX hN hw
    generalize viewL l s = E at *
    go_enter Tryz.func38, Tryz.ntmps38
    go_wp2_with fail
    rw [← hW]
    clear hW
    refine hel.out.mono ?_
    rintro e w1 ⟨Y, y, rfl, y1, y2, hY, hb1⟩
    obtain ⟨z0, z1, z2, z3⟩ := (at0.bl hb1).cells
    obtain ⟨g0, g1, g2, g3⟩ := (at0.bl hb1).frozens
    have hl1 := (at0.bl hb1).lt
    rw [hsW] at hY
    go_wp2_with fail
    refine bodyPost_ret (v := .tuple #[.agg #[.int .u32 0, .int .u8 0, .slice none 0 0, .int .i64 0], .int .i64 N]) (by simp [results, Tryz.results38, go_sem, z0, z1, z2, z3]) rfl ?_
    exact hout.out w1 zeroOp none 0 N (Nat.le_refl _) (Nat.zero_le _) R.nil (hbW.trans hb1)

/-! ### Before -/

theorem bef_take {l : List Op} {k : Nat} {x : Op} (h : l[k]? = some x) (p : List Run) : (beforeF (l.take (k + 1)) p : Int) = if heldF x.pl p < 0 then (beforeF (l.take k) p : Int) + 1 else (beforeF (l.take k) p : Int) := by
  unfold beforeF
  rw [marked_take h]
  by_cases hq : heldF x.pl p < 0
  · rw [decide_eq_true hq, if_pos rfl, if_pos hq, List.length_append]
    rfl
  · rw [decide_eq_false hq, if_neg (by decide), if_neg hq]

theorem bef_le (l : List Op) (p : List Run) : beforeF l p ≤ l.length := List.length_filter_le _ _

set_option maxRecDepth 100000 in
set_option maxHeartbeats 2000000 in
theorem refBefore15 (A B : Option Addr) (c d : Nat) (l : List Op) (p : List Run) (w : World) (hl : l.length ≤ 65536) (hp : ∀ x ∈ l, placeMay x.pl = true) (hq : plAny p = true) (hpd : p.length ≤ d) (hdm : d ≤ maxLen) (hA : R cEl 0 w A l) (hB : R cRun 0 w B p) :
    Calls Tryz.prog 48 #[.slice A l.length c, .slice B p.length d] w fun e w' => e = .returned (.int .i64 (beforeF l p : Int)) ∧ Bl w w' := by
  obtain ⟨n2, r2⟩ := any_runB hq hB
  have hheld := hide fun (x : Op) (S : Option Addr) (sc : Nat) (V : World) (hx : x ∈ l) (h1 : x.pl.length ≤ sc) (h2 : sc ≤ maxLen) (hS : R cRun 0 w S x.pl) (hv : Bl w V) =>
    have h3 := any_runB (a := x.pl) (by unfold plAny; rw [hp x hx, Bool.or_true]) hS
    refHeld06 S B sc d x.pl p V h3.1 n2 h3.2 r2 h1 h2 hpd hdm (hS.bl hv) (hB.bl hv)
  clear n2 r2 hq hpd hdm hp
  go_enter Tryz.func48, Tryz.ntmps48
  go_wp2_with fail
  go_loopw [5, 6] (fun n i wr => Bl w wr ∧ ∃ k : Nat, k ≤ l.length ∧ i = .int .i64 k ∧ n = .int .i64 (beforeF (l.take k) p : Int)) (fun _ i _ => l.length - (intOf i).toNat)
  case atStart => exact ⟨Bl.refl _, 0, Nat.zero_le _, rfl, rfl⟩
  case round =>
    obtain ⟨hbl, k, hk, rfl, rfl⟩ := hrel
    by_cases hlt : k < l.length
    · obtain ⟨b, off, rfl, _, hb⟩ := hA.addr (by omega)
      obtain ⟨x, hx⟩ := get_lt hlt
      obtain ⟨_, ho, S, sc, s1, s2, hS, c0, c1, c2, c3⟩ := hA.el hx
      have hki : (k : Int) < (l.length : Int) := by omega
      have hcall := hide (hheld.out x S sc wr (List.mem_of_getElem? hx) s1 s2 hS hbl)
      have hst := bef_take hx p
      have hle := bef_le (l.take k) p
      rw [List.length_take] at hle
      replace c2 := (hbl.cell hb).trans c2
      generalize beforeF (l.take k) p = q at *
      clear hx
      by_cases hh : heldF x.pl p < 0
      · rw [if_pos hh] at hst
        have hd : decide (heldF x.pl p < 0) = true := decide_eq_true hh
        generalize heldF x.pl p = N at *
        clear c0 c1 c3
        replace hst := hide hst
        go_wp2_with fail
        refine hcall.out.mono ?_
        rintro e w2 ⟨rfl, hb2⟩
        go_wp2_with fail
        go_roundw
        case rel => exact ⟨hbl.trans hb2, k + 1, by omega, by go_num, by rw [hst.out]⟩
        case measure => simp [intOf]; omega
      · rw [if_neg hh] at hst
        have hd : decide (heldF x.pl p < 0) = false := decide_eq_false hh
        generalize heldF x.pl p = N at *
        clear c0 c1 c3
        replace hst := hide hst
        go_wp2_with fail
        refine hcall.out.mono ?_
        rintro e w2 ⟨rfl, hb2⟩
        go_wp2_with fail
        go_roundw
        case rel => exact ⟨hbl.trans hb2, k + 1, by omega, by go_num, by rw [hst.out]⟩
        case measure => simp [intOf]; omega
    · have hkl : l.length ≤ k := by omega
      rw [List.take_of_length_le hkl]
      have hki : ¬ (k : Int) < (l.length : Int) := by omega
      go_wp2_with fail
      go_ret
      exact ⟨rfl, hbl⟩

/-! ### Make -/
set_option maxRecDepth 100000 in
set_option maxHeartbeats 4000000 in
theorem refMake17 (A : Option Addr) (c : Nat) (l : List Op) (s : Id) (k : Int) (w : World) (hl : l.length ≤ 1048576) (hA : R cOp 0 w A l) :
    Calls Tryz.prog 12 #[.slice A l.length c, .agg #[.int .u32 s.t, .int .u8 s.r], .int .i64 k] w (New2 cRun (atX l s k).pl (atN l s k) w) := by
  have hbW : Bl w (w.alloc (.cells #[Value.int IntKind.u32 s.t, Value.int IntKind.u8 s.r] 25)) := (Bl.refl _).alloc _
  have hat := hide (refAt15 A c l s k _ hl (hA.bl hbW))
  have hsm : (atX l s k).pl.length ≤ 64 := at_place
  generalize atX l s k = X at *
  generalize atN l s k = N at *
  go_enter Tryz.func12, Tryz.ntmps12
  go_wp2_with fail
  refine hat.out.mono ?_
  rintro e w1 ⟨S, sc, rfl, s1, s2, hS, hb1⟩
  have hbV : Bl w1 (w1.alloc (.cells #[Value.int IntKind.u32 X.id.t, Value.int IntKind.u8 X.id.r, Value.slice S X.pl.length sc, Value.int IntKind.i64 X.pt] 53)) := (Bl.refl _).alloc _
  have htw := hide (refTwin06 S sc X.pl _ (by omega) (hS.zero.bl hbV))
  go_wp2_with fail
  refine htw.out.mono ?_
  rintro e w5 ⟨P, pc, rfl, p1, p2, hP, hb5⟩
  go_wp2_with fail
  go_ret2
  exact ⟨P, pc, rfl, p1, p2, hP.more ((hbW.trans hb1).trans hbV).size, ((hbW.trans hb1).trans hbV).trans hb5⟩
end Go.Proofs.YteoodmilcpmmpaaGreat
