/-
  The walk of the reference Find of layer 17, and of AnchorTells.
-/
import Derived.Test.YteoodmilcpmmpaaGreatRef17
namespace Go.Proofs.YteoodmilcpmmpaaGreat
open Go.RowKit

set_option maxRecDepth 100000 in
set_option maxHeartbeats 4000000 in
theorem refFind17 (A B : Option Addr) (c d : Nat) (l : List Op) (p : List Run) (w : World) (hl : l.length ≤ maxLen) (hpd : p.length ≤ d) (hdm : d ≤ maxLen) (hA : R cOp 0 w A l) (hB : R cRun 0 w B p) :
    Calls Tryz.prog 14 #[.slice A l.length c, .slice B p.length d] w (IdKN (fndS l p) (fndK l p) (okOr 8 (fndB l p)) w) := by
  obtain ⟨W, hW⟩ : ∃ W, W = w.alloc (.cells #[Value.int IntKind.u32 0, Value.int IntKind.u8 0] 25) := ⟨_, rfl⟩
  have hbW : Bl w W := by rw [hW]; exact (Bl.refl _).alloc _
  have at0 : IdBox W w.heap.size ⟨0, 0⟩ := by rw [hW]; exact IdBox.new w ⟨0, 0⟩ _
  have hpl : p.length ≤ maxLen := Nat.le_trans hpd hdm
  have hmay := hide (refMay11 A c l W hl (hA.bl hbW))
  have hpm := hide fun V (hv : Bl w V) => refMay06 B d p V hpl (hB.bl hv)
  have hset := fun (V : World) (hv : Bl w V) (q : Id) => (hv.setCell (p := ⟨w.heap.size, 0, none⟩) (Nat.le_refl _) (.int .u32 q.t)).setCell (p := ⟨w.heap.size, 1, none⟩) (Nat.le_refl _) (.int .u8 q.r)
  replace hset := hide hset
  cases hb : bagMay l
  · have e1 : fndB l p = false := by unfold fndB; rw [hb]; rfl
    have e2 : fndS l p = ⟨0, 0⟩ := by unfold fndS; rw [e1]; rfl
    have e3 : fndK l p = 0 := by unfold fndK; rw [e1]; rfl
    rw [e1, e2, e3]
    rw [hb] at hmay
    clear e1 e2 e3 hb hpm
    go_enter Tryz.func14, Tryz.ntmps14
    go_wp2_with fail
    rw [← hW]
    clear hW
    refine hmay.out.mono ?_
    rintro e w1 ⟨rfl, hb1⟩
    obtain ⟨z0, z1, f0, f1⟩ := at0.bl hb1
    have hzl := (at0.bl hb1).lt
    go_wp2_with fail
    refine bodyPost_ret (v := .tuple #[.agg #[.int .u32 0, .int .u8 0], .int .i64 0, .int .i64 8]) (by simp [results, Tryz.results14, go_sem, z0, z1]) rfl ?_
    exact ⟨rfl, hset.out _ (hbW.trans hb1) ⟨0, 0⟩⟩
  rw [hb] at hmay
  cases hm : placeMay p
  · have e1 : fndB l p = false := by unfold fndB; rw [hm, Bool.and_false]
    have e2 : fndS l p = ⟨0, 0⟩ := by unfold fndS; rw [e1]; rfl
    have e3 : fndK l p = 0 := by unfold fndK; rw [e1]; rfl
    rw [e1, e2, e3]
    rw [hm] at hpm
    clear e1 e2 e3 hb hm
    go_enter Tryz.func14, Tryz.ntmps14
    go_wp2_with fail
    rw [← hW]
    clear hW
    refine hmay.out.mono ?_
    rintro e w1 ⟨rfl, hb1⟩
    go_wp2_with fail
    refine (hpm.out _ (hbW.trans hb1)).mono ?_
    rintro e w2 ⟨rfl, hb2⟩
    obtain ⟨z0, z1, f0, f1⟩ := at0.bl (hb1.trans hb2)
    have hzl := (at0.bl (hb1.trans hb2)).lt
    go_wp2_with fail
    refine bodyPost_ret (v := .tuple #[.agg #[.int .u32 0, .int .u8 0], .int .i64 0, .int .i64 8]) (by simp [results, Tryz.results14, go_sem, z0, z1]) rfl ?_
    exact ⟨rfl, hset.out _ (hbW.trans (hb1.trans hb2)) ⟨0, 0⟩⟩
  have e1 : fndB l p = true := by unfold fndB; rw [hb, hm]; rfl
  have e2 : fndS l p = homeF (livesF l) p := by unfold fndS; rw [e1]; rfl
  have e3 : fndK l p = (beforeF (elemsL l (homeF (livesF l) p)) p : Int) := by unfold fndK; rw [e1, if_pos rfl, before_pos (elems_mk hb) (elems_srt hb) (may_pos hm)]
  rw [e1, e2, e3, okOr_true]
  rw [hm] at hpm
  have hpa : plAny p = true := by unfold plAny; rw [hm, Bool.or_true]
  have hll := (bagMay_parts hb).1
  have hli := hide fun V (hv : Bl w V) => refLives12 A c l V (by omega) (bag_places hb) (hA.bl hv)
  have hho := hide fun X x V (hv : Bl w V) (hX : R cOp 0 V X (livesF l)) => refHome13 X B x d (livesF l) p V (by have := lives_small hb; unfold maxLen; omega) (lives_places hb) hpa hpd hdm hX (hB.bl hv)
  have hof := hide fun X x s V (hv : Bl w V) (hX : R cOp 0 V X (livesF l)) => refOf15 A X c x l s V hb (hA.bl hv) hX
  have hel : (elemsL l (homeF (livesF l) p)).length ≤ 65536 := by
    have h1 : whereN l (homeF (livesF l) p) 0 = 0 := fnd_zero hb hm
    have h2 := elems_small (l := l) (s := homeF (livesF l) p)
    rw [view_zero h1] at h2
    omega
  have hem : ∀ x ∈ elemsL l (homeF (livesF l) p), placeMay x.pl = true := fun x hx => (elems_mk hb x hx).may
  have hbe := hide fun Y y V (hv : Bl w V) (hY : R cEl 0 V Y (elemsL l (homeF (livesF l) p))) => refBefore15 Y B y d (elemsL l (homeF (livesF l) p)) p V hel hem hpa hpd hdm hY (hB.bl hv)
  replace hof := hide (fun X x V hv hX => hof.out X x (homeF (livesF l) p) V hv hX)
  clear e1 e2 e3 hb hm hpa hel hem
  generalize homeF (livesF l) p = s at *
  generalize elemsL l s = E at *
  generalize beforeF E p = n at *
  generalize livesF l = v at *
  go_enter Tryz.func14, Tryz.ntmps14
  go_wp2_with fail
  rw [← hW]
  clear hW
  refine hmay.out.mono ?_
  rintro e w1 ⟨rfl, hb1⟩
  go_wp2_with fail
  refine (hpm.out _ (hbW.trans hb1)).mono ?_
  rintro e w2 ⟨rfl, hb2⟩
  go_wp2_with fail
  refine (hli.out _ (hbW.trans (hb1.trans hb2))).mono ?_
  rintro e w3 ⟨X, x, rfl, x1, x2, hX, hb3⟩
  have hbW3 := hb1.trans (hb2.trans hb3)
  go_wp2_with fail
  refine (hho.out X x _ (hbW.trans hbW3) hX).mono ?_
  rintro e w4 ⟨rfl, hb4⟩
  have hbW4 := hbW3.trans hb4
  obtain ⟨V4, hV4⟩ : ∃ V4, V4 = w4.alloc (.cells #[Value.int IntKind.u32 s.t, Value.int IntKind.u8 s.r] 25) := ⟨_, rfl⟩
  have at4 : IdBox V4 w4.heap.size s := by rw [hV4]; exact IdBox.new w4 s _
  have hb4V : Bl w4 V4 := by rw [hV4]; exact (Bl.refl _).alloc _
  have hbWV := hbW4.trans hb4V
  have hXV := hX.bl (hb4.trans hb4V)
  go_upto_region 5 with fail
  rw [← hV4]
  clear hV4
  have kA := hide fun V (hv : Bl V4 V) => And.intro (at4.bl hv) (And.intro (at4.bl hv).lt (And.intro (at0.bl (hbWV.trans hv)) (at0.bl (hbWV.trans hv)).lt))
  obtain ⟨⟨y0, y1, -, -⟩, yl, ⟨z0, z1, f0, f1⟩, zl⟩ := kA.out V4 (Bl.refl _)
  clear hmay hpm hli hho
  go_region_with (first
    | (go_at_call 49; refine (hof.out X x _ (hbW.trans (hbWV.trans (Bl.refl V4).drew)) (hXV.bl (Bl.refl V4).drew)).mono ?_; rintro e w5 ⟨Y, y, rfl, q1, q2, hY, hb50⟩; have hb5 : Bl V4 w5 := (Bl.refl V4).drew.trans hb50; clear hb50; obtain ⟨⟨u0, u1, -, -⟩, ul, ⟨v0, v1, g0, g1⟩, vl⟩ := kA.out w5 hb5)
    | (go_at_call 48; refine (hbe.out Y y _ (hbW.trans (hbWV.trans hb5)) hY.zero).mono ?_; rintro e w6 ⟨rfl, hb6⟩; have hb46 := hb5.trans hb6; obtain ⟨⟨a0, a1, -, -⟩, al, ⟨c0, c1, h0, h1⟩, cl⟩ := kA.out w6 hb46))
  all_goals
    go_wp2_with fail
    refine bodyPost_ret (v := .tuple #[.agg #[.int .u32 s.t, .int .u8 s.r], .int .i64 n, .int .i64 0]) (by simp [results, Tryz.results14, go_sem, c0, c1]) rfl ?_
    exact ⟨rfl, hset.out _ (hbW.trans (hbWV.trans hb46)) s⟩

theorem same06_self (l : List Run) {A B : Option Addr} {c d : Nat} {w : World} (hl : l.length ≤ maxLen) (hA : R cRun 0 w A l) (hB : R cRun 0 w B l) :
    Calls Tryz.prog 15 #[.slice A l.length c, .slice B l.length d] w fun e w' => e = .returned (.bool true) ∧ Bl w w' := by
  have h := refSame06 A B c d l l w hl hl hA hB
  rwa [show same l l = true by unfold same; simp] at h

theorem same11_self (l : List Op) {A B : Option Addr} {c d : Nat} {w : World} (hl : l.length ≤ maxLen) (hA : R cOp 0 w A l) (hB : R cOp 0 w B l) :
    Calls Tryz.prog 16 #[.slice A l.length c, .slice B l.length d] w fun e w' => e = .returned (.bool true) ∧ Bl w w' := by
  have h := refSame11 A B c d l l w hl hl hA hB
  rwa [show same l l = true by unfold same; simp] at h

set_option maxRecDepth 100000 in
set_option maxHeartbeats 16000000 in
theorem anchorTells17 (A B : Option Addr) (c d : Nat) (l : List Op) (s : Id) (k : Int) (p : List Run) (w : World) (hl : l.length ≤ 140737488355328) (hpd : p.length ≤ d) (hdm : d ≤ maxLen) (hA : R cOp 0 w A l) (hB : R cRun 0 w B p) :
    Calls Tryz.prog 3 #[.slice A l.length c, .agg #[.int .u32 s.t, .int .u8 s.r], .int .i64 k, .slice B p.length d] w fun e w' => e = .returned (.bool true) ∧ Bl w w' := by
  have hlm : l.length ≤ maxLen := by unfold maxLen; omega
  have hpm : p.length ≤ maxLen := Nat.le_trans hpd hdm
  obtain ⟨W, hW⟩ : ∃ W, W = w.alloc (.cells #[Value.int IntKind.u32 s.t, Value.int IntKind.u8 s.r] 25) := ⟨_, rfl⟩
  have hbW : Bl w W := by rw [hW]; exact (Bl.refl _).alloc _
  have at0 : IdBox W w.heap.size s := by rw [hW]; exact IdBox.new w s _
  have hga := hide (fun V (hb : Bl w V) => refGreat10 A c l 60 V hl (hA.bl hb))
  go_enter Tryz.func3, Tryz.ntmps3
  go_wp2_with fail
  rw [← hW]
  clear hW
  refine (hga.out _ hbW).mono ?_
  rintro e w1 ⟨ba, rfl, hfa, hb1⟩
  have hbw1 := hbW.trans hb1
  cases ba
  rotate_left
  · clear hfa
    go_wp2_with fail
    go_ret
    exact ⟨rfl, hbw1⟩
  obtain ⟨hl60, hpl⟩ := hfa rfl
  clear hfa hga
  rw [List.take_of_length_le (by omega)] at hpl
  by_cases hp3 : (300 : Int) < (p.length : Int)
  · clear hpl
    go_wp2_with fail
    go_ret
    exact ⟨rfl, hbw1⟩
  have hcop : copyB l := ⟨by omega, fun x hx => by have := hpl x hx; omega⟩
  have htw := hide (refTwin11 A c l w1 hcop (hA.bl hbw1))
  have hps := at_place (l := l) (s := s) (k := k)
  have hmA := hide fun O oc V (hO : R cOp 0 V O l) => anchorMake O oc l s k V (by omega) hO
  have hmB := hide fun V (hv : Bl w V) => refMake17 A c l s k V (by omega) (hA.bl hv)
  have hfA := hide fun O oc V (hv : Bl w V) (hO : R cOp 0 V O l) => anchorFind O B oc d l p V hlm hpm hO (hB.bl hv)
  have hfB := hide fun V (hv : Bl w V) => refFind17 A B c d l p V hlm hpd hdm (hA.bl hv) (hB.bl hv)
  have heN := run_eqId (fndS l p) (fndS l p)
  rw [neqId_self] at heN
  clear hpl hcop
  generalize (atX l s k).pl = a at *
  generalize atN l s k = N at *
  generalize fndS l p = fs at *
  generalize fndK l p = fk at *
  generalize okOr 8 (fndB l p) = fn at *
  go_wp2_with fail
  refine htw.out.mono ?_
  rintro e w2 ⟨O, oc, rfl, -, -, hO, hb2⟩
  have hbw2 := hbw1.trans hb2
  replace hO := hO.zero
  obtain ⟨i0, i1, -, -⟩ := at0.bl (hb1.trans hb2)
  have hil := (at0.bl (hb1.trans hb2)).lt
  clear htw
  go_wp2_with fail
  refine (hmA.out O oc w2 hO).mono ?_
  rintro e w3 ⟨P, pc, rfl, p1, p2, hP, hb3⟩
  have hbw3 := hbw2.trans hb3
  clear i0 i1 hil
  obtain ⟨i0, i1, -, -⟩ := at0.bl (hb1.trans (hb2.trans hb3))
  have hil := (at0.bl (hb1.trans (hb2.trans hb3))).lt
  go_wp2_with fail
  refine (hmB.out w3 hbw3).mono ?_
  rintro e w4 ⟨Q, qc, rfl, q1, q2, hQ, hb4⟩
  have hbw4 := hbw3.trans hb4
  clear i0 i1 hil at0
  go_wp2_with fail
  refine (hfA.out O oc w4 hbw4 (hO.bl (hb3.trans hb4))).mono ?_
  rintro e w5 ⟨rfl, hb5⟩
  have hbw5 := hbw4.trans hb5
  obtain ⟨V5, hV5⟩ : ∃ V5, V5 = w5.alloc (.cells #[Value.int IntKind.u32 fs.t, Value.int IntKind.u8 fs.r] 25) := ⟨_, rfl⟩
  have at5 : IdBox V5 w5.heap.size fs := by rw [hV5]; exact IdBox.new w5 fs _
  have hb5V : Bl w5 V5 := by rw [hV5]; exact (Bl.refl _).alloc _
  go_wp2_with fail
  rw [← hV5]
  clear hV5
  refine (hfB.out V5 (hbw5.trans hb5V)).mono ?_
  rintro e w6 ⟨rfl, hb6⟩
  have hb36 := hb4.trans (hb5.trans (hb5V.trans hb6))
  have hbw6 := hbw3.trans hb36
  obtain ⟨V6, hV6⟩ : ∃ V6, V6 = w6.alloc (.cells #[Value.int IntKind.u32 fs.t, Value.int IntKind.u8 fs.r] 25) := ⟨_, rfl⟩
  have at6 : IdBox V6 w6.heap.size fs := by rw [hV6]; exact IdBox.new w6 fs _
  have hb6V : Bl w6 V6 := by rw [hV6]; exact (Bl.refl _).alloc _
  have hb3V := hb36.trans hb6V
  clear hmA hmB hfA hfB
  have hP6 := hP.bl hb3V
  have hQ6 := (hQ.bl (hb5.trans (hb5V.trans (hb6.trans hb6V)))).zero
  have hsa := hide (same06_self a (c := pc) (d := qc) (w := V6) (by unfold maxLen; omega) hP6.zero hQ6)
  go_wp2_with fail
  rw [← hV6]
  clear hV6
  refine hsa.out.mono ?_
  rintro e w7 ⟨rfl, hb7⟩
  obtain ⟨x0, x1, -, -⟩ := at5.bl (hb6.trans (hb6V.trans hb7))
  have hxl := (at5.bl (hb6.trans (hb6V.trans hb7))).lt
  obtain ⟨y0, y1, -, -⟩ := at6.bl hb7
  have hyl := (at6.bl hb7).lt
  have hP7 := hP6.bl hb7
  have hb27 := hb3.trans (hb3V.trans hb7)
  clear hsa
  go_upto_region 9 with fail
  clear x0 x1 hxl y0 y1 hyl
  obtain ⟨m, hm⟩ : ∃ m, a.length = m := ⟨_, rfl⟩
  rw [hm]
  have hm64 : m ≤ 64 := by omega
  replace hm := hide hm
  go_wp2_with fail
  go_loopw [21] (fun i wr => Bl w2 wr ∧ ∃ (j : Nat) (b : List Run), j ≤ m ∧ i = .int .i64 j ∧ Hid (b.length = m) ∧ R cRun w2.heap.size wr P b) (fun i _ => m - (intOf i).toNat)
  case atStart => exact ⟨hb27, 0, a, Nat.zero_le _, rfl, hm, hP7⟩
  case round =>
    clear hP hP6 hP7 hm
    obtain ⟨hbl, j, b, hj, rfl, hbm, hR⟩ := hrel
    by_cases hlt : j < m
    · obtain ⟨g, off, rfl, hgb, hgl⟩ := hR.addr (by rw [hbm.out]; omega)
      obtain ⟨x, hx⟩ := get_lt (l := b) (k := j) (by rw [hbm.out]; exact hlt)
      obtain ⟨hlo, hxo, c0, c1, c2⟩ := hR.run hx
      have hfz := hR.runFz hx
      have hset := hide (hR.setM (m := -7) hx (by unfold i64ok; omega))
      have hbs := hide (hbl.setCell (p := ⟨g, off + j * 3 + 2, none⟩) hlo.1 (.int .i64 (-7)))
      have hji : (j : Int) < (m : Int) := by omega
      clear hx
      go_wp2_with fail
      go_roundw
      case rel => exact ⟨hbs.out, j + 1, _, by omega, by go_num, by rw [Hid, List.length_set]; exact hbm.out, hset.out⟩
      case measure => simp [intOf]; omega
    · have hji : ¬ (j : Int) < (m : Int) := by omega
      have hsl := hide (same11_self l (c := oc) (d := c) (w := wr) hlm (hO.bl hbl) (hA.bl (hbw2.trans hbl)))
      clear hR
      go_wp2_with fail
      refine hsl.out.mono ?_
      rintro e w8 ⟨rfl, hb8⟩
      go_wp2_with fail
      go_ret
      exact ⟨rfl, hbw2.trans (hbl.trans hb8)⟩
end Go.Proofs.YteoodmilcpmmpaaGreat
