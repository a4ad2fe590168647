/-
  The walks of the references Target of layer 9, Ended of layer 12.
  The walk of the reference Lives of layer 12.
-/
import Derived.Test.YteoodmilcpmmpaaGreatHeld
import Derived.Test.YteoodmilcpmmpaaGreatLiveP
import Derived.Test.YteoodmilcpmmpaaGreatOwnA
import Derived.Test.YteoodmilcpmmpaaGreatBagOrder
namespace Go.Proofs.YteoodmilcpmmpaaGreat

open Go.RowKit

set_option maxRecDepth 100000 in
set_option maxHeartbeats 1000000 in
theorem refTarget09 (x : Op) (A : Option Addr) (c : Nat) (w : World) (hx : OpIn w x A c) (hp : placeMay x.pl = true) :
    Calls Tryz.prog 140 #[.agg #[.int .u8 x.kind, .int .u32 x.id.t, .int .u8 x.id.r, .slice A x.pl.length c, .int .i64 x.pt]] w fun e w' => e = .returned (.agg #[.int .u32 (placeFin x.pl).t, .int .u8 (placeFin x.pl).r]) ∧ Bl w w' := by
  obtain ⟨W, hW⟩ : ∃ W, W = (w.alloc (.cells #[Value.int IntKind.u8 x.kind, Value.int IntKind.u32 x.id.t, Value.int IntKind.u8 x.id.r, Value.slice A x.pl.length c, Value.int IntKind.i64 x.pt] 47)).alloc (.cells #[Value.int IntKind.u32 0, Value.int IntKind.u8 0] 25) := ⟨_, rfl⟩
  have hbW : Bl w W := by rw [hW]; exact ((Bl.refl _).alloc _).alloc _
  have at0 : OpBox W w.heap.size x A c := by rw [hW]; exact (OpBox.new w x A c _).bl ((Bl.refl _).alloc _)
  have at1 : IdBox W (w.heap.size + 1) ⟨0, 0⟩ := by
    have h := IdBox.new (w.alloc (.cells #[Value.int IntKind.u8 x.kind, Value.int IntKind.u32 x.id.t, Value.int IntKind.u8 x.id.r, Value.slice A x.pl.length c, Value.int IntKind.i64 x.pt] 47)) ⟨0, 0⟩ 25
    rw [World.size_alloc w] at h
    rw [hW]
    exact h
  have hf := hide fun V (hv : Bl w V) => refFinal06 A c x.pl V hp (hx.hR.bl hv)
  obtain ⟨x0, x1, x2, x3, x4⟩ := at0.cells
  generalize placeFin x.pl = q at *
  go_enter Tryz.func140, Tryz.ntmps140
  go_wp2_with fail
  rw [← hW]
  clear hW
  refine (hf.out _ hbW).mono ?_
  rintro e w1 ⟨rfl, hb1⟩
  obtain ⟨y0, y1, f0, f1⟩ := at1.bl hb1
  have hyl := (at1.bl hb1).lt
  have hfin := hide (show Bl w ((w1.setCell ⟨w.heap.size + 1, 0, none⟩ (.int .u32 q.t)).setCell ⟨w.heap.size + 1, 1, none⟩ (.int .u8 q.r)) from ((hbW.trans hb1).setCell (Nat.le_succ _) _).setCell (Nat.le_succ _) _)
  go_wp2_with fail
  refine bodyPost_ret (v := .agg #[.int .u32 q.t, .int .u8 q.r]) (by simp [results, Tryz.results140, go_sem, y0, y1]) rfl ?_
  exact ⟨rfl, hfin.out⟩

def endX (s : Id) (o : Op) : Bool := decide (o.kind = 4) && decide (placeFin o.pl = s)

set_option maxRecDepth 100000 in
set_option maxHeartbeats 2000000 in
theorem refEnded12 (A : Option Addr) (c : Nat) (l : List Op) (s : Id) (w : World) (hl : l.length ≤ maxLen) (hp : ∀ x ∈ l, placeMay x.pl = true) (hA : R cOp 0 w A l) :
    Calls Tryz.prog 104 #[.slice A l.length c, .agg #[.int .u32 s.t, .int .u8 s.r]] w fun e w' => e = .returned (.bool (endedF l s)) ∧ Bl w w' := by
  unfold maxLen at hl
  obtain ⟨W, hW⟩ : ∃ W, W = w.alloc (.cells #[Value.int IntKind.u32 s.t, Value.int IntKind.u8 s.r] 25) := ⟨_, rfl⟩
  have hbW : Bl w W := by rw [hW]; exact (Bl.refl _).alloc _
  have at0 : IdBox W w.heap.size s := by rw [hW]; exact IdBox.new w s _
  obtain ⟨T, hT⟩ : ∃ T, T = endedF l s := ⟨_, rfl⟩
  rw [← hT]
  have hyes := hide (show (∃ x ∈ l, endX s x = true) → true = T from fun h => by
    rw [hT, eq_comm]
    unfold endedF
    rw [List.any_eq_true]
    exact h)
  have hno := hide (show (∀ x ∈ l, endX s x = false) → false = T from fun h => by
    rw [hT, eq_comm]
    unfold endedF
    rw [List.any_eq_false]
    exact fun x hx e => by
      have := h x hx
      unfold endX at this
      rw [e] at this
      cases this)
  clear hT
  replace hp := hide hp
  go_enter Tryz.func104, Tryz.ntmps104
  go_wp2_with fail
  rw [← hW]
  clear hW
  go_loopw [5] (fun i wr => Bl W wr ∧ ∃ k : Nat, k ≤ l.length ∧ i = .int .i64 k ∧ Hid (∀ y ∈ l.take k, endX s y = false)) (fun i _ => l.length - (intOf i).toNat)
  case atStart => exact ⟨Bl.refl _, 0, Nat.zero_le _, rfl, fun y hy => by simp at hy⟩
  case round =>
    obtain ⟨hbl, k, hk, rfl, hf⟩ := hrel
    by_cases hlt : k < l.length
    · obtain ⟨b, off, rfl, _, hb⟩ := hA.addr (by omega)
      obtain ⟨x, hx⟩ := get_lt hlt
      obtain ⟨_, ho, S, sc, s1, s2, hS, c0, c1, c2, c3, c4⟩ := hA.op hx
      have hki : (k : Int) < (l.length : Int) := by omega
      have hbwr := hbW.trans hbl
      have hbr := Nat.lt_of_lt_of_le hb hbwr.size
      have hsl := (at0.bl hbl).lt
      have hpx := hide (hp.out x (List.mem_of_getElem? hx))
      have hin := hide (show OpIn wr x S sc from ⟨ho, s1, s2, hS.bl hbwr⟩)
      have C0 := fun p : Wd wr => Wd.cell ((hbwr.cell hb).trans c0) hbr p
      have C1 := fun p : Wd wr => Wd.cell ((hbwr.cell hb).trans c1) hbr p
      have C2 := fun p : Wd wr => Wd.cell ((hbwr.cell hb).trans c2) hbr p
      have C3 := fun p : Wd wr => Wd.cell ((hbwr.cell hb).trans c3) hbr p
      have C4 := fun p : Wd wr => Wd.cell ((hbwr.cell hb).trans c4) hbr p
      have S0 := fun p : Wd wr => Wd.cell (at0.bl hbl).c0 hsl p
      have S1 := fun p : Wd wr => Wd.cell (at0.bl hbl).c1 hsl p
      have hend : endX s x = (decide (x.kind = 4) && !neqId (placeFin x.pl) s) := by unfold endX neqId; rw [Bool.not_not]
      have hstep := hide (show endX s x = false → ∀ y ∈ l.take (k + 1), endX s y = false from fun h y hy => by
        rw [take_snoc hx, List.mem_append] at hy
        rcases hy with hy | hy
        · exact hf.out y hy
        · rw [List.mem_singleton] at hy; subst hy; exact h)
      have hit := hide (show endX s x = true → true = T from fun h => hyes.out ⟨x, List.mem_of_getElem? hx, h⟩)
      have heq := run_eqId (placeFin x.pl) s
      have htg := hide fun p : Wd wr => refTarget09 x S sc p.v (hin.out.bl p.h) hpx.out
      clear hx hf c0 c1 c2 c3 c4
      generalize placeFin x.pl = q at *
      by_cases hk4 : x.kind = 4
      · have e4 : (x.kind == 4) = true := by simp [hk4]
        rw [decide_eq_true hk4, Bool.true_and] at hend
        replace hk4 := hide hk4
        cases hq : neqId q s
        · have g := hide (hit.out (by rw [hend, hq]; rfl))
          rw [hq] at heq
          clear hend hq
          go_wp2_with fail
          (refine wp_region_wd (by kernel_rfl) (by kernel_rfl) ?_
           repeat (go_big_quiet_step ((go_at_call 140; exact Calls.wd (htg.out _))))
           refine wpQuiet_nil ?_
           intro w2 hw'
           obtain ⟨⟨wx, hb2⟩, hw''⟩ := hw'
           subst hw'')
          go_wp2_with fail
          go_ret
          exact ⟨ret_bool g.out, hbwr.trans hb2⟩
        · have g := hide (hstep.out (by rw [hend, hq]; rfl))
          rw [hq] at heq
          clear hend hq
          go_wp2_with fail
          (refine wp_region_wd (by kernel_rfl) (by kernel_rfl) ?_
           repeat (go_big_quiet_step ((go_at_call 140; exact Calls.wd (htg.out _))))
           refine wpQuiet_nil ?_
           intro w2 hw'
           obtain ⟨⟨wx, hb2⟩, hw''⟩ := hw'
           subst hw'')
          go_wp2_with fail
          go_roundw
          case rel => exact ⟨hbl.trans hb2, k + 1, by omega, by go_num, g.out⟩
          case measure => simp [intOf]; omega
      · have e4 : (x.kind == 4) = false := by simp [hk4]
        have g := hide (hstep.out (by rw [hend, decide_eq_false hk4]; rfl))
        replace hk4 := hide hk4
        clear hend
        go_wp2_with fail
        (refine wp_region_wd (by kernel_rfl) (by kernel_rfl) ?_
         repeat (go_big_quiet_step ((fail)))
         refine wpQuiet_nil ?_
         intro w2 hw'
         obtain ⟨⟨wx, hb2⟩, hw''⟩ := hw'
         subst hw'')
        go_wp2_with fail
        go_roundw
        case rel => exact ⟨hbl.trans hb2, k + 1, by omega, by go_num, g.out⟩
        case measure => simp [intOf]; omega
    · have hkl : k = l.length := by omega
      have g := hide (hno.out fun x hx => hf.out x (by rw [hkl, List.take_length]; exact hx))
      have hki : ¬ (k : Int) < (l.length : Int) := by omega
      clear hf
      replace hkl := hide hkl
      go_wp2_with fail
      go_ret
      exact ⟨ret_bool g.out, hbW.trans hbl⟩

end Go.Proofs.YteoodmilcpmmpaaGreat

namespace Go.Proofs.YteoodmilcpmmpaaGreat

open Go.RowKit

theorem ins_at {o : Op} : ∀ {out : List Op} {j : Nat}, (∀ x ∈ out.take j, heldF x.pl o.pl < 0) → (∀ x, out[j]? = some x → ¬ heldF x.pl o.pl < 0) → insP out o = out.take j ++ o :: out.drop j
  | [], j, _, _ => by simp [insP]
  | y :: out, 0, _, h2 => by
    have := h2 y rfl
    simp [insP, this]
  | y :: out, j + 1, h1, h2 => by
    have h3 := h1 y (by simp)
    have ih := ins_at (out := out) (j := j) (fun x hx => h1 x (by simp [hx])) (fun x hx => h2 x (by simpa using hx))
    unfold insP at ih ⊢
    simp only [List.takeWhile_cons, List.dropWhile_cons, h3, decide_true, if_true, List.take_succ_cons, List.drop_succ_cons, List.cons_append]
    rw [ih]

/-- Not marked: on; marked: put in. -/
theorem lives_skip {l out : List Op} {k : Nat} {x : Op} (p : Op → Bool) (hx : l[k]? = some x) (h : p x = false) : ((l.drop k).filter p).foldl insP out = ((l.drop (k + 1)).filter p).foldl insP out := by
  rw [drop_cons hx, List.filter_cons, if_neg (by rw [h]; decide)]

theorem lives_put {l out : List Op} {k : Nat} {x : Op} (p : Op → Bool) (hx : l[k]? = some x) (h : p x = true) : ((l.drop k).filter p).foldl insP out = ((l.drop (k + 1)).filter p).foldl insP (insP out x) := by
  rw [drop_cons hx, List.filter_cons, if_pos h, List.foldl_cons]

theorem may_runs {w : World} {A : Option Addr} {p : List Run} (h : placeMay p = true) (hR : R cRun 0 w A p) : p.length ≤ 64 ∧ ∀ x ∈ p, runB x :=
  any_runB (by unfold plAny; rw [h, Bool.or_true]) hR

/-- Elements that stood before the call began serve an append of the call's own. -/
theorem OwnA.srcL {α : Type} {C : Codec α} {base : Nat} {w0 w : World} {v : Value} {ys : List α} {A : Option Addr} (ho : ∀ b, v.ownBlock = some b → base ≤ b) (hb : Bl w0 w) (hbase : w0.heap.size ≤ base) (h : R C 0 w0 A ys) :
    ∃ news, RdL C w (fun b => (0 ≤ b ∧ b < w.heap.size) ∧ v.ownBlock ≠ some b) ys news ∧ (∀ ad, A = some ad → ∀ (j : Nat) (u : Value), news[j]? = some u → w.cell? (ad.add j) = some u) ∧ (A = none → ys = []) := by
  have h1 : RS C w (fun b => (0 ≤ b ∧ b < w.heap.size) ∧ v.ownBlock ≠ some b) A ys := RS.keep h (hb.keeps fun _ h => h.2) fun b h => ⟨⟨Nat.zero_le _, Nat.lt_of_lt_of_le h.2 hb.size⟩, fun e => by
    have := ho b e
    have := h.2
    omega⟩
  obtain ⟨cells, hr, hs⟩ := h1
  refine ⟨cells, hr, fun ad e j u hu => ?_, fun e => ?_⟩
  · obtain ⟨b, off, e', _, ha⟩ := hs (by intro h; subst h; simp at hu)
    rw [e] at e'
    cases e'
    have hadd : (⟨b, off, none⟩ : Addr).add j = ⟨b, off + j, none⟩ := by
      unfold Addr.add
      split
      · rename_i h0; subst h0; rfl
      · rfl
    rw [hadd]
    exact (ha j u hu).1
  · have hl := hr.length
    by_cases hc : cells = []
    · rw [hc, List.length_nil] at hl
      rcases Nat.mul_eq_zero.1 hl.symm with hl | hl
      · exact List.eq_nil_of_length_eq_zero hl
      · have := C.pos; omega
    · obtain ⟨b, off, e', _⟩ := hs hc
      rw [e] at e'
      cases e'

set_option maxRecDepth 100000 in
set_option maxHeartbeats 4000000 in
theorem refLives12 (A : Option Addr) (c : Nat) (l : List Op) (w : World) (hl : l.length ≤ 65536) (hp : ∀ x ∈ l, placeMay x.pl = true) (hA : R cOp 0 w A l) :
    Calls Tryz.prog 46 #[.slice A l.length c] w fun e w' => ∃ A' c', e = .returned (.slice A' (livesF l).length c') ∧ (livesF l).length ≤ c' ∧ c' ≤ maxLen ∧ R cOp 0 w' A' (livesF l) ∧ Bl w w' := by
  obtain ⟨T, hT⟩ : ∃ T, T = livesF l := ⟨_, rfl⟩
  rw [← hT]
  replace hp := hide hp
  have hT0 := hide (show T = ((l.drop 0).filter (markOf l)).foldl insP [] from hT)
  clear hT
  obtain ⟨i0, hi, hz0, hz1, hz2⟩ := info_parts Tryz.infoOp
  go_enter Tryz.func46, Tryz.ntmps46
  go_wp2_with fail
  go_loopw [3, 4] (fun v i wr => Bl w wr ∧ ∃ (k : Nat) (out : List Op) (A' : Option Addr) (c' : Nat), k ≤ l.length ∧ i = .int .i64 k ∧ v = .slice A' out.length c' ∧ out.length ≤ c' ∧ c' ≤ maxLen ∧ out.length ≤ k ∧ R cOp 0 wr A' out ∧ Hid (∀ x ∈ out, placeMay x.pl = true) ∧ Hid (T = ((l.drop k).filter (markOf l)).foldl insP out) ∧ Hid (out = [] → A' = none ∧ c' = 0)) (fun _ i _ => l.length - (intOf i).toNat)
  case atStart => exact ⟨Bl.refl _, 0, [], none, 0, Nat.zero_le _, rfl, rfl, Nat.le_refl _, Nat.zero_le _, Nat.le_refl _, R.nil, (fun x hx => by cases hx), hT0.out, fun _ => ⟨rfl, rfl⟩⟩
  case round =>
    obtain ⟨hbl, k, out, A', c', hk, rfl, rfl, hoc, hcm', hok, hO, hop, hTk, hnl⟩ := hrel
    by_cases hlt : k < l.length
    · obtain ⟨b, off, rfl, _, hb⟩ := hA.addr (by omega)
      obtain ⟨x, hx⟩ := get_lt hlt
      obtain ⟨_, ho, S, sc, s1, s2, hS, c0, c1, c2, c3, c4⟩ := hA.op hx
      have hki : (k : Int) < (l.length : Int) := by omega
      have hbr := Nat.lt_of_lt_of_le hb hbl.size
      have hpx := hide (hp.out x (List.mem_of_getElem? hx))
      have C0 := (hbl.cell hb).trans c0
      have C1 := (hbl.cell hb).trans c1
      have C2 := (hbl.cell hb).trans c2
      have C3 := (hbl.cell hb).trans c3
      have C4 := (hbl.cell hb).trans c4
      have hen := hide (refEnded12 (some ⟨b, off, none⟩) c l x.id wr (by unfold maxLen; omega) hp.out (hA.bl hbl))
      have hskip := hide fun (h : markOf l x = false) => hTk.out.trans (lives_skip (out := out) (markOf l) hx h)
      have hput := hide fun (h : markOf l x = true) => hTk.out.trans (lives_put (out := out) (markOf l) hx h)
      have hmk : markOf l x = (decide (x.kind = 2) && !endedF l x.id) := rfl
      generalize endedF l x.id = q at *
      by_cases hk2 : x.kind = 2
      · have e4 : (x.kind == 2) = true := by simp [hk2]
        rw [decide_eq_true hk2, Bool.true_and] at hmk
        replace hk2 := hide hk2
        cases q
        · have g := hide (hput.out (by rw [hmk]; rfl))
          clear hmk hskip hput
          go_wp2_with fail
          refine hen.out.mono ?_
          rintro e w2 ⟨rfl, hb2⟩
          go_wp2_with fail
          have hb12 := hbl.trans hb2
          obtain ⟨wo, hwo⟩ : ∃ wo, wo = w2 := ⟨_, rfl⟩
          subst hwo
          go_loopw [5] (fun i wr => Bl wo wr ∧ ∃ j : Nat, j ≤ out.length ∧ i = .int .i64 j ∧ Hid (∀ y ∈ out.take j, heldF y.pl x.pl < 0)) (fun i _ => out.length - (intOf i).toNat)
          case atStart => exact ⟨Bl.refl _, 0, Nat.zero_le _, rfl, fun y hy => by simp at hy⟩
          case round =>
            obtain ⟨hbi, j, hj, rfl, hf⟩ := hrel
            have hbw := hb12.trans hbi
            have hOi := hO.bl (hb2.trans hbi)
            by_cases hjl : j < out.length
            · obtain ⟨ob, oo, rfl, _, hob⟩ := hOi.addr (by omega)
              obtain ⟨y, hy⟩ := get_lt hjl
              obtain ⟨_, yo, Y, yc, y1, y2, hY, d0, d1, d2, d3, d4⟩ := hOi.op hy
              have hji : (j : Int) < (out.length : Int) := by omega
              have hbl3 := Nat.lt_of_lt_of_le hb hbw.size
              have D3 := fun p : Wd wr => Wd.cell d3 hob p
              have E3 := fun p : Wd wr => Wd.cell ((hbw.cell hb).trans c3) hbl3 p
              have hpy := hop.out y (List.mem_of_getElem? hy)
              have hSw := hS.bl hbw
              obtain ⟨ly, ry⟩ := may_runs hpy hY
              obtain ⟨lx, rx⟩ := may_runs hpx.out hSw
              have hhe := hide fun p : Wd wr => refHeld06 Y S yc sc y.pl x.pl p.v ly lx ry rx y1 y2 s1 s2 (hY.bl p.h) (hSw.bl p.h)
              have hgo := hide (show heldF y.pl x.pl < 0 → ∀ z ∈ out.take (j + 1), heldF z.pl x.pl < 0 from fun h z hz => by
                rw [take_snoc hy, List.mem_append] at hz
                rcases hz with hz | hz
                · exact hf.out z hz
                · rw [List.mem_singleton] at hz; subst hz; exact h)
              have hno := hide (show ¬ heldF y.pl x.pl < 0 → insP out x = out.take j ++ x :: out.drop j from fun h => ins_at hf.out fun z hz => by
                rw [hy] at hz; cases hz; exact h)
              clear ly ry lx rx hpy d0 d1 d2 d3 d4 hy hf
              generalize heldF y.pl x.pl = N at *
              by_cases hN : N < 0
              · have e5 : decide (N < 0) = true := decide_eq_true hN
                have g2 := hide (hgo.out hN)
                replace hN := hide hN
                go_wp2_with fail
                (refine wp_region_wd (by kernel_rfl) (by kernel_rfl) ?_
                 repeat (go_big_quiet_step ((go_at_call 105; exact Calls.wd (hhe.out _))))
                 refine wpQuiet_nil ?_
                 intro w3 hw'
                 obtain ⟨⟨wx, hb3⟩, hw''⟩ := hw'
                 subst hw'')
                go_wp2_with fail
                go_roundw
                case rel => exact ⟨hbi.trans hb3, j + 1, by omega, by go_num, g2.out⟩
                case measure => simp [intOf]; omega
              · have e5 : decide (N < 0) = false := decide_eq_false hN
                have hins := hide (hno.out hN)
                replace hN := hide hN
                go_wp2_with fail
                (refine wp_region_wd (by kernel_rfl) (by kernel_rfl) ?_
                 repeat (go_big_quiet_step ((go_at_call 105; exact Calls.wd (hhe.out _))))
                 refine wpQuiet_nil ?_
                 intro w3 hw'
                 obtain ⟨⟨wx, hb3⟩, hw''⟩ := hw'
                 subst hw'')
                clear hgo hno hhe D3 E3
                have hcj : ¬ c' = j := by omega
                have hb13 := hbw.trans hb3
                have hjc : j ≤ c' := by omega
                have hjci : (j : Int) ≤ (c' : Int) := by omega
                have hjoi : (j : Int) ≤ (out.length : Int) := by omega
                have hR3 := hOi.bl hb3
                have hR1 := hR3.head (n := j)
                have hR2 := R.tail (n := j) hR3 hoc
                have htk : (out.take j).length = j := by rw [List.length_take]; omega
                have hdk : (out.drop j).length = out.length - j := List.length_drop ..
                generalize hF : out.take j = F at *
                generalize hG : out.drop j = G at *
                replace hF := hide hF
                replace hG := hide hG
                replace htk := hide htk
                replace hdk := hide hdk
                replace hR1 := hide hR1
                replace hR2 := hide hR2
                replace hR3 := hide hR3
                have c0' := (hb13.cell hb).trans c0
                have c1' := (hb13.cell hb).trans c1
                have c2' := (hb13.cell hb).trans c2
                have c3' := (hb13.cell hb).trans c3
                have c4' := (hb13.cell hb).trans c4
                have hbs := Nat.lt_of_lt_of_le hb hb13.size
                have q1 : ([] : List Op).length + F.length ≤ maxLen := by rw [htk.out]; unfold maxLen; simp; omega
                have q2 : (([] : List Op).length + F.length) * 48 ≤ 140737488355328 := by rw [htk.out]; simp; omega
                go_wp2_with (at_builtin; refine Hid.out ?_)
                refine hide ?_
                have hsrc1 := OwnA.srcL (base := w3.heap.size) (v := .slice none 0 0) (fun b h => by cases h) (Bl.refl _) (Nat.le_refl _) hR1.out
                refine wpList_append_any2 (C := cOp) (xs := []) (ys := F) rfl (.tmp 48) (.tmp 51) _ rfl 47 i0 _ 48 Tryz.underlying22 hi hz0 hz1 hz2 rfl (.slice none 0 0) 0 rfl Own.nil (some ⟨ob, oo, none⟩) j c' rfl htk.out.symm hsrc1 q1 q2 (Nat.zero_le _) ?_
                intro v9 w9 hown9 hg9 hf9
                have hown : OwnA cOp 47 w3.heap.size w9 v9 F := OwnA.nil.next (Nat.le_refl _) (by rw [← List.nil_append F]; exact hown9) hf9
                have hb39 : Bl w3 w9 := OwnA.app (Bl.refl _) (OwnA.nil (C := cOp) (e := 47)) (Nat.le_refl _) hg9
                clear hown9 hg9 hf9 hsrc1 q1 q2
                have hb19 := hb13.trans hb39
                replace c0' := (hb39.cell hbs).trans c0'
                replace c1' := (hb39.cell hbs).trans c1'
                replace c2' := (hb39.cell hbs).trans c2'
                replace c3' := (hb39.cell hbs).trans c3'
                replace c4' := (hb39.cell hbs).trans c4'
                have hbs9 := Nat.lt_of_lt_of_le hbs hb39.size
                have hown1 := hown.bl ((Bl.refl w9).alloc (.cells (opCells x S sc).toArray 47))
                have hrd : cOp.rd w3 (Fresh 0 w3) x (opCells x S sc) := ⟨ho, S, sc, s1, s2, rfl, hS.bl hb13⟩
                have hsrc := hown.src (t := 47) hb39 (Nat.le_refl _) hrd
                have hcells : (opCells x S sc).toArray = #[Value.int IntKind.u8 2, Value.int IntKind.u32 x.id.t, Value.int IntKind.u8 x.id.r, Value.slice S x.pl.length sc, Value.int IntKind.i64 x.pt] := by unfold opCells; rw [hk2.out]
                rw [hcells] at hown1 hsrc
                clear hcells
                have q1 : F.length + [x].length ≤ maxLen := by rw [htk.out]; simp [maxLen]; omega
                have q2 : (F.length + [x].length) * 48 ≤ 140737488355328 := by rw [htk.out]; simp; omega
                have hWs := hb39.size
                go_wp2_with (at_builtin; refine Hid.out ?_)
                refine hide ?_
                refine wpList_append_any2 (C := cOp) (xs := F) (ys := [x]) rfl (.tmp 53) (.tmp 58) _ rfl 47 i0 _ 48 Tryz.underlying22 hi hz0 hz1 hz2 rfl v9 0 rfl hown1.1 (some ⟨w9.heap.size, 0, none⟩) 1 1 rfl rfl hsrc q1 q2 (Nat.zero_le _) ?_
                intro v8 w8 hown8 hg8 hf8
                have hb38 : Bl w3 w8 := OwnA.app (hb39.alloc _) hown1 (Nat.le_refl _) hg8
                have ho8 := hown1.next (by rw [World.size_alloc]; omega) hown8 hf8
                clear hown hown1 hsrc hown8 hg8 hf8 q1 q2
                have hR2' := hide (hR2.out.bl hb38)
                have hsrcG := OwnA.srcL (A := some ⟨ob, oo + j * 5, none⟩) (fun b h => ho8.2 b h) hb38 (Nat.le_refl _) (show R cOp 0 w3 (some ⟨ob, oo + j * 5, none⟩) G from by have h := hR2.out; rw [if_neg hcj, Option.map_some] at h; unfold Addr.add at h; by_cases h0 : j * 5 = 0 <;> simpa [h0] using h)
                have q1 : (F ++ [x]).length + G.length ≤ maxLen := by rw [List.length_append, htk.out, hdk.out]; simp [maxLen]; omega
                have q2 : ((F ++ [x]).length + G.length) * 48 ≤ 140737488355328 := by rw [List.length_append, htk.out, hdk.out]; simp; omega
                go_wp2_with (at_builtin; refine Hid.out ?_)
                refine hide ?_
                refine wpList_append_any2 (C := cOp) (xs := F ++ [x]) (ys := G) rfl (.tmp 60) (.tmp 63) _ rfl 47 i0 _ 48 Tryz.underlying22 hi hz0 hz1 hz2 rfl v8 0 rfl ho8.1 _ _ _ rfl (hdk.out.symm) (hsrcG) q1 q2 (Nat.zero_le _) ?_
                intro v7 w7 hown7 hg7 hf7
                have hb37 : Bl w3 w7 := OwnA.app hb38 ho8 (Nat.le_refl _) hg7
                obtain ⟨A7, c7, hv7, hr7, p1, p2⟩ := hown7.reads
                have e7 : F ++ [x] ++ G = insP out x := by rw [hins.out]; simp
                rw [e7] at hv7 hr7 p1
                subst hv7
                have hfin := hide (show Bl w w7 from hb13.trans hb37)
                have hopn := hide (show ∀ y ∈ insP out x, placeMay y.pl = true from fun y hy => by
                  rcases ins_memP.1 hy with rfl | hy
                  · exact hpx.out
                  · exact hop.out y hy)
                have hil := hide (ins_len out x)
                have hge := hide (show insP out x = [] → A7 = none ∧ c7 = 0 from fun e => absurd (congrArg List.length e) (by rw [ins_len]; simp))
                clear hown7 hg7 hf7 e7 hsrcG q1 q2 ho8
                go_wp2_with fail
                go_roundw
                case rel => exact ⟨hfin.out, k + 1, insP out x, A7, c7, by omega, by go_num, rfl, p1, p2, by rw [hil.out]; omega, hr7, hopn, g, hge⟩
                case measure => simp [intOf]; omega
            · have hjo : j = out.length := by omega
              have hins := hide (show insP out x = out.take j ++ x :: out.drop j from ins_at hf.out fun z hz => by
                have := (List.getElem?_eq_some_iff.1 hz).1
                omega)
              have e6 : decide (j < out.length) = false := decide_eq_false hjl
              have e6' : decide ((j : Int) < (out.length : Int)) = false := decide_eq_false (by omega)
              replace hjo := hide hjo
              clear hf
              have hG0 : ∀ (A9 : Option Addr) (W9 : World) (v9 : Value), ∃ news, RdL cOp W9 (fun b => (0 ≤ b ∧ b < W9.heap.size) ∧ v9.ownBlock ≠ some b) (out.drop j) news ∧ (∀ ad, A9 = some ad → ∀ (j : Nat) (u : Value), news[j]? = some u → W9.cell? (ad.add j) = some u) ∧ (A9 = none → out.drop j = []) := fun A9 W9 v9 => by
                rw [List.drop_eq_nil_of_le (by rw [hjo.out]; exact Nat.le_refl _)]
                exact ⟨[], rfl, fun _ _ j u hu => by simp at hu, fun _ => rfl⟩
              replace hG0 := hide hG0
              rcases Nat.eq_zero_or_pos out.length with hlz | hlz
              · obtain ⟨rfl, hc0⟩ := hnl.out (List.eq_nil_of_length_eq_zero hlz)
                replace hlz := hide hlz
                have hcj : c' = j := by
                  have := hjo.out
                  have := hlz.out
                  omega
                replace hc0 := hide hc0
                obtain rfl := hcj.symm
                go_wp2_with fail
                (refine wp_region_wd (by kernel_rfl) (by kernel_rfl) ?_
                 repeat (go_big_quiet_step ((fail)))
                 refine wpQuiet_nil ?_
                 intro w3 hw'
                 obtain ⟨⟨wx, hb3⟩, hw''⟩ := hw'
                 subst hw'')
                have hb13 := hbw.trans hb3
                have hjc : j ≤ j := by omega
                have hjci : (j : Int) ≤ (j : Int) := by omega
                have hjoi : (j : Int) ≤ (out.length : Int) := by omega
                have hR3 := hOi.bl hb3
                have hR1 := (show R cOp 0 w3 none (out.take j) from by rw [List.eq_nil_of_length_eq_zero hlz.out, List.take_nil]; exact R.nil)
                have hR2 := hR3
                have htk : (out.take j).length = j := by rw [List.length_take]; omega
                have hdk : (out.drop j).length = out.length - j := List.length_drop ..
                generalize hF : out.take j = F at *
                generalize hG : out.drop j = G at *
                replace hF := hide hF
                replace hG := hide hG
                replace htk := hide htk
                replace hdk := hide hdk
                replace hR1 := hide hR1
                replace hR2 := hide hR2
                replace hR3 := hide hR3
                have c0' := (hb13.cell hb).trans c0
                have c1' := (hb13.cell hb).trans c1
                have c2' := (hb13.cell hb).trans c2
                have c3' := (hb13.cell hb).trans c3
                have c4' := (hb13.cell hb).trans c4
                have hbs := Nat.lt_of_lt_of_le hb hb13.size
                have q1 : ([] : List Op).length + F.length ≤ maxLen := by rw [htk.out]; unfold maxLen; simp; omega
                have q2 : (([] : List Op).length + F.length) * 48 ≤ 140737488355328 := by rw [htk.out]; simp; omega
                go_wp2_with (at_builtin; refine Hid.out ?_)
                refine hide ?_
                have hsrc1 := OwnA.srcL (base := w3.heap.size) (v := .slice none 0 0) (fun b h => by cases h) (Bl.refl _) (Nat.le_refl _) hR1.out
                refine wpList_append_any2 (C := cOp) (xs := []) (ys := F) rfl (.tmp 48) (.tmp 51) _ rfl 47 i0 _ 48 Tryz.underlying22 hi hz0 hz1 hz2 rfl (.slice none 0 0) 0 rfl Own.nil (none) j j rfl htk.out.symm hsrc1 q1 q2 (Nat.zero_le _) ?_
                intro v9 w9 hown9 hg9 hf9
                have hown : OwnA cOp 47 w3.heap.size w9 v9 F := OwnA.nil.next (Nat.le_refl _) (by rw [← List.nil_append F]; exact hown9) hf9
                have hb39 : Bl w3 w9 := OwnA.app (Bl.refl _) (OwnA.nil (C := cOp) (e := 47)) (Nat.le_refl _) hg9
                clear hown9 hg9 hf9 hsrc1 q1 q2
                have hb19 := hb13.trans hb39
                replace c0' := (hb39.cell hbs).trans c0'
                replace c1' := (hb39.cell hbs).trans c1'
                replace c2' := (hb39.cell hbs).trans c2'
                replace c3' := (hb39.cell hbs).trans c3'
                replace c4' := (hb39.cell hbs).trans c4'
                have hbs9 := Nat.lt_of_lt_of_le hbs hb39.size
                have hown1 := hown.bl ((Bl.refl w9).alloc (.cells (opCells x S sc).toArray 47))
                have hrd : cOp.rd w3 (Fresh 0 w3) x (opCells x S sc) := ⟨ho, S, sc, s1, s2, rfl, hS.bl hb13⟩
                have hsrc := hown.src (t := 47) hb39 (Nat.le_refl _) hrd
                have hcells : (opCells x S sc).toArray = #[Value.int IntKind.u8 2, Value.int IntKind.u32 x.id.t, Value.int IntKind.u8 x.id.r, Value.slice S x.pl.length sc, Value.int IntKind.i64 x.pt] := by unfold opCells; rw [hk2.out]
                rw [hcells] at hown1 hsrc
                clear hcells
                have q1 : F.length + [x].length ≤ maxLen := by rw [htk.out]; simp [maxLen]; omega
                have q2 : (F.length + [x].length) * 48 ≤ 140737488355328 := by rw [htk.out]; simp; omega
                have hWs := hb39.size
                go_wp2_with (at_builtin; refine Hid.out ?_)
                refine hide ?_
                refine wpList_append_any2 (C := cOp) (xs := F) (ys := [x]) rfl (.tmp 53) (.tmp 58) _ rfl 47 i0 _ 48 Tryz.underlying22 hi hz0 hz1 hz2 rfl v9 0 rfl hown1.1 (some ⟨w9.heap.size, 0, none⟩) 1 1 rfl rfl hsrc q1 q2 (Nat.zero_le _) ?_
                intro v8 w8 hown8 hg8 hf8
                have hb38 : Bl w3 w8 := OwnA.app (hb39.alloc _) hown1 (Nat.le_refl _) hg8
                have ho8 := hown1.next (by rw [World.size_alloc]; omega) hown8 hf8
                clear hown hown1 hsrc hown8 hg8 hf8 q1 q2
                have hR2' := hide (hR2.out.bl hb38)
                have hsrcG := fun A9 => hG0.out A9 w8 v8
                have q1 : (F ++ [x]).length + G.length ≤ maxLen := by rw [List.length_append, htk.out, hdk.out]; simp [maxLen]; omega
                have q2 : ((F ++ [x]).length + G.length) * 48 ≤ 140737488355328 := by rw [List.length_append, htk.out, hdk.out]; simp; omega
                go_wp2_with (at_builtin; refine Hid.out ?_)
                refine hide ?_
                refine wpList_append_any2 (C := cOp) (xs := F ++ [x]) (ys := G) rfl (.tmp 60) (.tmp 63) _ rfl 47 i0 _ 48 Tryz.underlying22 hi hz0 hz1 hz2 rfl v8 0 rfl ho8.1 _ _ _ rfl (by have := hdk.out; have := hjo.out; omega) (hsrcG _) q1 q2 (Nat.zero_le _) ?_
                intro v7 w7 hown7 hg7 hf7
                have hb37 : Bl w3 w7 := OwnA.app hb38 ho8 (Nat.le_refl _) hg7
                obtain ⟨A7, c7, hv7, hr7, p1, p2⟩ := hown7.reads
                have e7 : F ++ [x] ++ G = insP out x := by rw [hins.out]; simp
                rw [e7] at hv7 hr7 p1
                subst hv7
                have hfin := hide (show Bl w w7 from hb13.trans hb37)
                have hopn := hide (show ∀ y ∈ insP out x, placeMay y.pl = true from fun y hy => by
                  rcases ins_memP.1 hy with rfl | hy
                  · exact hpx.out
                  · exact hop.out y hy)
                have hil := hide (ins_len out x)
                have hge := hide (show insP out x = [] → A7 = none ∧ c7 = 0 from fun e => absurd (congrArg List.length e) (by rw [ins_len]; simp))
                clear hown7 hg7 hf7 e7 hsrcG q1 q2 ho8
                go_wp2_with fail
                go_roundw
                case rel => exact ⟨hfin.out, k + 1, insP out x, A7, c7, by omega, by go_num, rfl, p1, p2, by rw [hil.out]; omega, hr7, hopn, g, hge⟩
                case measure => simp [intOf]; omega
              · obtain ⟨ob, oo, rfl, _, hob⟩ := hOi.addr hlz
                by_cases hcj : c' = j
                · obtain rfl := hcj.symm
                  go_wp2_with fail
                  (refine wp_region_wd (by kernel_rfl) (by kernel_rfl) ?_
                   repeat (go_big_quiet_step ((fail)))
                   refine wpQuiet_nil ?_
                   intro w3 hw'
                   obtain ⟨⟨wx, hb3⟩, hw''⟩ := hw'
                   subst hw'')
                  have hb13 := hbw.trans hb3
                  have hjc : j ≤ j := by omega
                  have hjci : (j : Int) ≤ (j : Int) := by omega
                  have hjoi : (j : Int) ≤ (out.length : Int) := by omega
                  have hR3 := hOi.bl hb3
                  have hR1 := hR3.head (n := j)
                  have hR2 := hR3
                  have htk : (out.take j).length = j := by rw [List.length_take]; omega
                  have hdk : (out.drop j).length = out.length - j := List.length_drop ..
                  generalize hF : out.take j = F at *
                  generalize hG : out.drop j = G at *
                  replace hF := hide hF
                  replace hG := hide hG
                  replace htk := hide htk
                  replace hdk := hide hdk
                  replace hR1 := hide hR1
                  replace hR2 := hide hR2
                  replace hR3 := hide hR3
                  have c0' := (hb13.cell hb).trans c0
                  have c1' := (hb13.cell hb).trans c1
                  have c2' := (hb13.cell hb).trans c2
                  have c3' := (hb13.cell hb).trans c3
                  have c4' := (hb13.cell hb).trans c4
                  have hbs := Nat.lt_of_lt_of_le hb hb13.size
                  have q1 : ([] : List Op).length + F.length ≤ maxLen := by rw [htk.out]; unfold maxLen; simp; omega
                  have q2 : (([] : List Op).length + F.length) * 48 ≤ 140737488355328 := by rw [htk.out]; simp; omega
                  go_wp2_with (at_builtin; refine Hid.out ?_)
                  refine hide ?_
                  have hsrc1 := OwnA.srcL (base := w3.heap.size) (v := .slice none 0 0) (fun b h => by cases h) (Bl.refl _) (Nat.le_refl _) hR1.out
                  refine wpList_append_any2 (C := cOp) (xs := []) (ys := F) rfl (.tmp 48) (.tmp 51) _ rfl 47 i0 _ 48 Tryz.underlying22 hi hz0 hz1 hz2 rfl (.slice none 0 0) 0 rfl Own.nil (some ⟨ob, oo, none⟩) j j rfl htk.out.symm hsrc1 q1 q2 (Nat.zero_le _) ?_
                  intro v9 w9 hown9 hg9 hf9
                  have hown : OwnA cOp 47 w3.heap.size w9 v9 F := OwnA.nil.next (Nat.le_refl _) (by rw [← List.nil_append F]; exact hown9) hf9
                  have hb39 : Bl w3 w9 := OwnA.app (Bl.refl _) (OwnA.nil (C := cOp) (e := 47)) (Nat.le_refl _) hg9
                  clear hown9 hg9 hf9 hsrc1 q1 q2
                  have hb19 := hb13.trans hb39
                  replace c0' := (hb39.cell hbs).trans c0'
                  replace c1' := (hb39.cell hbs).trans c1'
                  replace c2' := (hb39.cell hbs).trans c2'
                  replace c3' := (hb39.cell hbs).trans c3'
                  replace c4' := (hb39.cell hbs).trans c4'
                  have hbs9 := Nat.lt_of_lt_of_le hbs hb39.size
                  have hown1 := hown.bl ((Bl.refl w9).alloc (.cells (opCells x S sc).toArray 47))
                  have hrd : cOp.rd w3 (Fresh 0 w3) x (opCells x S sc) := ⟨ho, S, sc, s1, s2, rfl, hS.bl hb13⟩
                  have hsrc := hown.src (t := 47) hb39 (Nat.le_refl _) hrd
                  have hcells : (opCells x S sc).toArray = #[Value.int IntKind.u8 2, Value.int IntKind.u32 x.id.t, Value.int IntKind.u8 x.id.r, Value.slice S x.pl.length sc, Value.int IntKind.i64 x.pt] := by unfold opCells; rw [hk2.out]
                  rw [hcells] at hown1 hsrc
                  clear hcells
                  have q1 : F.length + [x].length ≤ maxLen := by rw [htk.out]; simp [maxLen]; omega
                  have q2 : (F.length + [x].length) * 48 ≤ 140737488355328 := by rw [htk.out]; simp; omega
                  have hWs := hb39.size
                  go_wp2_with (at_builtin; refine Hid.out ?_)
                  refine hide ?_
                  refine wpList_append_any2 (C := cOp) (xs := F) (ys := [x]) rfl (.tmp 53) (.tmp 58) _ rfl 47 i0 _ 48 Tryz.underlying22 hi hz0 hz1 hz2 rfl v9 0 rfl hown1.1 (some ⟨w9.heap.size, 0, none⟩) 1 1 rfl rfl hsrc q1 q2 (Nat.zero_le _) ?_
                  intro v8 w8 hown8 hg8 hf8
                  have hb38 : Bl w3 w8 := OwnA.app (hb39.alloc _) hown1 (Nat.le_refl _) hg8
                  have ho8 := hown1.next (by rw [World.size_alloc]; omega) hown8 hf8
                  clear hown hown1 hsrc hown8 hg8 hf8 q1 q2
                  have hR2' := hide (hR2.out.bl hb38)
                  have hsrcG := fun A9 => hG0.out A9 w8 v8
                  have q1 : (F ++ [x]).length + G.length ≤ maxLen := by rw [List.length_append, htk.out, hdk.out]; simp [maxLen]; omega
                  have q2 : ((F ++ [x]).length + G.length) * 48 ≤ 140737488355328 := by rw [List.length_append, htk.out, hdk.out]; simp; omega
                  go_wp2_with (at_builtin; refine Hid.out ?_)
                  refine hide ?_
                  refine wpList_append_any2 (C := cOp) (xs := F ++ [x]) (ys := G) rfl (.tmp 60) (.tmp 63) _ rfl 47 i0 _ 48 Tryz.underlying22 hi hz0 hz1 hz2 rfl v8 0 rfl ho8.1 _ _ _ rfl (by have := hdk.out; have := hjo.out; omega) (hsrcG _) q1 q2 (Nat.zero_le _) ?_
                  intro v7 w7 hown7 hg7 hf7
                  have hb37 : Bl w3 w7 := OwnA.app hb38 ho8 (Nat.le_refl _) hg7
                  obtain ⟨A7, c7, hv7, hr7, p1, p2⟩ := hown7.reads
                  have e7 : F ++ [x] ++ G = insP out x := by rw [hins.out]; simp
                  rw [e7] at hv7 hr7 p1
                  subst hv7
                  have hfin := hide (show Bl w w7 from hb13.trans hb37)
                  have hopn := hide (show ∀ y ∈ insP out x, placeMay y.pl = true from fun y hy => by
                    rcases ins_memP.1 hy with rfl | hy
                    · exact hpx.out
                    · exact hop.out y hy)
                  have hil := hide (ins_len out x)
                  have hge := hide (show insP out x = [] → A7 = none ∧ c7 = 0 from fun e => absurd (congrArg List.length e) (by rw [ins_len]; simp))
                  clear hown7 hg7 hf7 e7 hsrcG q1 q2 ho8
                  go_wp2_with fail
                  go_roundw
                  case rel => exact ⟨hfin.out, k + 1, insP out x, A7, c7, by omega, by go_num, rfl, p1, p2, by rw [hil.out]; omega, hr7, hopn, g, hge⟩
                  case measure => simp [intOf]; omega
                · go_wp2_with fail
                  (refine wp_region_wd (by kernel_rfl) (by kernel_rfl) ?_
                   repeat (go_big_quiet_step ((fail)))
                   refine wpQuiet_nil ?_
                   intro w3 hw'
                   obtain ⟨⟨wx, hb3⟩, hw''⟩ := hw'
                   subst hw'')
                  have hb13 := hbw.trans hb3
                  have hjc : j ≤ c' := by omega
                  have hjci : (j : Int) ≤ (c' : Int) := by omega
                  have hjoi : (j : Int) ≤ (out.length : Int) := by omega
                  have hR3 := hOi.bl hb3
                  have hR1 := hR3.head (n := j)
                  have hR2 := hR3
                  have htk : (out.take j).length = j := by rw [List.length_take]; omega
                  have hdk : (out.drop j).length = out.length - j := List.length_drop ..
                  generalize hF : out.take j = F at *
                  generalize hG : out.drop j = G at *
                  replace hF := hide hF
                  replace hG := hide hG
                  replace htk := hide htk
                  replace hdk := hide hdk
                  replace hR1 := hide hR1
                  replace hR2 := hide hR2
                  replace hR3 := hide hR3
                  have c0' := (hb13.cell hb).trans c0
                  have c1' := (hb13.cell hb).trans c1
                  have c2' := (hb13.cell hb).trans c2
                  have c3' := (hb13.cell hb).trans c3
                  have c4' := (hb13.cell hb).trans c4
                  have hbs := Nat.lt_of_lt_of_le hb hb13.size
                  have q1 : ([] : List Op).length + F.length ≤ maxLen := by rw [htk.out]; unfold maxLen; simp; omega
                  have q2 : (([] : List Op).length + F.length) * 48 ≤ 140737488355328 := by rw [htk.out]; simp; omega
                  go_wp2_with (at_builtin; refine Hid.out ?_)
                  refine hide ?_
                  have hsrc1 := OwnA.srcL (base := w3.heap.size) (v := .slice none 0 0) (fun b h => by cases h) (Bl.refl _) (Nat.le_refl _) hR1.out
                  refine wpList_append_any2 (C := cOp) (xs := []) (ys := F) rfl (.tmp 48) (.tmp 51) _ rfl 47 i0 _ 48 Tryz.underlying22 hi hz0 hz1 hz2 rfl (.slice none 0 0) 0 rfl Own.nil (some ⟨ob, oo, none⟩) j c' rfl htk.out.symm hsrc1 q1 q2 (Nat.zero_le _) ?_
                  intro v9 w9 hown9 hg9 hf9
                  have hown : OwnA cOp 47 w3.heap.size w9 v9 F := OwnA.nil.next (Nat.le_refl _) (by rw [← List.nil_append F]; exact hown9) hf9
                  have hb39 : Bl w3 w9 := OwnA.app (Bl.refl _) (OwnA.nil (C := cOp) (e := 47)) (Nat.le_refl _) hg9
                  clear hown9 hg9 hf9 hsrc1 q1 q2
                  have hb19 := hb13.trans hb39
                  replace c0' := (hb39.cell hbs).trans c0'
                  replace c1' := (hb39.cell hbs).trans c1'
                  replace c2' := (hb39.cell hbs).trans c2'
                  replace c3' := (hb39.cell hbs).trans c3'
                  replace c4' := (hb39.cell hbs).trans c4'
                  have hbs9 := Nat.lt_of_lt_of_le hbs hb39.size
                  have hown1 := hown.bl ((Bl.refl w9).alloc (.cells (opCells x S sc).toArray 47))
                  have hrd : cOp.rd w3 (Fresh 0 w3) x (opCells x S sc) := ⟨ho, S, sc, s1, s2, rfl, hS.bl hb13⟩
                  have hsrc := hown.src (t := 47) hb39 (Nat.le_refl _) hrd
                  have hcells : (opCells x S sc).toArray = #[Value.int IntKind.u8 2, Value.int IntKind.u32 x.id.t, Value.int IntKind.u8 x.id.r, Value.slice S x.pl.length sc, Value.int IntKind.i64 x.pt] := by unfold opCells; rw [hk2.out]
                  rw [hcells] at hown1 hsrc
                  clear hcells
                  have q1 : F.length + [x].length ≤ maxLen := by rw [htk.out]; simp [maxLen]; omega
                  have q2 : (F.length + [x].length) * 48 ≤ 140737488355328 := by rw [htk.out]; simp; omega
                  have hWs := hb39.size
                  go_wp2_with (at_builtin; refine Hid.out ?_)
                  refine hide ?_
                  refine wpList_append_any2 (C := cOp) (xs := F) (ys := [x]) rfl (.tmp 53) (.tmp 58) _ rfl 47 i0 _ 48 Tryz.underlying22 hi hz0 hz1 hz2 rfl v9 0 rfl hown1.1 (some ⟨w9.heap.size, 0, none⟩) 1 1 rfl rfl hsrc q1 q2 (Nat.zero_le _) ?_
                  intro v8 w8 hown8 hg8 hf8
                  have hb38 : Bl w3 w8 := OwnA.app (hb39.alloc _) hown1 (Nat.le_refl _) hg8
                  have ho8 := hown1.next (by rw [World.size_alloc]; omega) hown8 hf8
                  clear hown hown1 hsrc hown8 hg8 hf8 q1 q2
                  have hR2' := hide (hR2.out.bl hb38)
                  have hsrcG := fun A9 => hG0.out A9 w8 v8
                  have q1 : (F ++ [x]).length + G.length ≤ maxLen := by rw [List.length_append, htk.out, hdk.out]; simp [maxLen]; omega
                  have q2 : ((F ++ [x]).length + G.length) * 48 ≤ 140737488355328 := by rw [List.length_append, htk.out, hdk.out]; simp; omega
                  go_wp2_with (at_builtin; refine Hid.out ?_)
                  refine hide ?_
                  refine wpList_append_any2 (C := cOp) (xs := F ++ [x]) (ys := G) rfl (.tmp 60) (.tmp 63) _ rfl 47 i0 _ 48 Tryz.underlying22 hi hz0 hz1 hz2 rfl v8 0 rfl ho8.1 _ _ _ rfl (by have := hdk.out; have := hjo.out; omega) (hsrcG _) q1 q2 (Nat.zero_le _) ?_
                  intro v7 w7 hown7 hg7 hf7
                  have hb37 : Bl w3 w7 := OwnA.app hb38 ho8 (Nat.le_refl _) hg7
                  obtain ⟨A7, c7, hv7, hr7, p1, p2⟩ := hown7.reads
                  have e7 : F ++ [x] ++ G = insP out x := by rw [hins.out]; simp
                  rw [e7] at hv7 hr7 p1
                  subst hv7
                  have hfin := hide (show Bl w w7 from hb13.trans hb37)
                  have hopn := hide (show ∀ y ∈ insP out x, placeMay y.pl = true from fun y hy => by
                    rcases ins_memP.1 hy with rfl | hy
                    · exact hpx.out
                    · exact hop.out y hy)
                  have hil := hide (ins_len out x)
                  have hge := hide (show insP out x = [] → A7 = none ∧ c7 = 0 from fun e => absurd (congrArg List.length e) (by rw [ins_len]; simp))
                  clear hown7 hg7 hf7 e7 hsrcG q1 q2 ho8
                  go_wp2_with fail
                  go_roundw
                  case rel => exact ⟨hfin.out, k + 1, insP out x, A7, c7, by omega, by go_num, rfl, p1, p2, by rw [hil.out]; omega, hr7, hopn, g, hge⟩
                  case measure => simp [intOf]; omega
        · have g := hide (hskip.out (by rw [hmk]; rfl))
          clear hmk hskip hput
          go_wp2_with fail
          refine hen.out.mono ?_
          rintro e w2 ⟨rfl, hb2⟩
          go_wp2_with fail
          go_roundw
          case rel => exact ⟨hbl.trans hb2, k + 1, out, A', c', by omega, by go_num, rfl, hoc, hcm', by omega, hO.bl hb2, hop, g, hnl⟩
          case measure => simp [intOf]; omega
      · have e4 : (x.kind == 2) = false := by simp [hk2]
        have g := hide (hskip.out (by rw [hmk, decide_eq_false hk2]; rfl))
        replace hk2 := hide hk2
        clear hmk hskip hput
        go_wp2_with fail
        go_roundw
        case rel => exact ⟨hbl, k + 1, out, A', c', by omega, by go_num, rfl, hoc, hcm', by omega, hO, hop, g, hnl⟩
        case measure => simp [intOf]; omega
    · have hkl : l.length ≤ k := by omega
      have e1 := hide (show T = out by rw [hTk.out, List.drop_eq_nil_of_le hkl]; rfl)
      clear hTk hT0
      go_wp2
      go_ret
      rw [e1.out]
      exact ⟨A', c', rfl, hoc, hcm', hO, hbl⟩

end Go.Proofs.YteoodmilcpmmpaaGreat
