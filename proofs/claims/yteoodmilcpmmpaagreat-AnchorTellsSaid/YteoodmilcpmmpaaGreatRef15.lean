/-
  The walks of the references gone, put, Seen, Of, Elements, At, Before of layer 15.
-/
import Derived.Test.YteoodmilcpmmpaaGreatRef14
import Derived.Test.YteoodmilcpmmpaaGreatAncA
namespace Go.Proofs.YteoodmilcpmmpaaGreat
open Go.RowKit

theorem R.headE {lo : Nat} {w : World} {blk off n : Nat} {l : List Op} (hB : R cEl lo w (some ⟨blk, off, none⟩) l) : R cEl lo w (some ⟨blk, off, none⟩) (l.take n) := by
  have := hB.sub 0 n
  rw [List.drop_zero, Option.map_some] at this
  simpa [Addr.add] using this

theorem R.tailE {lo : Nat} {w : World} {A : Option Addr} {n c : Nat} {l : List Op} (hB : R cEl lo w A l) (hc : l.length ≤ c) : R cEl lo w (if c = n then A else A.map fun x => x.add (n * 4)) (l.drop n) := by
  by_cases h : c = n
  · rw [List.drop_eq_nil_of_le (by omega)]
    exact R.nil
  · rw [if_neg h]
    have := hB.sub n (l.length - n)
    rw [List.take_of_length_le (by rw [List.length_drop]; exact Nat.le_refl _)] at this
    exact this

/-- Elements that stood before the call began serve an append of the call's own. -/
theorem OwnC.srcL {α : Type} {C : Codec α} {lo base : Nat} {w0 w : World} {v : Value} {ys : List α} {A : Option Addr} (ho : ∀ b, v.ownBlock = some b → base ≤ b) (hb : Bl w0 w) (hbase : w0.heap.size ≤ base) (h : R C lo w0 A ys) :
    ∃ news, RdL C w (fun b => (lo ≤ b ∧ b < w.heap.size) ∧ v.ownBlock ≠ some b) ys news ∧ (∀ ad, A = some ad → ∀ (j : Nat) (u : Value), news[j]? = some u → w.cell? (ad.add j) = some u) ∧ (A = none → ys = []) := by
  have h1 : RS C w (fun b => (lo ≤ b ∧ b < w.heap.size) ∧ v.ownBlock ≠ some b) A ys := RS.keep h (hb.keeps fun _ h => h.2) fun b h => ⟨⟨h.1, Nat.lt_of_lt_of_le h.2 hb.size⟩, fun e => by
    have := ho b e
    have := h.2
    omega⟩
  obtain ⟨cells, hr, hs⟩ := h1
  refine ⟨cells, hr, fun ad e j u hu => ?_, fun e => ?_⟩
  · obtain ⟨b, off, e', _, ha⟩ := hs (by intro h; subst h; simp at hu)
    rw [e] at e'
    cases e'
    have hadd : (⟨b, off, none⟩ : Addr).add j = ⟨b, off + j, none⟩ := by
      unfold Addr.add
      split
      · rename_i h0; subst h0; rfl
      · rfl
    rw [hadd]
    exact (ha j u hu).1
  · have hl := hr.length
    by_cases hc : cells = []
    · rw [hc, List.length_nil] at hl
      rcases Nat.mul_eq_zero.1 hl.symm with hl | hl
      · exact List.eq_nil_of_length_eq_zero hl
      · have := C.pos; omega
    · obtain ⟨b, off, e', _⟩ := hs hc
      rw [e] at e'
      cases e'

/-! ### gone -/

def goneX (s : Id) (o : Op) : Bool := decide (o.kind = 3) && decide (placeFin o.pl = s)

set_option maxRecDepth 100000 in
set_option maxHeartbeats 2000000 in
theorem refGone15 (A : Option Addr) (c : Nat) (l : List Op) (s : Id) (w : World) (hl : l.length ≤ maxLen) (hp : ∀ x ∈ l, placeMay x.pl = true) (hA : R cOp 0 w A l) :
    Calls Tryz.prog 153 #[.slice A l.length c, .agg #[.int .u32 s.t, .int .u8 s.r]] w fun e w' => e = .returned (.bool (goneF l s)) ∧ Bl w w' := by
  unfold maxLen at hl
  obtain ⟨W, hW⟩ : ∃ W, W = w.alloc (.cells #[Value.int IntKind.u32 s.t, Value.int IntKind.u8 s.r] 25) := ⟨_, rfl⟩
  have hbW : Bl w W := by rw [hW]; exact (Bl.refl _).alloc _
  have at0 : IdBox W w.heap.size s := by rw [hW]; exact IdBox.new w s _
  obtain ⟨T, hT⟩ : ∃ T, T = goneF l s := ⟨_, rfl⟩
  rw [← hT]
  have hyes := hide (show (∃ x ∈ l, goneX s x = true) → true = T from fun h => by
    rw [hT, eq_comm]
    unfold goneF
    rw [List.any_eq_true]
    exact h)
  have hno := hide (show (∀ x ∈ l, goneX s x = false) → false = T from fun h => by
    rw [hT, eq_comm]
    unfold goneF
    rw [List.any_eq_false]
    exact fun x hx e => by
      have := h x hx
      unfold goneX at this
      rw [e] at this
      cases this)
  clear hT
  replace hp := hide hp
  go_enter Tryz.func153, Tryz.ntmps153
  go_wp2_with fail
  rw [← hW]
  clear hW
  go_loopw [5] (fun i wr => Bl W wr ∧ ∃ k : Nat, k ≤ l.length ∧ i = .int .i64 k ∧ Hid (∀ y ∈ l.take k, goneX s y = false)) (fun i _ => l.length - (intOf i).toNat)
  case atStart => exact ⟨Bl.refl _, 0, Nat.zero_le _, rfl, fun y hy => by simp at hy⟩
  case round =>
    obtain ⟨hbl, k, hk, rfl, hf⟩ := hrel
    by_cases hlt : k < l.length
    · obtain ⟨b, off, rfl, _, hb⟩ := hA.addr (by omega)
      obtain ⟨x, hx⟩ := get_lt hlt
      obtain ⟨_, ho, S, sc, s1, s2, hS, c0, c1, c2, c3, c4⟩ := hA.op hx
      have hki : (k : Int) < (l.length : Int) := by omega
      have hbwr := hbW.trans hbl
      have hbr := Nat.lt_of_lt_of_le hb hbwr.size
      have hsl := (at0.bl hbl).lt
      have hpx := hide (hp.out x (List.mem_of_getElem? hx))
      have hin := hide (show OpIn wr x S sc from ⟨ho, s1, s2, hS.bl hbwr⟩)
      have C0 := fun p : Wd wr => Wd.cell ((hbwr.cell hb).trans c0) hbr p
      have C1 := fun p : Wd wr => Wd.cell ((hbwr.cell hb).trans c1) hbr p
      have C2 := fun p : Wd wr => Wd.cell ((hbwr.cell hb).trans c2) hbr p
      have C3 := fun p : Wd wr => Wd.cell ((hbwr.cell hb).trans c3) hbr p
      have C4 := fun p : Wd wr => Wd.cell ((hbwr.cell hb).trans c4) hbr p
      have S0 := fun p : Wd wr => Wd.cell (at0.bl hbl).c0 hsl p
      have S1 := fun p : Wd wr => Wd.cell (at0.bl hbl).c1 hsl p
      have hend : goneX s x = (decide (x.kind = 3) && !neqId (placeFin x.pl) s) := by unfold goneX neqId; rw [Bool.not_not]
      have hstep := hide (show goneX s x = false → ∀ y ∈ l.take (k + 1), goneX s y = false from fun h y hy => by
        rw [take_snoc hx, List.mem_append] at hy
        rcases hy with hy | hy
        · exact hf.out y hy
        · rw [List.mem_singleton] at hy; subst hy; exact h)
      have hit := hide (show goneX s x = true → true = T from fun h => hyes.out ⟨x, List.mem_of_getElem? hx, h⟩)
      have heq := run_eqId (placeFin x.pl) s
      have htg := hide fun p : Wd wr => refTarget09 x S sc p.v (hin.out.bl p.h) hpx.out
      clear hx hf c0 c1 c2 c3 c4
      generalize placeFin x.pl = q at *
      by_cases hk4 : x.kind = 3
      · have e4 : (x.kind == 3) = true := by simp [hk4]
        rw [decide_eq_true hk4, Bool.true_and] at hend
        replace hk4 := hide hk4
        cases hq : neqId q s
        · have g := hide (hit.out (by rw [hend, hq]; rfl))
          rw [hq] at heq
          clear hend hq
          go_wp2_with fail
          (refine wp_region_wd (by kernel_rfl) (by kernel_rfl) ?_
           repeat (go_big_quiet_step ((go_at_call 140; exact Calls.wd (htg.out _))))
           refine wpQuiet_nil ?_
           intro w2 hw'
           obtain ⟨⟨wx, hb2⟩, hw''⟩ := hw'
           subst hw'')
          go_wp2_with fail
          go_ret
          exact ⟨ret_bool g.out, hbwr.trans hb2⟩
        · have g := hide (hstep.out (by rw [hend, hq]; rfl))
          rw [hq] at heq
          clear hend hq
          go_wp2_with fail
          (refine wp_region_wd (by kernel_rfl) (by kernel_rfl) ?_
           repeat (go_big_quiet_step ((go_at_call 140; exact Calls.wd (htg.out _))))
           refine wpQuiet_nil ?_
           intro w2 hw'
           obtain ⟨⟨wx, hb2⟩, hw''⟩ := hw'
           subst hw'')
          go_wp2_with fail
          go_roundw
          case rel => exact ⟨hbl.trans hb2, k + 1, by omega, by go_num, g.out⟩
          case measure => simp [intOf]; omega
      · have e4 : (x.kind == 3) = false := by simp [hk4]
        have g := hide (hstep.out (by rw [hend, decide_eq_false hk4]; rfl))
        replace hk4 := hide hk4
        clear hend
        go_wp2_with fail
        (refine wp_region_wd (by kernel_rfl) (by kernel_rfl) ?_
         repeat (go_big_quiet_step ((fail)))
         refine wpQuiet_nil ?_
         intro w2 hw'
         obtain ⟨⟨wx, hb2⟩, hw''⟩ := hw'
         subst hw'')
        go_wp2_with fail
        go_roundw
        case rel => exact ⟨hbl.trans hb2, k + 1, by omega, by go_num, g.out⟩
        case measure => simp [intOf]; omega
    · have hkl : k = l.length := by omega
      have g := hide (hno.out fun x hx => hf.out x (by rw [hkl, List.take_length]; exact hx))
      have hki : ¬ (k : Int) < (l.length : Int) := by omega
      clear hf
      replace hkl := hide hkl
      go_wp2_with fail
      go_ret
      exact ⟨ret_bool g.out, hbW.trans hbl⟩

/-! ### put -/
set_option maxRecDepth 100000 in
set_option maxHeartbeats 4000000 in
theorem refPut15 (A S : Option Addr) (c sc lo : Nat) (out : List Op) (x : Op) (w : World) (hoc : out.length ≤ c) (hcm : c ≤ maxLen) (hl : out.length ≤ 65536) (hop : ∀ y ∈ out, placeMay y.pl = true) (hpx : placeMay x.pl = true) (hnl : out = [] → A = none ∧ c = 0) (hlo : lo ≤ w.heap.size) (hA : R cEl lo w A out) (hx : OpIn w x S sc) (hxR : R cRun lo w S x.pl) :
    Calls Tryz.prog 154 #[.slice A out.length c, .agg #[.int .u32 x.id.t, .int .u8 x.id.r, .slice S x.pl.length sc, .int .i64 x.pt]] w fun e w' => ∃ A' c', e = .returned (.slice A' (insP out x).length c') ∧ (insP out x).length ≤ c' ∧ c' ≤ maxLen ∧ R cEl lo w' A' (insP out x) ∧ Bl w w' := by
  obtain ⟨i0, hi, hz0, hz1, hz2⟩ := info_parts Tryz.infoEl
  obtain ⟨L, hL⟩ : ∃ L, L = insP out x := ⟨_, rfl⟩
  rw [← hL]
  replace hL := hide hL
  replace hop := hide hop
  replace hpx := hide hpx
  obtain ⟨W, hW⟩ : ∃ W, W = w.alloc (.cells #[Value.int IntKind.u32 x.id.t, Value.int IntKind.u8 x.id.r, Value.slice S x.pl.length sc, Value.int IntKind.i64 x.pt] 53) := ⟨_, rfl⟩
  have hbW : Bl w W := by rw [hW]; exact (Bl.refl _).alloc _
  have at0 : ElBox W w.heap.size x S sc := by rw [hW]; exact ElBox.new w x S sc _
  go_enter Tryz.func154, Tryz.ntmps154
  go_wp2_with fail
  rw [← hW]
  clear hW
  go_loopw [5] (fun i wr => Bl W wr ∧ ∃ j : Nat, j ≤ out.length ∧ i = .int .i64 j ∧ Hid (∀ y ∈ out.take j, heldF y.pl x.pl < 0)) (fun i _ => out.length - (intOf i).toNat)
  case atStart => exact ⟨Bl.refl _, 0, Nat.zero_le _, rfl, fun y hy => by simp at hy⟩
  case round =>
    obtain ⟨hbl, j, hj, rfl, hf⟩ := hrel
    have hbw := hbW.trans hbl
    have hOi := hA.bl hbw
    have hxl := (at0.bl hbl).lt
    obtain ⟨X0, X1, X2, X3⟩ := (at0.bl hbl).cells
    have E2 := fun p : Wd wr => Wd.cell X2 hxl p
    clear X0 X1 X2 X3
    by_cases hjl : j < out.length
    · obtain ⟨ob, oo, rfl, _, hob⟩ := hOi.addr (by omega)
      obtain ⟨y, hy⟩ := get_lt hjl
      obtain ⟨_, yo, Y, yc, y1, y2, hY, d0, d1, d2, d3⟩ := hOi.el hy
      have hji : (j : Int) < (out.length : Int) := by omega
      have D2 := fun p : Wd wr => Wd.cell d2 hob p
      have hpy := hop.out y (List.mem_of_getElem? hy)
      have hSw := hx.hR.bl hbw
      obtain ⟨ly, ry⟩ := may_runs hpy hY.zero
      obtain ⟨lx, rx⟩ := may_runs hpx.out hSw
      have hhe := hide fun p : Wd wr => refHeld06 Y S yc sc y.pl x.pl p.v ly lx ry rx y1 y2 hx.h1 hx.h2 (hY.zero.bl p.h) (hSw.bl p.h)
      have hgo := hide (show heldF y.pl x.pl < 0 → ∀ z ∈ out.take (j + 1), heldF z.pl x.pl < 0 from fun h z hz => by
        rw [take_snoc hy, List.mem_append] at hz
        rcases hz with hz | hz
        · exact hf.out z hz
        · rw [List.mem_singleton] at hz; subst hz; exact h)
      have hno := hide (show ¬ heldF y.pl x.pl < 0 → insP out x = out.take j ++ x :: out.drop j from fun h => ins_at hf.out fun z hz => by
        rw [hy] at hz; cases hz; exact h)
      clear ly ry lx rx hpy d0 d1 d2 d3 hy hf
      generalize heldF y.pl x.pl = N at *
      by_cases hN : N < 0
      · have e5 : decide (N < 0) = true := decide_eq_true hN
        have g2 := hide (hgo.out hN)
        replace hN := hide hN
        go_wp2_with fail
        (refine wp_region_wd (by kernel_rfl) (by kernel_rfl) ?_
         repeat (go_big_quiet_step ((go_at_call 105; exact Calls.wd (hhe.out _))))
         refine wpQuiet_nil ?_
         intro w3 hw'
         obtain ⟨⟨wx, hb3⟩, hw''⟩ := hw'
         subst hw'')
        go_wp2_with fail
        go_roundw
        case rel => exact ⟨hbl.trans hb3, j + 1, by omega, by go_num, g2.out⟩
        case measure => simp [intOf]; omega
      · have e5 : decide (N < 0) = false := decide_eq_false hN
        have hins := hide (hno.out hN)
        replace hN := hide hN
        go_wp2_with fail
        (refine wp_region_wd (by kernel_rfl) (by kernel_rfl) ?_
         repeat (go_big_quiet_step ((go_at_call 105; exact Calls.wd (hhe.out _))))
         refine wpQuiet_nil ?_
         intro w3 hw'
         obtain ⟨⟨wx, hb3⟩, hw''⟩ := hw'
         subst hw'')
        clear hgo hno hhe D2 E2
        have hcj : ¬ c = j := by omega
        have hb13 := hbw.trans hb3
        have hjc : j ≤ c := by omega
        have hjci : (j : Int) ≤ (c : Int) := by omega
        have hjoi : (j : Int) ≤ (out.length : Int) := by omega
        have hR3 := hOi.bl hb3
        have hR1 := hR3.headE (n := j)
        have hR2 := R.tailE (n := j) hR3 hoc
        have htk : (out.take j).length = j := by rw [List.length_take]; omega
        have hdk : (out.drop j).length = out.length - j := List.length_drop ..
        generalize hF : out.take j = F at *
        generalize hG : out.drop j = G at *
        replace hF := hide hF
        replace hG := hide hG
        replace htk := hide htk
        replace hdk := hide hdk
        replace hR1 := hide hR1
        replace hR2 := hide hR2
        replace hR3 := hide hR3
        have at3 := at0.bl (hbl.trans hb3)
        have q1 : ([] : List Op).length + F.length ≤ maxLen := by rw [htk.out]; unfold maxLen; simp; omega
        have q2 : (([] : List Op).length + F.length) * 40 ≤ 140737488355328 := by rw [htk.out]; simp; omega
        go_wp2_with (at_builtin; refine Hid.out ?_)
        refine hide ?_
        have hsrc1 := OwnC.srcL (lo := lo) (base := w3.heap.size) (v := .slice none 0 0) (fun b h => by cases h) (Bl.refl _) (Nat.le_refl _) hR1.out
        refine wpList_append_any2 (C := cEl) (xs := []) (ys := F) rfl (.tmp 24) (.tmp 27) _ rfl 53 i0 _ 40 Tryz.underlying48 hi hz0 hz1 hz2 rfl (.slice none 0 0) lo rfl Own.nil (some ⟨ob, oo, none⟩) j c rfl htk.out.symm hsrc1 q1 q2 (Nat.le_trans hlo hb13.size) ?_
        intro v9 w9 hown9 hg9 hf9
        have hown : OwnC cEl 53 lo w3.heap.size w9 v9 F := OwnC.nil.next (Nat.le_refl _) (by rw [← List.nil_append F]; exact hown9) hf9
        have hb39 : Bl w3 w9 := OwnC.app (lo := lo) (Bl.refl _) (OwnC.nil (C := cEl) (e := 53)) (Nat.le_refl _) hg9
        clear hown9 hg9 hf9 hsrc1 q1 q2
        have hb19 := hb13.trans hb39
        obtain ⟨e0, e1, e2, e3⟩ := (at3.bl hb39).cells
        have hel := (at3.bl hb39).lt
        have hown1 := hown.bl ((Bl.refl w9).alloc (.cells #[Value.int IntKind.u32 x.id.t, Value.int IntKind.u8 x.id.r, Value.slice S x.pl.length sc, Value.int IntKind.i64 x.pt] 53))
        have hrd : cEl.rd w3 (Fresh lo w3) x (elCells x S sc) := ⟨hx.ok, S, sc, hx.h1, hx.h2, rfl, hxR.bl hb13⟩
        have hsrc := hown.src (t := 53) hb39 (Nat.le_refl _) hrd
        have q1 : F.length + [x].length ≤ maxLen := by rw [htk.out]; simp [maxLen]; omega
        have q2 : (F.length + [x].length) * 40 ≤ 140737488355328 := by rw [htk.out]; simp; omega
        have hWs := hb39.size
        go_wp2_with (at_builtin; refine Hid.out ?_)
        refine hide ?_
        refine wpList_append_any2 (C := cEl) (xs := F) (ys := [x]) rfl (.tmp 29) (.tmp 31) _ rfl 53 i0 _ 40 Tryz.underlying48 hi hz0 hz1 hz2 rfl v9 lo rfl hown1.1 (some ⟨w9.heap.size, 0, none⟩) 1 1 rfl rfl hsrc q1 q2 (Nat.le_trans hlo (Nat.le_trans hb13.size (Nat.le_trans hWs (by rw [World.size_alloc]; exact Nat.le_succ _)))) ?_
        intro v8 w8 hown8 hg8 hf8
        have hb38 : Bl w3 w8 := OwnC.app (hb39.alloc _) hown1 (Nat.le_refl _) hg8
        have ho8 := hown1.next (by rw [World.size_alloc]; omega) hown8 hf8
        clear hown hown1 hsrc hown8 hg8 hf8 q1 q2 e0 e1 e2 e3 hel
        have hR2' := hide (hR2.out.bl hb38)
        have hsrcG := OwnC.srcL (A := some ⟨ob, oo + j * 4, none⟩) (fun b h => ho8.2 b h) hb38 (Nat.le_refl _) (show R cEl lo w3 (some ⟨ob, oo + j * 4, none⟩) G from by have h := hR2.out; rw [if_neg hcj, Option.map_some] at h; unfold Addr.add at h; by_cases h0 : j * 4 = 0 <;> simpa [h0] using h)
        have q1 : (F ++ [x]).length + G.length ≤ maxLen := by rw [List.length_append, htk.out, hdk.out]; simp [maxLen]; omega
        have q2 : ((F ++ [x]).length + G.length) * 40 ≤ 140737488355328 := by rw [List.length_append, htk.out, hdk.out]; simp; omega
        go_wp2_with (at_builtin; refine Hid.out ?_)
        refine hide ?_
        refine wpList_append_any2 (C := cEl) (xs := F ++ [x]) (ys := G) rfl (.tmp 33) (.tmp 36) _ rfl 53 i0 _ 40 Tryz.underlying48 hi hz0 hz1 hz2 rfl v8 lo rfl ho8.1 _ _ _ rfl (hdk.out.symm) (hsrcG) q1 q2 (Nat.le_trans hlo (Nat.le_trans hb13.size hb38.size)) ?_
        intro v7 w7 hown7 hg7 hf7
        have hb37 : Bl w3 w7 := OwnC.app hb38 ho8 (Nat.le_refl _) hg7
        obtain ⟨A7, c7, hv7, hr7, p1, p2⟩ := hown7.reads
        have e7 : F ++ [x] ++ G = insP out x := by rw [hins.out]; simp
        rw [e7] at hv7 hr7 p1
        subst hv7
        have hfin := hide (show Bl w w7 from hb13.trans hb37)
        clear hown7 hg7 hf7 e7 hsrcG q1 q2 ho8
        go_wp2_with fail
        go_ret
        rw [hL.out]
        exact ⟨A7, c7, rfl, p1, p2, hr7, hfin.out⟩
    · have hjo : j = out.length := by omega
      have hins := hide (show insP out x = out.take j ++ x :: out.drop j from ins_at hf.out fun z hz => by
        have := (List.getElem?_eq_some_iff.1 hz).1
        omega)
      have e6 : decide (j < out.length) = false := decide_eq_false hjl
      have e6' : decide ((j : Int) < (out.length : Int)) = false := decide_eq_false (by omega)
      replace hjo := hide hjo
      clear hf
      have hG0 : ∀ (A9 : Option Addr) (W9 : World) (v9 : Value), ∃ news, RdL cEl W9 (fun b => (lo ≤ b ∧ b < W9.heap.size) ∧ v9.ownBlock ≠ some b) (out.drop j) news ∧ (∀ ad, A9 = some ad → ∀ (j : Nat) (u : Value), news[j]? = some u → W9.cell? (ad.add j) = some u) ∧ (A9 = none → out.drop j = []) := fun A9 W9 v9 => by
        rw [List.drop_eq_nil_of_le (by rw [hjo.out]; exact Nat.le_refl _)]
        exact ⟨[], rfl, fun _ _ j u hu => by simp at hu, fun _ => rfl⟩
      replace hG0 := hide hG0
      rcases Nat.eq_zero_or_pos out.length with hlz | hlz
      · obtain ⟨rfl, hc0⟩ := hnl (List.eq_nil_of_length_eq_zero hlz)
        replace hlz := hide hlz
        have hcj : c = j := by
          have := hjo.out
          have := hlz.out
          omega
        replace hc0 := hide hc0
        obtain rfl := hcj.symm
        go_wp2_with fail
        (refine wp_region_wd (by kernel_rfl) (by kernel_rfl) ?_
         repeat (go_big_quiet_step ((fail)))
         refine wpQuiet_nil ?_
         intro w3 hw'
         obtain ⟨⟨wx, hb3⟩, hw''⟩ := hw'
         subst hw'')
        clear E2
        have hb13 := hbw.trans hb3
        have hjc : j ≤ j := by omega
        have hjci : (j : Int) ≤ (j : Int) := by omega
        have hjoi : (j : Int) ≤ (out.length : Int) := by omega
        have hR3 := hOi.bl hb3
        have hR1 := (show R cEl lo w3 none (out.take j) from by rw [List.eq_nil_of_length_eq_zero hlz.out, List.take_nil]; exact R.nil)
        have hR2 := hR3
        have htk : (out.take j).length = j := by rw [List.length_take]; omega
        have hdk : (out.drop j).length = out.length - j := List.length_drop ..
        generalize hF : out.take j = F at *
        generalize hG : out.drop j = G at *
        replace hF := hide hF
        replace hG := hide hG
        replace htk := hide htk
        replace hdk := hide hdk
        replace hR1 := hide hR1
        replace hR2 := hide hR2
        replace hR3 := hide hR3
        have at3 := at0.bl (hbl.trans hb3)
        have q1 : ([] : List Op).length + F.length ≤ maxLen := by rw [htk.out]; unfold maxLen; simp; omega
        have q2 : (([] : List Op).length + F.length) * 40 ≤ 140737488355328 := by rw [htk.out]; simp; omega
        go_wp2_with (at_builtin; refine Hid.out ?_)
        refine hide ?_
        have hsrc1 := OwnC.srcL (lo := lo) (base := w3.heap.size) (v := .slice none 0 0) (fun b h => by cases h) (Bl.refl _) (Nat.le_refl _) hR1.out
        refine wpList_append_any2 (C := cEl) (xs := []) (ys := F) rfl (.tmp 24) (.tmp 27) _ rfl 53 i0 _ 40 Tryz.underlying48 hi hz0 hz1 hz2 rfl (.slice none 0 0) lo rfl Own.nil (none) j j rfl htk.out.symm hsrc1 q1 q2 (Nat.le_trans hlo hb13.size) ?_
        intro v9 w9 hown9 hg9 hf9
        have hown : OwnC cEl 53 lo w3.heap.size w9 v9 F := OwnC.nil.next (Nat.le_refl _) (by rw [← List.nil_append F]; exact hown9) hf9
        have hb39 : Bl w3 w9 := OwnC.app (lo := lo) (Bl.refl _) (OwnC.nil (C := cEl) (e := 53)) (Nat.le_refl _) hg9
        clear hown9 hg9 hf9 hsrc1 q1 q2
        have hb19 := hb13.trans hb39
        obtain ⟨e0, e1, e2, e3⟩ := (at3.bl hb39).cells
        have hel := (at3.bl hb39).lt
        have hown1 := hown.bl ((Bl.refl w9).alloc (.cells #[Value.int IntKind.u32 x.id.t, Value.int IntKind.u8 x.id.r, Value.slice S x.pl.length sc, Value.int IntKind.i64 x.pt] 53))
        have hrd : cEl.rd w3 (Fresh lo w3) x (elCells x S sc) := ⟨hx.ok, S, sc, hx.h1, hx.h2, rfl, hxR.bl hb13⟩
        have hsrc := hown.src (t := 53) hb39 (Nat.le_refl _) hrd
        have q1 : F.length + [x].length ≤ maxLen := by rw [htk.out]; simp [maxLen]; omega
        have q2 : (F.length + [x].length) * 40 ≤ 140737488355328 := by rw [htk.out]; simp; omega
        have hWs := hb39.size
        go_wp2_with (at_builtin; refine Hid.out ?_)
        refine hide ?_
        refine wpList_append_any2 (C := cEl) (xs := F) (ys := [x]) rfl (.tmp 29) (.tmp 31) _ rfl 53 i0 _ 40 Tryz.underlying48 hi hz0 hz1 hz2 rfl v9 lo rfl hown1.1 (some ⟨w9.heap.size, 0, none⟩) 1 1 rfl rfl hsrc q1 q2 (Nat.le_trans hlo (Nat.le_trans hb13.size (Nat.le_trans hWs (by rw [World.size_alloc]; exact Nat.le_succ _)))) ?_
        intro v8 w8 hown8 hg8 hf8
        have hb38 : Bl w3 w8 := OwnC.app (hb39.alloc _) hown1 (Nat.le_refl _) hg8
        have ho8 := hown1.next (by rw [World.size_alloc]; omega) hown8 hf8
        clear hown hown1 hsrc hown8 hg8 hf8 q1 q2 e0 e1 e2 e3 hel
        have hR2' := hide (hR2.out.bl hb38)
        have hsrcG := fun A9 => hG0.out A9 w8 v8
        have q1 : (F ++ [x]).length + G.length ≤ maxLen := by rw [List.length_append, htk.out, hdk.out]; simp [maxLen]; omega
        have q2 : ((F ++ [x]).length + G.length) * 40 ≤ 140737488355328 := by rw [List.length_append, htk.out, hdk.out]; simp; omega
        go_wp2_with (at_builtin; refine Hid.out ?_)
        refine hide ?_
        refine wpList_append_any2 (C := cEl) (xs := F ++ [x]) (ys := G) rfl (.tmp 33) (.tmp 36) _ rfl 53 i0 _ 40 Tryz.underlying48 hi hz0 hz1 hz2 rfl v8 lo rfl ho8.1 _ _ _ rfl (by have := hdk.out; have := hjo.out; omega) (hsrcG _) q1 q2 (Nat.le_trans hlo (Nat.le_trans hb13.size hb38.size)) ?_
        intro v7 w7 hown7 hg7 hf7
        have hb37 : Bl w3 w7 := OwnC.app hb38 ho8 (Nat.le_refl _) hg7
        obtain ⟨A7, c7, hv7, hr7, p1, p2⟩ := hown7.reads
        have e7 : F ++ [x] ++ G = insP out x := by rw [hins.out]; simp
        rw [e7] at hv7 hr7 p1
        subst hv7
        have hfin := hide (show Bl w w7 from hb13.trans hb37)
        clear hown7 hg7 hf7 e7 hsrcG q1 q2 ho8
        go_wp2_with fail
        go_ret
        rw [hL.out]
        exact ⟨A7, c7, rfl, p1, p2, hr7, hfin.out⟩
      · obtain ⟨ob, oo, rfl, _, hob⟩ := hOi.addr hlz
        by_cases hcj : c = j
        · obtain rfl := hcj.symm
          go_wp2_with fail
          (refine wp_region_wd (by kernel_rfl) (by kernel_rfl) ?_
           repeat (go_big_quiet_step ((fail)))
           refine wpQuiet_nil ?_
           intro w3 hw'
           obtain ⟨⟨wx, hb3⟩, hw''⟩ := hw'
           subst hw'')
          clear E2
          have hb13 := hbw.trans hb3
          have hjc : j ≤ j := by omega
          have hjci : (j : Int) ≤ (j : Int) := by omega
          have hjoi : (j : Int) ≤ (out.length : Int) := by omega
          have hR3 := hOi.bl hb3
          have hR1 := hR3.headE (n := j)
          have hR2 := hR3
          have htk : (out.take j).length = j := by rw [List.length_take]; omega
          have hdk : (out.drop j).length = out.length - j := List.length_drop ..
          generalize hF : out.take j = F at *
          generalize hG : out.drop j = G at *
          replace hF := hide hF
          replace hG := hide hG
          replace htk := hide htk
          replace hdk := hide hdk
          replace hR1 := hide hR1
          replace hR2 := hide hR2
          replace hR3 := hide hR3
          have at3 := at0.bl (hbl.trans hb3)
          have q1 : ([] : List Op).length + F.length ≤ maxLen := by rw [htk.out]; unfold maxLen; simp; omega
          have q2 : (([] : List Op).length + F.length) * 40 ≤ 140737488355328 := by rw [htk.out]; simp; omega
          go_wp2_with (at_builtin; refine Hid.out ?_)
          refine hide ?_
          have hsrc1 := OwnC.srcL (lo := lo) (base := w3.heap.size) (v := .slice none 0 0) (fun b h => by cases h) (Bl.refl _) (Nat.le_refl _) hR1.out
          refine wpList_append_any2 (C := cEl) (xs := []) (ys := F) rfl (.tmp 24) (.tmp 27) _ rfl 53 i0 _ 40 Tryz.underlying48 hi hz0 hz1 hz2 rfl (.slice none 0 0) lo rfl Own.nil (some ⟨ob, oo, none⟩) j j rfl htk.out.symm hsrc1 q1 q2 (Nat.le_trans hlo hb13.size) ?_
          intro v9 w9 hown9 hg9 hf9
          have hown : OwnC cEl 53 lo w3.heap.size w9 v9 F := OwnC.nil.next (Nat.le_refl _) (by rw [← List.nil_append F]; exact hown9) hf9
          have hb39 : Bl w3 w9 := OwnC.app (lo := lo) (Bl.refl _) (OwnC.nil (C := cEl) (e := 53)) (Nat.le_refl _) hg9
          clear hown9 hg9 hf9 hsrc1 q1 q2
          have hb19 := hb13.trans hb39
          obtain ⟨e0, e1, e2, e3⟩ := (at3.bl hb39).cells
          have hel := (at3.bl hb39).lt
          have hown1 := hown.bl ((Bl.refl w9).alloc (.cells #[Value.int IntKind.u32 x.id.t, Value.int IntKind.u8 x.id.r, Value.slice S x.pl.length sc, Value.int IntKind.i64 x.pt] 53))
          have hrd : cEl.rd w3 (Fresh lo w3) x (elCells x S sc) := ⟨hx.ok, S, sc, hx.h1, hx.h2, rfl, hxR.bl hb13⟩
          have hsrc := hown.src (t := 53) hb39 (Nat.le_refl _) hrd
          have q1 : F.length + [x].length ≤ maxLen := by rw [htk.out]; simp [maxLen]; omega
          have q2 : (F.length + [x].length) * 40 ≤ 140737488355328 := by rw [htk.out]; simp; omega
          have hWs := hb39.size
          go_wp2_with (at_builtin; refine Hid.out ?_)
          refine hide ?_
          refine wpList_append_any2 (C := cEl) (xs := F) (ys := [x]) rfl (.tmp 29) (.tmp 31) _ rfl 53 i0 _ 40 Tryz.underlying48 hi hz0 hz1 hz2 rfl v9 lo rfl hown1.1 (some ⟨w9.heap.size, 0, none⟩) 1 1 rfl rfl hsrc q1 q2 (Nat.le_trans hlo (Nat.le_trans hb13.size (Nat.le_trans hWs (by rw [World.size_alloc]; exact Nat.le_succ _)))) ?_
          intro v8 w8 hown8 hg8 hf8
          have hb38 : Bl w3 w8 := OwnC.app (hb39.alloc _) hown1 (Nat.le_refl _) hg8
          have ho8 := hown1.next (by rw [World.size_alloc]; omega) hown8 hf8
          clear hown hown1 hsrc hown8 hg8 hf8 q1 q2 e0 e1 e2 e3 hel
          have hR2' := hide (hR2.out.bl hb38)
          have hsrcG := fun A9 => hG0.out A9 w8 v8
          have q1 : (F ++ [x]).length + G.length ≤ maxLen := by rw [List.length_append, htk.out, hdk.out]; simp [maxLen]; omega
          have q2 : ((F ++ [x]).length + G.length) * 40 ≤ 140737488355328 := by rw [List.length_append, htk.out, hdk.out]; simp; omega
          go_wp2_with (at_builtin; refine Hid.out ?_)
          refine hide ?_
          refine wpList_append_any2 (C := cEl) (xs := F ++ [x]) (ys := G) rfl (.tmp 33) (.tmp 36) _ rfl 53 i0 _ 40 Tryz.underlying48 hi hz0 hz1 hz2 rfl v8 lo rfl ho8.1 _ _ _ rfl (by have := hdk.out; have := hjo.out; omega) (hsrcG _) q1 q2 (Nat.le_trans hlo (Nat.le_trans hb13.size hb38.size)) ?_
          intro v7 w7 hown7 hg7 hf7
          have hb37 : Bl w3 w7 := OwnC.app hb38 ho8 (Nat.le_refl _) hg7
          obtain ⟨A7, c7, hv7, hr7, p1, p2⟩ := hown7.reads
          have e7 : F ++ [x] ++ G = insP out x := by rw [hins.out]; simp
          rw [e7] at hv7 hr7 p1
          subst hv7
          have hfin := hide (show Bl w w7 from hb13.trans hb37)
          clear hown7 hg7 hf7 e7 hsrcG q1 q2 ho8
          go_wp2_with fail
          go_ret
          rw [hL.out]
          exact ⟨A7, c7, rfl, p1, p2, hr7, hfin.out⟩
        · go_wp2_with fail
          (refine wp_region_wd (by kernel_rfl) (by kernel_rfl) ?_
           repeat (go_big_quiet_step ((fail)))
           refine wpQuiet_nil ?_
           intro w3 hw'
           obtain ⟨⟨wx, hb3⟩, hw''⟩ := hw'
           subst hw'')
          clear E2
          have hb13 := hbw.trans hb3
          have hjc : j ≤ c := by omega
          have hjci : (j : Int) ≤ (c : Int) := by omega
          have hjoi : (j : Int) ≤ (out.length : Int) := by omega
          have hR3 := hOi.bl hb3
          have hR1 := hR3.headE (n := j)
          have hR2 := hR3
          have htk : (out.take j).length = j := by rw [List.length_take]; omega
          have hdk : (out.drop j).length = out.length - j := List.length_drop ..
          generalize hF : out.take j = F at *
          generalize hG : out.drop j = G at *
          replace hF := hide hF
          replace hG := hide hG
          replace htk := hide htk
          replace hdk := hide hdk
          replace hR1 := hide hR1
          replace hR2 := hide hR2
          replace hR3 := hide hR3
          have at3 := at0.bl (hbl.trans hb3)
          have q1 : ([] : List Op).length + F.length ≤ maxLen := by rw [htk.out]; unfold maxLen; simp; omega
          have q2 : (([] : List Op).length + F.length) * 40 ≤ 140737488355328 := by rw [htk.out]; simp; omega
          go_wp2_with (at_builtin; refine Hid.out ?_)
          refine hide ?_
          have hsrc1 := OwnC.srcL (lo := lo) (base := w3.heap.size) (v := .slice none 0 0) (fun b h => by cases h) (Bl.refl _) (Nat.le_refl _) hR1.out
          refine wpList_append_any2 (C := cEl) (xs := []) (ys := F) rfl (.tmp 24) (.tmp 27) _ rfl 53 i0 _ 40 Tryz.underlying48 hi hz0 hz1 hz2 rfl (.slice none 0 0) lo rfl Own.nil (some ⟨ob, oo, none⟩) j c rfl htk.out.symm hsrc1 q1 q2 (Nat.le_trans hlo hb13.size) ?_
          intro v9 w9 hown9 hg9 hf9
          have hown : OwnC cEl 53 lo w3.heap.size w9 v9 F := OwnC.nil.next (Nat.le_refl _) (by rw [← List.nil_append F]; exact hown9) hf9
          have hb39 : Bl w3 w9 := OwnC.app (lo := lo) (Bl.refl _) (OwnC.nil (C := cEl) (e := 53)) (Nat.le_refl _) hg9
          clear hown9 hg9 hf9 hsrc1 q1 q2
          have hb19 := hb13.trans hb39
          obtain ⟨e0, e1, e2, e3⟩ := (at3.bl hb39).cells
          have hel := (at3.bl hb39).lt
          have hown1 := hown.bl ((Bl.refl w9).alloc (.cells #[Value.int IntKind.u32 x.id.t, Value.int IntKind.u8 x.id.r, Value.slice S x.pl.length sc, Value.int IntKind.i64 x.pt] 53))
          have hrd : cEl.rd w3 (Fresh lo w3) x (elCells x S sc) := ⟨hx.ok, S, sc, hx.h1, hx.h2, rfl, hxR.bl hb13⟩
          have hsrc := hown.src (t := 53) hb39 (Nat.le_refl _) hrd
          have q1 : F.length + [x].length ≤ maxLen := by rw [htk.out]; simp [maxLen]; omega
          have q2 : (F.length + [x].length) * 40 ≤ 140737488355328 := by rw [htk.out]; simp; omega
          have hWs := hb39.size
          go_wp2_with (at_builtin; refine Hid.out ?_)
          refine hide ?_
          refine wpList_append_any2 (C := cEl) (xs := F) (ys := [x]) rfl (.tmp 29) (.tmp 31) _ rfl 53 i0 _ 40 Tryz.underlying48 hi hz0 hz1 hz2 rfl v9 lo rfl hown1.1 (some ⟨w9.heap.size, 0, none⟩) 1 1 rfl rfl hsrc q1 q2 (Nat.le_trans hlo (Nat.le_trans hb13.size (Nat.le_trans hWs (by rw [World.size_alloc]; exact Nat.le_succ _)))) ?_
          intro v8 w8 hown8 hg8 hf8
          have hb38 : Bl w3 w8 := OwnC.app (hb39.alloc _) hown1 (Nat.le_refl _) hg8
          have ho8 := hown1.next (by rw [World.size_alloc]; omega) hown8 hf8
          clear hown hown1 hsrc hown8 hg8 hf8 q1 q2 e0 e1 e2 e3 hel
          have hR2' := hide (hR2.out.bl hb38)
          have hsrcG := fun A9 => hG0.out A9 w8 v8
          have q1 : (F ++ [x]).length + G.length ≤ maxLen := by rw [List.length_append, htk.out, hdk.out]; simp [maxLen]; omega
          have q2 : ((F ++ [x]).length + G.length) * 40 ≤ 140737488355328 := by rw [List.length_append, htk.out, hdk.out]; simp; omega
          go_wp2_with (at_builtin; refine Hid.out ?_)
          refine hide ?_
          refine wpList_append_any2 (C := cEl) (xs := F ++ [x]) (ys := G) rfl (.tmp 33) (.tmp 36) _ rfl 53 i0 _ 40 Tryz.underlying48 hi hz0 hz1 hz2 rfl v8 lo rfl ho8.1 _ _ _ rfl (by have := hdk.out; have := hjo.out; omega) (hsrcG _) q1 q2 (Nat.le_trans hlo (Nat.le_trans hb13.size hb38.size)) ?_
          intro v7 w7 hown7 hg7 hf7
          have hb37 : Bl w3 w7 := OwnC.app hb38 ho8 (Nat.le_refl _) hg7
          obtain ⟨A7, c7, hv7, hr7, p1, p2⟩ := hown7.reads
          have e7 : F ++ [x] ++ G = insP out x := by rw [hins.out]; simp
          rw [e7] at hv7 hr7 p1
          subst hv7
          have hfin := hide (show Bl w w7 from hb13.trans hb37)
          clear hown7 hg7 hf7 e7 hsrcG q1 q2 ho8
          go_wp2_with fail
          go_ret
          rw [hL.out]
          exact ⟨A7, c7, rfl, p1, p2, hr7, hfin.out⟩

/-! ### Seen -/

theorem ins_notnil {out : List Op} {x : Op} : insP out x ≠ [] := fun e => absurd (congrArg List.length e) (by rw [ins_len]; simp)

set_option maxRecDepth 100000 in
set_option maxHeartbeats 4000000 in
theorem refSeen15 (A : Option Addr) (c : Nat) (l : List Op) (w : World) (hl : l.length ≤ 65536) (hp : ∀ x ∈ l, placeMay x.pl = true) (hA : R cOp 0 w A l) :
    Calls Tryz.prog 106 #[.slice A l.length c] w (New cEl (seenL l) w) := by
  obtain ⟨T, hT⟩ : ∃ T, T = seenL l := ⟨_, rfl⟩
  rw [← hT]
  replace hp := hide hp
  have hT0 := hide (show T = ((l.drop 0).filter (fun o => decide (o.kind = 1) && !goneF l o.id)).foldl insP [] from hT)
  clear hT
  have hgone := hide fun (s : Id) V (hv : Bl w V) => refGone15 A c l s V (by unfold maxLen; omega) hp.out (hA.bl hv)
  go_enter Tryz.func106, Tryz.ntmps106
  go_wp2_with fail
  go_loopw [3, 4] (fun v i wr => Bl w wr ∧ ∃ (k : Nat) (out : List Op) (A' : Option Addr) (c' : Nat), k ≤ l.length ∧ i = .int .i64 k ∧ v = .slice A' out.length c' ∧ out.length ≤ c' ∧ c' ≤ maxLen ∧ out.length ≤ k ∧ R cEl w.heap.size wr A' out ∧ Hid (∀ x ∈ out, placeMay x.pl = true) ∧ Hid (T = ((l.drop k).filter (fun o => decide (o.kind = 1) && !goneF l o.id)).foldl insP out) ∧ Hid (out = [] → A' = none ∧ c' = 0)) (fun _ i _ => l.length - (intOf i).toNat)
  case atStart => exact ⟨Bl.refl _, 0, [], none, 0, Nat.zero_le _, rfl, rfl, Nat.le_refl _, Nat.zero_le _, Nat.le_refl _, R.nil, (fun x hx => by cases hx), hT0.out, fun _ => ⟨rfl, rfl⟩⟩
  case round =>
    obtain ⟨hbl, k, out, A', c', hk, rfl, rfl, hoc, hcm', hok, hO, hop, hTk, hnl⟩ := hrel
    by_cases hlt : k < l.length
    · obtain ⟨b, off, rfl, _, hb⟩ := hA.addr (by omega)
      obtain ⟨x, hx⟩ := get_lt hlt
      obtain ⟨_, ho, S, sc, s1, s2, hS, c0, c1, c2, c3, c4⟩ := hA.op hx
      have hki : (k : Int) < (l.length : Int) := by omega
      have hbr := Nat.lt_of_lt_of_le hb hbl.size
      have hpx := hide (hp.out x (List.mem_of_getElem? hx))
      have C0 := (hbl.cell hb).trans c0
      have C1 := (hbl.cell hb).trans c1
      have C2 := (hbl.cell hb).trans c2
      have C3 := (hbl.cell hb).trans c3
      have C4 := (hbl.cell hb).trans c4
      have hen := hide (hgone.out x.id wr hbl)
      have hskip := hide fun (h : (decide (x.kind = 1) && !goneF l x.id) = false) => hTk.out.trans (lives_skip (out := out) (fun o => decide (o.kind = 1) && !goneF l o.id) hx h)
      have hput := hide fun (h : (decide (x.kind = 1) && !goneF l x.id) = true) => hTk.out.trans (lives_put (out := out) (fun o => decide (o.kind = 1) && !goneF l o.id) hx h)
      generalize hq0 : goneF l x.id = q at *
      clear hq0
      by_cases hk2 : x.kind = 1
      · have e4 : (x.kind == 1) = true := by simp [hk2]
        cases q
        · have g := hide (hput.out (by rw [decide_eq_true hk2]; rfl))
          replace hk2 := hide hk2
          clear hskip hput
          go_wp2_with fail
          refine hen.out.mono ?_
          rintro e w2 ⟨rfl, hb2⟩
          have hb12 := hbl.trans hb2
          have kA := hide fun V (hv : Bl w2 V) => (And.intro ((hb12.trans hv).cell hb |>.trans c1) (And.intro ((hb12.trans hv).cell hb |>.trans c2) ((hb12.trans hv).cell hb |>.trans c4)))
          have d1 := (hb12.cell hb).trans c1
          have d2 := (hb12.cell hb).trans c2
          have d3 := (hb12.cell hb).trans c3
          have d4 := (hb12.cell hb).trans c4
          have hb2l := Nat.lt_of_lt_of_le hb hb12.size
          have hsp : x.pl.length ≤ 64 := (placeMay_parts hpx.out).2.1
          have htw := hide fun V (hv : Bl w2 V) => refTwin06 S sc x.pl V (by omega) (hS.bl (hb12.trans hv))
          have hpu := hide fun (P : Option Addr) (pc : Nat) V (hv : Bl w2 V) (h1 : x.pl.length ≤ pc) (h2 : pc ≤ maxLen) (hP : R cRun w.heap.size V P x.pl) =>
            refPut15 A' P c' pc w.heap.size out x V hoc hcm' (by omega) hop.out hpx.out hnl.out (hb12.trans hv).size (hO.bl (hb2.trans hv)) ⟨ho, h1, h2, hP.zero⟩ hP
          clear C0 C1 C2 C3 C4
          go_wp2_with fail
          go_region_with (first
            | (go_at_call 39; refine (htw.out _ (Bl.refl _).drew).mono ?_; rintro e w4 ⟨P4, p4, rfl, q1, q2, hP4, hb40⟩; have hb4 : Bl w2 w4 := (Bl.refl w2).drew.trans hb40; have hP4' : R cRun w.heap.size w4 P4 x.pl := hP4.more ((hb12.drew).size); clear hb40 hP4; obtain ⟨z1, z2, z4⟩ := kA.out w4 hb4)
            | (go_at_call 154; refine (hpu.out P4 p4 w4 hb4 q1 q2 hP4').mono ?_; rintro e w5 ⟨A5, c5, rfl, r1, r2, hR5, hb5⟩; have hfin := hide (show Bl w w5 from hb12.trans (hb4.trans hb5))))
          all_goals
            go_wp2_with fail
            go_roundw
            case rel => exact ⟨hfin.out, k + 1, insP out x, A5, c5, by omega, by go_num, rfl, r1, r2, by rw [ins_len]; omega, hR5, (fun y hy => by
              rcases ins_memP.1 hy with rfl | hy
              · exact hpx.out
              · exact hop.out y hy), g.out, fun e => absurd e ins_notnil⟩
            case measure => simp [intOf]; omega
        · have g := hide (hskip.out (by rw [decide_eq_true hk2]; rfl))
          replace hk2 := hide hk2
          clear hskip hput
          go_wp2_with fail
          refine hen.out.mono ?_
          rintro e w2 ⟨rfl, hb2⟩
          go_wp2_with fail
          go_roundw
          case rel => exact ⟨hbl.trans hb2, k + 1, out, A', c', by omega, by go_num, rfl, hoc, hcm', by omega, hO.bl hb2, hop, g, hnl⟩
          case measure => simp [intOf]; omega
      · have e4 : (x.kind == 1) = false := by simp [hk2]
        have g := hide (hskip.out (by rw [decide_eq_false hk2]; rfl))
        replace hk2 := hide hk2
        clear hskip hput
        go_wp2_with fail
        go_roundw
        case rel => exact ⟨hbl, k + 1, out, A', c', by omega, by go_num, rfl, hoc, hcm', by omega, hO, hop, g, hnl⟩
        case measure => simp [intOf]; omega
    · have hkl : l.length ≤ k := by omega
      have e1 := hide (show T = out by rw [hTk.out, List.drop_eq_nil_of_le hkl]; rfl)
      clear hTk hT0
      go_wp2
      go_ret
      rw [e1.out]
      exact ⟨A', c', rfl, hoc, hcm', hO, hbl⟩

/-! ### Of, Elements -/
set_option maxRecDepth 100000 in
set_option maxHeartbeats 1000000 in
theorem refOf15 (A B : Option Addr) (c d : Nat) (l : List Op) (s : Id) (w : World) (hm : bagMay l = true) (hA : R cOp 0 w A l) (hB : R cOp 0 w B (livesF l)) :
    Calls Tryz.prog 49 #[.slice A l.length c, .slice B (livesF l).length d, .agg #[.int .u32 s.t, .int .u8 s.r]] w (New cEl (elemsL l s) w) := by
  have hb0 : Bl w (w.alloc (.cells #[Value.int IntKind.u32 s.t, Value.int IntKind.u8 s.r] 25)) := (Bl.refl _).alloc _
  have hco := hide (refCounting14 A B c d l s _ hm (hA.bl hb0) (hB.bl hb0))
  have hcl : (countL l s).length ≤ 1024 := Nat.le_trans (List.length_filter_le _ _) (Nat.le_trans (List.length_filter_le _ _) (bagMay_parts hm).1)
  have hpm := hide (show ∀ x ∈ countL l s, placeMay x.pl = true from fun x hx => bag_places hm x (count_sub hx))
  unfold elemsL
  generalize countL l s = C at *
  generalize (livesF l).length = n at *
  go_enter Tryz.func49, Tryz.ntmps49
  go_wp2_with fail
  refine hco.out.mono ?_
  rintro e w1 ⟨X, x, rfl, x1, x2, hX, hb1⟩
  have hse := hide (refSeen15 X x C w1 (by omega) hpm.out hX)
  go_wp2_with fail
  refine hse.out.mono ?_
  rintro e w2 ⟨Y, y, rfl, y1, y2, hY, hb2⟩
  go_wp2_with fail
  go_ret
  exact ⟨Y, y, rfl, y1, y2, hY.more (hb0.trans hb1).size, hb0.trans (hb1.trans hb2)⟩

set_option maxRecDepth 100000 in
set_option maxHeartbeats 2000000 in
theorem refElements15 (A : Option Addr) (c : Nat) (l : List Op) (s : Id) (w : World) (hl : l.length ≤ 1048576) (hA : R cOp 0 w A l) :
    Calls Tryz.prog 94 #[.slice A l.length c, .agg #[.int .u32 s.t, .int .u8 s.r]] w (New2 cEl (viewL l s) (whereN l s 0) w) := by
  obtain ⟨W, hW⟩ : ∃ W, W = w.alloc (.cells #[Value.int IntKind.u32 s.t, Value.int IntKind.u8 s.r] 25) := ⟨_, rfl⟩
  have hbW : Bl w W := by rw [hW]; exact (Bl.refl _).alloc _
  have at0 : IdBox W w.heap.size s := by rw [hW]; exact IdBox.new w s _
  have hmay := hide (refMay11 A c l W (by unfold maxLen; omega) (hA.bl hbW))
  obtain ⟨N, hN⟩ : ∃ N, N = whereN l s 0 := ⟨_, rfl⟩
  obtain ⟨L, hL⟩ : ∃ L, L = viewL l s := ⟨_, rfl⟩
  rw [← hN, ← hL]
  unfold viewL at hL
  rw [← hN] at hL
  unfold whereN at hN
  cases hm : bagMay l
  · rw [hm] at hmay hN
    have e1 : N = 8 := hN
    rw [if_neg (by omega)] at hL
    subst e1 hL
    clear hN hm
    go_enter Tryz.func94, Tryz.ntmps94
    go_wp2_with fail
    rw [← hW]
    clear hW
    refine hmay.out.mono ?_
    rintro e w1 ⟨rfl, hb1⟩
    go_wp2_with fail
    go_ret2
    exact ⟨none, 0, rfl, Nat.le_refl _, Nat.zero_le _, R.nil, hbW.trans hb1⟩
  · rw [hm] at hmay hN
    rw [if_pos rfl] at hN
    have hll := (bagMay_parts hm).1
    have hli := hide fun V (hv : Bl w V) => refLives12 A c l V (by omega) (bag_places hm) (hA.bl hv)
    have hwh := hide fun X x V (hX : R cOp 0 V X (livesF l)) => refWhere13 X x (livesF l) s V (by have := lives_small hm; omega) hX
    have hof := hide fun X x V (hv : Bl w V) (hX : R cOp 0 V X (livesF l)) => refOf15 A X c x l s V hm (hA.bl hv) hX
    have hsz := lives_small hm
    unfold whereF at hwh
    clear hm
    generalize (livesF l) = v at *
    generalize idxOf (sectF v) s = z at *
    by_cases hz : z < 0
    · have hd : decide (z < 0) = true := decide_eq_true hz
      rw [if_pos hz] at hN
      subst hN
      rw [if_neg (by omega)] at hL
      subst hL
      replace hz := hide hz
      go_enter Tryz.func94, Tryz.ntmps94
      go_wp2_with fail
      rw [← hW]
      clear hW
      refine hmay.out.mono ?_
      rintro e w1 ⟨rfl, hb1⟩
      go_wp2_with fail
      refine (hli.out _ (hbW.trans hb1)).mono ?_
      rintro e w2 ⟨X, x, rfl, x1, x2, hX, hb2⟩
      obtain ⟨i0, i1, -, -⟩ := at0.bl (hb1.trans hb2)
      have hil := (at0.bl (hb1.trans hb2)).lt
      go_wp2_with fail
      refine (hwh.out X x _ hX).mono ?_
      rintro e w3 ⟨rfl, hb3⟩
      go_wp2_with fail
      go_ret2
      exact ⟨none, 0, rfl, Nat.le_refl _, Nat.zero_le _, R.nil, hbW.trans (hb1.trans (hb2.trans hb3))⟩
    · have hd : decide (z < 0) = false := decide_eq_false hz
      rw [if_neg hz] at hN
      subst hN
      rw [if_pos rfl] at hL
      subst hL
      replace hz := hide hz
      go_enter Tryz.func94, Tryz.ntmps94
      go_wp2_with fail
      rw [← hW]
      clear hW
      refine hmay.out.mono ?_
      rintro e w1 ⟨rfl, hb1⟩
      go_wp2_with fail
      refine (hli.out _ (hbW.trans hb1)).mono ?_
      rintro e w2 ⟨X, x, rfl, x1, x2, hX, hb2⟩
      obtain ⟨i0, i1, -, -⟩ := at0.bl (hb1.trans hb2)
      have hil := (at0.bl (hb1.trans hb2)).lt
      go_wp2_with fail
      refine (hwh.out X x _ hX).mono ?_
      rintro e w3 ⟨rfl, hb3⟩
      have hb13 := hb1.trans (hb2.trans hb3)
      clear i0 i1 hil
      obtain ⟨i0, i1, -, -⟩ := at0.bl hb13
      have hil := (at0.bl hb13).lt
      go_wp2_with fail
      refine (hof.out X x _ (hbW.trans hb13) (hX.bl hb3)).mono ?_
      rintro e w4 ⟨Y, y, rfl, y1, y2, hY, hb4⟩
      go_wp2_with fail
      go_ret2
      exact ⟨Y, y, rfl, y1, y2, hY.more (hbW.trans hb13).size, hbW.trans (hb13.trans hb4)⟩
end Go.Proofs.YteoodmilcpmmpaaGreat
