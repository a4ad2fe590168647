/-
  The walks of the references Of, Find of layer 19.
-/
import Derived.Test.YtegmddgbdjlidaaFind
namespace Go.Proofs.Ytegmddgbdjlidaa
open Go.RowKit

def ofE (l : List Entry) (s : Id) : Entry := (entOf l s).getD zeroE
def ofB (l : List Entry) (s : Id) : Bool := (entOf l s).isSome
theorem Held.set8n {V : World} {x y : Entry} {A B A' B' : Option Addr} {c d c' d' Y : Nat} (h : HeldO Y Y V x A c B d) : Held (set8 V Y y A' c' B' d') x A c B d := (HeldO.set8 h).held

set_option maxRecDepth 100000 in
set_option maxHeartbeats 1000000 in
theorem refOf19 (A : Option Addr) (c : Nat) (l : List Entry) (s : Id) (w : World) (hl : l.length ≤ 1099511627776) (hA : R cEntry 0 w A l) :
    Calls Try.prog 49 #[.slice A l.length c, .agg #[.int .u32 s.t, .int .u8 s.r]] w (EntH (ofE l s) (ofB l s) w) := by
  have heq := run_eqId
  go_enter Try.func49, Try.ntmps49
  go_upto_region 2 with fail
  obtain ⟨W, hW, hbW, hz, s0, s1, at1⟩ := pairbox w s
  rw [← hW]
  clear hW
  go_loopw [6] (fun i wr => Bl W wr ∧ ∃ (k : Nat), k ≤ l.length ∧ i = .int .i64 k ∧ Hid (entOf l s = entOf (l.drop k) s)) (fun i _ => l.length - (intOf i).toNat)
  case atStart => exact ⟨Bl.refl _, 0, Nat.zero_le _, rfl, rfl⟩
  case round =>
    obtain ⟨hbl, k, hk, rfl, hf⟩ := hrel
    have hbw := hbW.trans hbl
    by_cases hlt : k < l.length
    · have hR := hA.bl hbw
      obtain ⟨b, off, rfl, _, hbb⟩ := hA.addr (by omega)
      obtain ⟨x, hx⟩ := get_lt hlt
      obtain ⟨_, ho, S, sc, G, gc, q1, q2, q3, q4, hS, hG, c0, c1, c2, c3, c4, c5, c6, c7⟩ := hA.entry hx
      have hd := hide (drop_cons hx)
      clear hx
      have C0 := fun p : Wd wr => Wd.cell ((hbw.cell hbb).trans c0) (by have := hbw.size; omega) p
      have C1 := fun p : Wd wr => Wd.cell ((hbw.cell hbb).trans c1) (by have := hbw.size; omega) p
      have S0 := fun p : Wd wr => Wd.cell ((hbl.cell (by omega)).trans s0) (by have := hbl.size; omega) p
      have S1 := fun p : Wd wr => Wd.cell ((hbl.cell (by omega)).trans s1) (by have := hbl.size; omega) p
      have hi : (k : Int) < (l.length : Int) := by omega
      have hi0 : (0 : Int) ≤ (k : Int) := by omega
      cases hq : neqId x.id s
      · have hq' : (!neqId x.id s) = true := by rw [hq]; rfl
        have g := hide ((ent_drop hf.out hd.out).1 (neqId_false hq))
        clear hq
        go_wp2
        (refine wp_region_wd (by kernel_rfl) (by kernel_rfl) ?_
         repeat (go_big_quiet_step ((fail)))
         refine wpQuiet_nil ?_
         intro w2 hw'
         obtain ⟨⟨wx, hb2⟩, hw''⟩ := hw'
         subst hw'')
        have hb12 := hbl.trans hb2
        have hb02 := hbw.trans hb2
        replace c0 := (hb02.cell hbb).trans c0
        replace c1 := (hb02.cell hbb).trans c1
        replace c2 := (hb02.cell hbb).trans c2
        replace c3 := (hb02.cell hbb).trans c3
        replace c4 := (hb02.cell hbb).trans c4
        replace c5 := (hb02.cell hbb).trans c5
        replace c6 := (hb02.cell hbb).trans c6
        replace c7 := (hb02.cell hbb).trans c7
        clear C0 C1 S0 S1
        obtain ⟨y0, y1, y2, y3, y4, y5, y6, y7⟩ := (at1.bl hb12).cells
        obtain ⟨f0, f1, f2, f3, f4, f5, f6, f7⟩ := (at1.bl hb12).frozens
        have hset := set8_bl hb02 (Y := w.heap.size + 1) (by omega) x S sc G gc
        have hxs : Held (set8 w2 (w.heap.size + 1) x S sc G gc) x S sc G gc := Held.set8n (HeldO.old (V := w) ⟨q1, q2, q3, q4, hS, hG⟩ hb02 (Nat.le_succ _) (Nat.le_succ _))
        go_wp2_with fail
        refine bodyPost_ret (v := .tuple #[.agg #[.int .u32 x.id.t, .int .u8 x.id.r, .bool x.ready, .bool x.pin, .int .i64 x.used, .bool x.known, .slice S x.snap.length sc, .slice G x.got.length gc], .bool true]) (by simp [results, Try.results49, go_sem, y0, y1, y2, y3, y4, y5, y6, y7]) rfl ?_
        unfold ofE ofB
        rw [g.out]
        exact ⟨S, sc, G, gc, rfl, hxs, hset⟩
      · have hq' : (!neqId x.id s) = false := by rw [hq]; rfl
        have g := hide ((ent_drop hf.out hd.out).2 (neqId_true hq))
        clear hq
        go_wp2
        (refine wp_region_wd (by kernel_rfl) (by kernel_rfl) ?_
         repeat (go_big_quiet_step ((fail)))
         refine wpQuiet_nil ?_
         intro w2 hw'
         obtain ⟨⟨wx, hb2⟩, hw''⟩ := hw'
         subst hw'')
        go_wp2
        go_roundw
        case rel => exact ⟨hbl.trans hb2, k + 1, by omega, by go_num, g⟩
        case measure => simp [intOf]; omega
    · have hkl : l.length ≤ k := by omega
      have g : Hid (entOf l s = none) := by rw [Hid, hf.out, List.drop_eq_nil_of_le hkl]; rfl
      obtain ⟨y0, y1, y2, y3, y4, y5, y6, y7⟩ := (at1.bl hbl).cells
      obtain ⟨f0, f1, f2, f3, f4, f5, f6, f7⟩ := (at1.bl hbl).frozens
      go_wp2
      refine bodyPost_ret (v := .tuple #[.agg #[.int .u32 0, .int .u8 0, .bool false, .bool false, .int .i64 0, .bool false, .slice none 0 0, .slice none 0 0], .bool false]) (by simp [results, Try.results49, go_sem, y0, y1, y2, y3, y4, y5, y6, y7]) rfl ?_
      unfold ofE ofB
      rw [g.out]
      exact ⟨none, 0, none, 0, rfl, zeroE_held _, set8_bl hbw (Y := w.heap.size + 1) (by omega) zeroE none 0 none 0⟩

theorem smallE_zero : smallE zeroE := ⟨⟨Nat.zero_le _, fun y hy => by cases hy⟩, Nat.zero_le _⟩
set_option maxRecDepth 100000 in
set_option maxHeartbeats 1000000 in
theorem refFind19 (A : Option Addr) (c : Nat) (l : List Entry) (s : Id) (w : World) (hl : l.length ≤ 1099511627776) (hA : R cEntry 0 w A l) :
    Calls Try.prog 15 #[.slice A l.length c, .agg #[.int .u32 s.t, .int .u8 s.r]] w (EntB (findE l s) (findB l s) w) := by
  have hchk := fun W (hb : Bl w W) => refMay19 A c l W (by unfold maxLen; omega) (hA.bl hb)
  cases hm : shelfMay l
  · have e1 := hide (show findE l s = zeroE by unfold findE; rw [hm]; rfl)
    have e2 := hide (show findB l s = false by unfold findB; rw [hm]; rfl)
    rw [hm] at hchk
    replace hchk := hide hchk
    clear hm
    go_enter Try.func15, Try.ntmps15
    go_wp2_with fail
    obtain ⟨W, hW, hbl, hz, s0, s1, at1⟩ := pairbox w s
    rw [← hW]
    clear hW
    refine (hchk.out _ hbl).mono ?_
    rintro e w1 ⟨rfl, hb1⟩
    obtain ⟨y0, y1, y2, y3, y4, y5, y6, y7⟩ := (at1.bl hb1).cells
    obtain ⟨f0, f1, f2, f3, f4, f5, f6, f7⟩ := (at1.bl hb1).frozens
    go_wp2_with fail
    refine bodyPost_ret (v := .tuple #[.agg #[.int .u32 0, .int .u8 0, .bool false, .bool false, .int .i64 0, .bool false, .slice none 0 0, .slice none 0 0], .bool false]) (by simp [results, Try.results15, go_sem, y0, y1, y2, y3, y4, y5, y6, y7]) rfl ?_
    rw [e1.out, e2.out]
    exact ⟨none, 0, none, 0, rfl, Nat.le_refl _, Nat.zero_le _, Nat.le_refl _, Nat.zero_le _, R.nil, R.nil, set8_bl (hbl.trans hb1) (Y := w.heap.size + 1) (by omega) zeroE none 0 none 0⟩
  have e1 := hide (show findE l s = ofE l s by unfold findE ofE; rw [hm]; rfl)
  have e2 := hide (show findB l s = ofB l s by unfold findB ofB; rw [hm]; rfl)
  have hysm : smallE (ofE l s) := by
    unfold ofE
    cases hf : entOf l s
    · exact smallE_zero
    · obtain ⟨k, hk, _⟩ := ent_some hf
      exact (may_small hm).2 _ (List.mem_of_getElem? hk)
  have hof := fun W (hb : Bl w W) => refOf19 A c l s W hl (hA.bl hb)
  rw [hm] at hchk
  generalize ofE l s = y at *
  generalize ofB l s = bb at *
  replace hysm := hide hysm
  replace hchk := hide hchk
  replace hof := hide hof
  clear hm
  go_enter Try.func15, Try.ntmps15
  go_wp2_with fail
  obtain ⟨W, hW, hbl, hz, s0, s1, at1⟩ := pairbox w s
  rw [← hW]
  clear hW
  refine (hchk.out _ hbl).mono ?_
  rintro e w1 ⟨rfl, hb1⟩
  have S0 := (hb1.cell (by omega)).trans s0
  have S1 := (hb1.cell (by omega)).trans s1
  have hz1 := hb1.size
  go_wp2_with fail
  refine (hof.out _ (hbl.trans hb1)).mono ?_
  rintro e w2 ⟨A2, c2, B2, d2, rfl, hx2, hb2⟩
  have hb12 := hb1.trans hb2
  have hz2 := hb12.size
  clear S0 S1 s0 s1
  go_wp2_with fail
  have hV2 : Bl w2 (w2.alloc (.cells #[Value.int IntKind.u32 y.id.t, Value.int IntKind.u8 y.id.r, Value.bool y.ready, Value.bool y.pin, Value.int IntKind.i64 y.used, Value.bool y.known, Value.slice A2 y.snap.length c2, Value.slice B2 y.got.length d2] 31)) := (Bl.refl _).alloc _
  refine (refOwn19 y A2 B2 c2 d2 _ hysm.out (hx2.bl hV2).hS (hx2.bl hV2).hG).mono ?_
  rintro e w3 ⟨A3, d1, B3, d3, rfl, l1, l2, l3, l4, hS3, hG3, hb3⟩
  have hb13 := (hb12.trans hV2).trans hb3
  have hs3 : w.heap.size + 1 < (w2.alloc (.cells #[Value.int IntKind.u32 y.id.t, Value.int IntKind.u8 y.id.r, Value.bool y.ready, Value.bool y.pin, Value.int IntKind.i64 y.used, Value.bool y.known, Value.slice A2 y.snap.length c2, Value.slice B2 y.got.length d2] 31)).heap.size := by rw [World.size_alloc]; omega
  obtain ⟨y0, y1, y2, y3, y4, y5, y6, y7⟩ := (at1.bl hb13).cells
  obtain ⟨f0, f1, f2, f3, f4, f5, f6, f7⟩ := (at1.bl hb13).frozens
  have hset := set8_bl (hbl.trans hb13) (Y := w.heap.size + 1) (by omega) y A3 d1 B3 d3
  have hr1 := (set8_R hS3 (Y := w.heap.size + 1) hs3 y A3 d1 B3 d3).more (lo' := w.heap.size) (by omega)
  have hr2 := (set8_R hG3 (Y := w.heap.size + 1) hs3 y A3 d1 B3 d3).more (lo' := w.heap.size) (by omega)
  go_wp2_with fail
  refine bodyPost_ret (v := .tuple #[.agg #[.int .u32 y.id.t, .int .u8 y.id.r, .bool y.ready, .bool y.pin, .int .i64 y.used, .bool y.known, .slice A3 y.snap.length d1, .slice B3 y.got.length d3], .bool bb]) (by simp [results, Try.results15, go_sem, y0, y1, y2, y3, y4, y5, y6, y7]) rfl ?_
  rw [e1.out, e2.out]
  exact ⟨A3, d1, B3, d3, rfl, l1, l2, l3, l4, hr1, hr2, hset⟩
end Go.Proofs.Ytegmddgbdjlidaa
