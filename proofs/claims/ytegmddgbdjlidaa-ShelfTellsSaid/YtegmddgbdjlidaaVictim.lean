/-
  The walk of shelf.Victim.
-/
import Derived.Test.YtegmddgbdjlidaaPut
import Derived.StillTailTactics
namespace Go.Proofs.Ytegmddgbdjlidaa
open Go.RowKit

/-- Is a stamp one of some? -/
def memId (l : List Id) (s : Id) : Bool := l.any fun x => decide (x = s)

set_option maxRecDepth 100000 in
set_option maxHeartbeats 1000000 in
theorem idIndex (A : Option Addr) (c : Nat) (l : List Id) (s : Id) (w : World) (hl : l.length ≤ maxLen) (hA : R cId 0 w A l) :
    Calls Try.prog 102 #[.slice A l.length c, .agg #[.int .u32 s.t, .int .u8 s.r]] w fun e w' => (∃ n : Int, e = .returned (.int .i64 n) ∧ (0 ≤ n ↔ memId l s = true)) ∧ Bl w w' := by
  unfold maxLen at hl
  have heq := run_eqId
  go_enter Try.func102, Try.ntmps102
  go_upto_region 2 with fail
  have hV0 : Bl w (w.alloc (.cells #[Value.int IntKind.u32 s.t, Value.int IntKind.u8 s.r] 25)) := (Bl.refl _).alloc _
  have s0 : (w.alloc (.cells #[Value.int IntKind.u32 s.t, Value.int IntKind.u8 s.r] 25)).cell? ⟨w.heap.size, 0, none⟩ = some (.int .u32 s.t) := by rw [cell_of_row _ w.heap.size 0 _ _ (0, 0) (heap_alloc_new w _)]; rfl
  have s1 : (w.alloc (.cells #[Value.int IntKind.u32 s.t, Value.int IntKind.u8 s.r] 25)).cell? ⟨w.heap.size, 1, none⟩ = some (.int .u8 s.r) := by rw [cell_of_row _ w.heap.size 1 _ _ (0, 0) (heap_alloc_new w _)]; rfl
  have hz0 : w.heap.size < (w.alloc (.cells #[Value.int IntKind.u32 s.t, Value.int IntKind.u8 s.r] 25)).heap.size := by rw [World.size_alloc]; omega
  generalize w.alloc (.cells #[Value.int IntKind.u32 s.t, Value.int IntKind.u8 s.r] 25) = V0 at *
  go_loopw [8] (fun i wr => Bl V0 wr ∧ ∃ k : Nat, k ≤ l.length ∧ i = .int .i64 k ∧ Hid (memId l s = memId (l.drop k) s)) (fun i _ => l.length - (intOf i).toNat)
  case atStart => exact ⟨Bl.refl _, 0, Nat.zero_le _, rfl, rfl⟩
  case round =>
    obtain ⟨hbl, k, hk, rfl, hf⟩ := hrel
    have hbw := hV0.trans hbl
    by_cases hlt : k < l.length
    · have hR := hA.bl hbw
      obtain ⟨b, off, rfl, _, hb⟩ := hR.addr (by omega)
      obtain ⟨x, hx⟩ := get_lt hlt
      obtain ⟨_, _, c0, c1⟩ := hR.id hx
      have hd := hide (drop_cons hx)
      have C0 := fun p : Wd wr => Wd.cell c0 hb p
      have C1 := fun p : Wd wr => Wd.cell c1 hb p
      have S0 := fun p : Wd wr => Wd.cell ((hbl.cell hz0).trans s0) (Nat.lt_of_lt_of_le hz0 hbl.size) p
      have S1 := fun p : Wd wr => Wd.cell ((hbl.cell hz0).trans s1) (Nat.lt_of_lt_of_le hz0 hbl.size) p
      have hi : (k : Int) < (l.length : Int) := by omega
      have hi0 : (0 : Int) ≤ (k : Int) := by omega
      clear c0 c1 hx
      cases hq : neqId s x
      · have hq' : (!neqId s x) = true := by rw [hq]; rfl
        have g := hide (show memId l s = true by rw [hf.out, hd.out]; simp [memId, neqId_false hq])
        clear hq
        go_wp2
        (refine wp_region_wd (by kernel_rfl) (by kernel_rfl) ?_
         repeat (go_big_quiet_step ((fail)))
         refine wpQuiet_nil ?_
         intro w2 hw'
         obtain ⟨⟨wx, hb2⟩, hw''⟩ := hw'
         subst hw'')
        go_wp2
        go_ret
        exact ⟨⟨_, rfl, by rw [g.out]; simp⟩, hbw.trans hb2⟩
      · have hq' : (!neqId s x) = false := by rw [hq]; rfl
        have hne : ¬ x = s := fun e => neqId_true hq e.symm
        have g := hide (show memId l s = memId (l.drop (k + 1)) s by rw [hf.out, hd.out]; simp [memId, hne])
        clear hq hne
        go_wp2
        (refine wp_region_wd (by kernel_rfl) (by kernel_rfl) ?_
         repeat (go_big_quiet_step ((fail)))
         refine wpQuiet_nil ?_
         intro w2 hw'
         obtain ⟨⟨wx, hb2⟩, hw''⟩ := hw'
         subst hw'')
        go_wp2
        go_roundw
        case rel => exact ⟨hbl.trans hb2, k + 1, by omega, by go_num, g⟩
        case measure => simp [intOf]; omega
    · have hkl : l.length ≤ k := by omega
      go_wp2
      go_ret
      exact ⟨⟨_, rfl, by rw [hf.out, List.drop_eq_nil_of_le hkl]; simp [memId]⟩, hbw⟩

set_option maxRecDepth 100000 in
set_option maxHeartbeats 400000 in
theorem idContains (A : Option Addr) (c : Nat) (l : List Id) (s : Id) (w : World) (hl : l.length ≤ maxLen) (hA : R cId 0 w A l) :
    Calls Try.prog 73 #[.slice A l.length c, .agg #[.int .u32 s.t, .int .u8 s.r]] w fun e w' => e = .returned (.bool (memId l s)) ∧ Bl w w' := by
  go_enter Try.func73, Try.ntmps73
  go_wp2_with (go_at_call 102; refine (idIndex A c l s _ hl (hA.bl ((Bl.refl _).alloc _))).mono ?_; rintro e w' ⟨⟨n, rfl, hn⟩, hb⟩; have hn := hide hn)
  go_ret
  refine ⟨ret_bool ?_, ((Bl.refl _).alloc _).trans hb⟩
  have := hn.out
  cases h : memId l s <;> simp_all

/-- An entry that stays. -/
def staysE (keep : List Id) (x : Entry) : Bool := x.pin || memId keep x.id

set_option maxRecDepth 100000 in
set_option maxHeartbeats 400000 in
theorem victim1 (K : Option Addr) (kc : Nat) (keep : List Id) (x : Entry) (A B : Option Addr) (c d Bk : Nat) (w : World) (hl : keep.length ≤ maxLen) (hK : R cId 0 w K keep) (hBk : w.cell? ⟨Bk, 0, none⟩ = some (.slice K keep.length kc)) :
    Calls Try.prog 72 #[.agg #[.int .u32 x.id.t, .int .u8 x.id.r, .bool x.ready, .bool x.pin, .int .i64 x.used, .bool x.known, .slice A x.snap.length c, .slice B x.got.length d], .pointer (some ⟨Bk, 0, none⟩)] w fun e w' => e = .returned (.bool (staysE keep x)) ∧ Bl w w' := by
  have hlt := World.block_lt_of_cell? w _ hBk
  have hBk' : ∀ o, (w.alloc o).cell? ⟨Bk, 0, none⟩ = some (.slice K keep.length kc) := fun o => (((Bl.refl w).alloc o).cell hlt).trans hBk
  have hcon := fun W (hb : Bl w W) => idContains K kc keep x.id W hl (hK.bl hb)
  replace hcon := hide hcon
  cases hp : x.pin
  · have g : Hid (staysE keep x = memId keep x.id) := by unfold staysE; rw [hp]; rfl
    go_enter Try.func72, Try.ntmps72
    go_wp2_with fail
    refine (hcon.out _ ((Bl.refl _).alloc _)).mono ?_
    rintro e w1 ⟨rfl, hb1⟩
    go_wp2_with fail
    go_ret
    exact ⟨ret_bool g.out.symm, ((Bl.refl _).alloc _).trans hb1⟩
  · have g : Hid (staysE keep x = true) := by unfold staysE; rw [hp]; rfl
    go_enter Try.func72, Try.ntmps72
    go_wp2_with fail
    go_ret
    exact ⟨ret_bool g.out.symm, (Bl.refl _).alloc _⟩

/-! ### Plain -/
def vicStep (keep : List Id) (st : Option Entry) (x : Entry) : Option Entry := if staysE keep x then st else match st with | none => some x | some y => if x.used < y.used then some x else some y
/-- The one to go. -/
def victimE (l : List Entry) (keep : List Id) : Option Entry := if shelfMay l && decide (keep.length ≤ 1024) then l.foldl (vicStep keep) none else none
def vicId : Option Entry → Id | none => ⟨0, 0⟩ | some x => x.id
def vicUsed : Option Entry → Int | none => 0 | some x => x.used
theorem vic_take {keep : List Id} {l : List Entry} {k : Nat} {x : Entry} (h : l[k]? = some x) : (l.take (k + 1)).foldl (vicStep keep) none = vicStep keep ((l.take k).foldl (vicStep keep) none) x := by
  rw [take_snoc h, List.foldl_append]
  rfl
/-- What hands back a stamp, and a bool. -/
def IdB (s : Id) (b : Bool) (w : World) (e : Ending) (w' : World) : Prop := e = .returned (.tuple #[.agg #[.int .u32 s.t, .int .u8 s.r], .bool b]) ∧ Bl w w'

/-- A stamp's two cells. -/
structure IdAt (W : World) (Y : Nat) (s : Id) : Prop where
  c0 : W.cell? ⟨Y, 0, none⟩ = some (.int .u32 s.t)
  c1 : W.cell? ⟨Y, 1, none⟩ = some (.int .u8 s.r)
  f0 : W.frozen? ⟨Y, 0, none⟩ = false
  f1 : W.frozen? ⟨Y, 1, none⟩ = false
theorem IdAt.lt {W : World} {Y : Nat} {s : Id} (h : IdAt W Y s) : Y < W.heap.size := World.block_lt_of_cell? W _ h.c0
theorem IdAt.bl {W W' : World} {Y : Nat} {s : Id} (h : IdAt W Y s) (hb : Bl W W') : IdAt W' Y s := ⟨(hb.cell h.lt).trans h.c0, (hb.cell h.lt).trans h.c1, (hb.frozen h.lt).trans h.f0, (hb.frozen h.lt).trans h.f1⟩
theorem IdAt.set {W : World} {Y : Nat} {s : Id} (h : IdAt W Y s) (r : Id) : IdAt ((W.setCell ⟨Y, 0, none⟩ (.int .u32 r.t)).setCell ⟨Y, 1, none⟩ (.int .u8 r.r)) Y r :=
  ⟨cell_set_other (by intro e; injection e with _ e; omega) (cell_set_same h.c0), cell_set_same (cell_set_other (by intro e; injection e with _ e; omega) h.c1), by simp only [World.frozen?_setCell]; exact h.f0, by simp only [World.frozen?_setCell]; exact h.f1⟩
theorem IdAt.new (w : World) (s : Id) : IdAt (w.alloc (.cells #[Value.int IntKind.u32 s.t, Value.int IntKind.u8 s.r] 25)) w.heap.size s :=
  ⟨by rw [cell_of_row _ w.heap.size 0 _ _ (0, 0) (heap_alloc_new w _)]; rfl, by rw [cell_of_row _ w.heap.size 1 _ _ (0, 0) (heap_alloc_new w _)]; rfl, frozen_new w _ _ _, frozen_new w _ _ _⟩
theorem vicbox (w : World) (v : Value) : ∃ W, W = (w.alloc (.cells #[v] 45)).alloc (.cells #[Value.int IntKind.u32 0, Value.int IntKind.u8 0] 25) ∧ Bl w W ∧ W.cell? ⟨w.heap.size, 0, none⟩ = some v ∧ IdAt W (w.heap.size + 1) ⟨0, 0⟩ := by
  refine ⟨_, rfl, ((Bl.refl _).alloc _).alloc _, ?_, ?_⟩
  · rw [((Bl.refl (w.alloc (.cells #[v] 45))).alloc _).cell (by rw [World.size_alloc]; omega), cell_of_row _ w.heap.size 0 _ _ (0, 0) (heap_alloc_new w _)]
    rfl
  · have := IdAt.new (w.alloc (.cells #[v] 45)) ⟨0, 0⟩
    rw [World.size_alloc] at this
    exact this

set_option maxRecDepth 100000 in
set_option maxHeartbeats 2000000 in
theorem shelfVictimC (A K : Option Addr) (c kc : Nat) (l : List Entry) (keep : List Id) (w : World) (hl : l.length ≤ 1099511627776) (hk : keep.length ≤ maxLen) (hA : R cEntry 0 w A l) (hK : R cId 0 w K keep) :
    Calls Try.prog 37 #[.slice A l.length c, .slice K keep.length kc] w (IdB (vicId (victimE l keep)) (victimE l keep).isSome w) := by
  have hk' := hk
  unfold maxLen at hk'
  have hchk := fun W (hb : Bl w W) => shelfCheck A c l W (by unfold maxLen; omega) (hA.bl hb)
  obtain ⟨r, hr⟩ : ∃ r, r = victimE l keep := ⟨_, rfl⟩
  rw [← hr]
  cases hm : shelfMay l
  · have e1 : r = none := by rw [hr]; unfold victimE; rw [hm]; rfl
    subst e1
    rw [hm, okOr_false] at hchk
    replace hchk := hide hchk
    clear hr hm
    go_enter Try.func37, Try.ntmps37
    go_wp2_with fail
    obtain ⟨W, hW, hbW, k0, at1⟩ := vicbox w (.slice K keep.length kc)
    rw [← hW]
    clear hW
    refine (hchk.out _ hbW).mono ?_
    rintro e w1 ⟨rfl, hb1⟩
    obtain ⟨y0, y1, f0, f1⟩ := at1.bl hb1
    have hbw := hbW.trans hb1
    go_wp2_with fail
    refine bodyPost_ret (v := .tuple #[.agg #[.int .u32 0, .int .u8 0], .bool false]) (by simp [results, Try.results37, go_sem, y0, y1]) rfl ?_
    exact ⟨rfl, (hbw.setCell (p := ⟨w.heap.size + 1, 0, none⟩) (by show w.heap.size ≤ w.heap.size + 1; omega) _).setCell (p := ⟨w.heap.size + 1, 1, none⟩) (by show w.heap.size ≤ w.heap.size + 1; omega) _⟩
  rw [hm, okOr_true] at hchk
  replace hchk := hide hchk
  by_cases hkb : 1024 < keep.length
  · have e1 : r = none := by rw [hr]; unfold victimE; rw [decide_eq_false (by omega), Bool.and_false]; rfl
    subst e1
    clear hr hm
    go_enter Try.func37, Try.ntmps37
    go_wp2_with fail
    obtain ⟨W, hW, hbW, k0, at1⟩ := vicbox w (.slice K keep.length kc)
    rw [← hW]
    clear hW
    refine (hchk.out _ hbW).mono ?_
    rintro e w1 ⟨rfl, hb1⟩
    obtain ⟨y0, y1, f0, f1⟩ := at1.bl hb1
    have k1 := (hb1.cell (World.block_lt_of_cell? W _ k0)).trans k0
    have hbw := hbW.trans hb1
    go_wp2_with fail
    refine bodyPost_ret (v := .tuple #[.agg #[.int .u32 0, .int .u8 0], .bool false]) (by simp [results, Try.results37, go_sem, y0, y1]) rfl ?_
    exact ⟨rfl, (hbw.setCell (p := ⟨w.heap.size + 1, 0, none⟩) (by show w.heap.size ≤ w.heap.size + 1; omega) _).setCell (p := ⟨w.heap.size + 1, 1, none⟩) (by show w.heap.size ≤ w.heap.size + 1; omega) _⟩
  have hrv : r = l.foldl (vicStep keep) none := by rw [hr]; unfold victimE; rw [hm, decide_eq_true (by omega)]; rfl
  have hlen65 := (may_from hm).1
  replace hrv := hide hrv
  clear hr hm
  go_enter Try.func37, Try.ntmps37
  go_wp2_with fail
  obtain ⟨W, hW, hbW, k0, at1⟩ := vicbox w (.slice K keep.length kc)
  rw [← hW]
  clear hW
  refine (hchk.out _ hbW).mono ?_
  rintro e w1 ⟨rfl, hb1⟩
  have hkl := World.block_lt_of_cell? W _ k0
  have k1 := (hb1.cell hkl).trans k0
  have at11 := at1.bl hb1
  have hbw := hbW.trans hb1
  have hmf := run_makeFunc
  go_upto_region 6 with fail
  go_loopw [5, 7, 22] (fun is us i wr => Bl w wr ∧ wr.cell? ⟨w.heap.size, 0, none⟩ = some (.slice K keep.length kc) ∧ ∃ (k : Nat) (st : Option Entry), k ≤ l.length ∧ i = .int .i64 k ∧ is = .bool st.isSome ∧ us = .int .i64 (vicUsed st) ∧ Hid (st = (l.take k).foldl (vicStep keep) none) ∧ IdAt wr (w.heap.size + 1) (vicId st)) (fun _ _ i _ => l.length - (intOf i).toNat)
  case atStart => exact ⟨hbw, k1, 0, none, Nat.zero_le _, rfl, rfl, rfl, rfl, at11⟩
  case round =>
    obtain ⟨hbl, kk, k, st, hkn, rfl, rfl, rfl, hst, hat⟩ := hrel
    by_cases hlt : k < l.length
    · have hR := hA.bl hbl
      obtain ⟨b, off, rfl, _, hb⟩ := hR.addr (by omega)
      obtain ⟨x, hx⟩ := get_lt hlt
      obtain ⟨_, ho, S, sc, G, gc, q1, q2, q3, q4, hS, hG, c0, c1, c2, c3, c4, c5, c6, c7⟩ := hR.entry hx
      have hvt := hide (vic_take (keep := keep) hx)
      have hox := ho.2
      clear hx
      have hk2 := World.block_lt_of_cell? wr _ kk
      have hv1 := fun V (hb : Bl wr V) => victim1 K kc keep x S G sc gc w.heap.size V hk (hK.bl (hbl.trans hb)) ((hb.cell hk2).trans kk)
      have hxat := EntAt.new wr x S sc G gc 31
      have hVb : Bl wr (wr.alloc (.cells #[Value.int IntKind.u32 x.id.t, Value.int IntKind.u8 x.id.r, Value.bool x.ready, Value.bool x.pin, Value.int IntKind.i64 x.used, Value.bool x.known, Value.slice S x.snap.length sc, Value.slice G x.got.length gc] 31)) := (Bl.refl _).alloc _
      cases hsy : staysE keep x
      · rw [hsy] at hv1
        replace hv1 := hide hv1
        have hstep : ∀ st, vicStep keep st x = match st with | none => some x | some y => if x.used < y.used then some x else some y := fun st => by unfold vicStep; rw [hsy]; rfl
        replace hstep := hide hstep
        clear hsy
        go_wp2_with fail
        refine (hv1.out _ hVb).mono ?_
        rintro e w2 ⟨rfl, hb2⟩
        obtain ⟨z0, z1, z2, z3, z4, z5, z6, z7⟩ := (hxat.bl hb2).cells
        have hat2 := (hat.bl hVb).bl hb2
        have hat2' := hat2
        obtain ⟨y0, y1, f0, f1⟩ := hat2
        have hb02 := hVb.trans hb2
        have hne1 : wr.heap.size ≠ w.heap.size + 1 := by have := hat.lt; omega
        have kk2 := (hb02.cell hk2).trans kk
        have hbl2 := hbl.trans hb02
        clear c0 c1 c2 c3 c4 c5 c6 c7 hv1
        by_cases htk : vicStep keep st x = some x ∧ (st = none ∨ ∃ y, st = some y ∧ x.used < y.used)
        · have g : Hid (some x = (l.take (k + 1)).foldl (vicStep keep) none) := by rw [Hid, hvt.out, ← hst.out, htk.1]
          have hset := hat2'.set x.id
          have hfin : Bl w ((w2.setCell ⟨w.heap.size + 1, 0, none⟩ (.int .u32 x.id.t)).setCell ⟨w.heap.size + 1, 1, none⟩ (.int .u8 x.id.r)) := (hbl2.setCell (p := ⟨w.heap.size + 1, 0, none⟩) (by show w.heap.size ≤ w.heap.size + 1; omega) _).setCell (p := ⟨w.heap.size + 1, 1, none⟩) (by show w.heap.size ≤ w.heap.size + 1; omega) _
          have hkf : ((w2.setCell ⟨w.heap.size + 1, 0, none⟩ (.int .u32 x.id.t)).setCell ⟨w.heap.size + 1, 1, none⟩ (.int .u8 x.id.r)).cell? ⟨w.heap.size, 0, none⟩ = some (.slice K keep.length kc) := cell_set_other (by intro e; injection e with e; omega) (cell_set_other (by intro e; injection e with e; omega) kk2)
          obtain ⟨-, hst0⟩ := htk
          clear hat2' hstep hst hvt hat
          rcases hst0 with rfl | ⟨y, rfl, hlu⟩
          · go_wp2_with fail
            go_region
            all_goals go_wp2
            all_goals
              go_roundw
              case rel => exact ⟨hfin.drew, hkf, k + 1, some x, by omega, by go_num, rfl, rfl, g, hset.bl (Bl.refl _).drew⟩
              case measure => simp [intOf]; omega
          · have hlu' : x.used < vicUsed (some y) := hlu
            go_wp2_with fail
            go_region
            all_goals go_wp2
            all_goals
              go_roundw
              case rel => exact ⟨hfin.drew, hkf, k + 1, some x, by omega, by go_num, rfl, rfl, g, hset.bl (Bl.refl _).drew⟩
              case measure => simp [intOf]; omega
        · obtain ⟨y, rfl, hlu⟩ : ∃ y, st = some y ∧ y.used ≤ x.used := by
            cases st with
            | none => exact absurd ⟨by rw [hstep.out], .inl rfl⟩ htk
            | some y =>
              refine ⟨y, rfl, ?_⟩
              rcases Int.lt_or_le x.used y.used with h | h
              · exact absurd ⟨by rw [hstep.out]; show (if x.used < y.used then some x else some y) = some x; rw [if_pos h], .inr ⟨y, rfl, h⟩⟩ htk
              · exact h
          have g : Hid (some y = (l.take (k + 1)).foldl (vicStep keep) none) := by
            rw [Hid, hvt.out, ← hst.out, hstep.out]
            show some y = if x.used < y.used then some x else some y
            rw [if_neg (by omega)]
          have hlu' : vicUsed (some y) ≤ x.used := hlu
          clear htk hstep hst hvt hat
          go_wp2_with fail
          go_roundw
          case rel => exact ⟨hbl2, kk2, k + 1, some y, by omega, by go_num, rfl, rfl, g, hat2'⟩
          case measure => simp [intOf]; omega
      · rw [hsy] at hv1
        replace hv1 := hide hv1
        have g : Hid (st = (l.take (k + 1)).foldl (vicStep keep) none) := by
          rw [Hid, hvt.out, ← hst.out]
          unfold vicStep
          rw [hsy]
          rfl
        clear hsy
        go_wp2_with fail
        refine (hv1.out _ hVb).mono ?_
        rintro e w2 ⟨rfl, hb2⟩
        have hb02 := hVb.trans hb2
        clear c0 c1 c2 c3 c4 c5 c6 c7
        go_wp2_with fail
        go_roundw
        case rel => exact ⟨hbl.trans hb02, (hb02.cell hk2).trans kk, k + 1, st, by omega, by go_num, rfl, rfl, g, hat.bl hb02⟩
        case measure => simp [intOf]; omega
    · have hkl2 : l.length ≤ k := by omega
      have g : Hid (r = st) := by
        rw [Hid, hrv.out, hst.out, List.take_of_length_le hkl2]
      have hat2 := hat
      obtain ⟨y0, y1, f0, f1⟩ := hat
      go_wp2_with fail
      refine bodyPost_ret (v := .tuple #[.agg #[.int .u32 (vicId st).t, .int .u8 (vicId st).r], .bool st.isSome]) (by simp [results, Try.results37, go_sem, y0, y1]) rfl ?_
      rw [g.out]
      exact ⟨rfl, (hbl.setCell (p := ⟨w.heap.size + 1, 0, none⟩) (by show w.heap.size ≤ w.heap.size + 1; omega) _).setCell (p := ⟨w.heap.size + 1, 1, none⟩) (by show w.heap.size ≤ w.heap.size + 1; omega) _⟩
end Go.Proofs.Ytegmddgbdjlidaa
