/-
  The walk of marks.Live's closure; slices.SortFunc at it.
  The walk of marks.Live.
-/
import Derived.Test.YteoodmilcpmmpaaGreatPart
import Derived.Test.YteoodmilcpmmpaaGreatSortO
import Derived.Test.YteoodmilcpmmpaaGreatLiveP
import Derived.Shelf.SlSortCmp.NoneTotal
import Derived.Test.YteoodmilcpmmpaaGreatMarked
import Derived.Test.YteoodmilcpmmpaaGreatBagB
namespace Go.Proofs.YteoodmilcpmmpaaGreat

open Go.RowKit Go.Shelf

/-- What is the call's own, with at least one element, in pieces. -/
theorem Own.pieces {α : Type} {C : Codec α} {e : TypeId} {base : Nat} {w : World} {v : Value} {xs : List α} (h : Own C e base w v xs) (hne : 0 < xs.length) :
    ∃ g cap cells, v = .slice (some ⟨g, 0, none⟩) xs.length cap ∧ base ≤ g ∧ g < w.heap.size ∧ xs.length ≤ cap ∧ cap ≤ maxLen ∧ RdL C w (fun b => (base ≤ b ∧ b < w.heap.size) ∧ b ≠ g) xs cells ∧ At w g 0 cells := by
  obtain ⟨cells, ⟨_, h2⟩, hr⟩ := h
  rcases h2 with ⟨rfl, h0⟩ | ⟨g, cap, cur, rfl, hb, hg, hc, hm, hsz, htk⟩
  · omega
  · refine ⟨g, cap, cells, rfl, hb, (Array.getElem?_eq_some_iff.1 hg).1, hc, hm, hr.keep (Keeps.refl _ _) fun b hb => ⟨hb.1, fun e => hb.2 (by rw [e]; rfl)⟩, fun j u hu => ⟨?_, ?_⟩⟩
    · rw [Nat.zero_add, cell_of_row w g j cur e (0, 0) hg]
      rw [← htk, List.getElem?_take] at hu
      split at hu
      · simpa using hu
      · cases hu
    · simp [World.frozen?, hg]

theorem swoIds : Sort.SWO fun a b : Op => decide (cmpIds (plAll a.pl) (plAll b.pl) < 0) where
  irrefl x := by rw [cmpIds_self]; rfl
  trans x y z h k := by
    rw [decide_eq_true_eq] at *
    exact cmpIds_tr h k
  ntrans x y z h k := by
    rw [decide_eq_false_iff_not] at *
    intro hxz
    have h1 := cmpIds_anti (plAll x.pl) (plAll y.pl)
    have h2 := cmpIds_anti (plAll y.pl) (plAll z.pl)
    by_cases e : cmpIds (plAll y.pl) (plAll x.pl) = 0
    · rw [cmpIds_zero e] at k
      exact k hxz
    · have := cmpIds_tr (a := plAll y.pl) (b := plAll x.pl) (c := plAll z.pl) (by omega) hxz
      exact k this

set_option maxRecDepth 100000 in
set_option maxHeartbeats 1000000 in
theorem live1 (x y : Op) (A B : Option Addr) (c d : Nat) (w : World) (hx : OpIn w x A c) (hy : OpIn w y B d) :
    Calls Tryz.prog 148 #[.agg #[.int .u8 x.kind, .int .u32 x.id.t, .int .u8 x.id.r, .slice A x.pl.length c, .int .i64 x.pt], .agg #[.int .u8 y.kind, .int .u32 y.id.t, .int .u8 y.id.r, .slice B y.pl.length d, .int .i64 y.pt]] w fun e w' => e = .returned (.int .i64 (plCmp x.pl y.pl)) ∧ Bd w w' := by
  have hc := hide fun V (hv : Bl w V) => placeCompareD A B c d x.pl y.pl V hx.small hy.small (hx.hR.bl hv) (hy.hR.bl hv)
  obtain ⟨W, hW⟩ : ∃ W, W = (w.alloc (.cells #[Value.int IntKind.u8 x.kind, Value.int IntKind.u32 x.id.t, Value.int IntKind.u8 x.id.r, Value.slice A x.pl.length c, Value.int IntKind.i64 x.pt] 47)).alloc (.cells #[Value.int IntKind.u8 y.kind, Value.int IntKind.u32 y.id.t, Value.int IntKind.u8 y.id.r, Value.slice B y.pl.length d, Value.int IntKind.i64 y.pt] 47) := ⟨_, rfl⟩
  have hbW : Bd w W := by rw [hW]; exact ((Bd.refl _).alloc _).alloc _
  have at0 : OpBox W w.heap.size x A c := by rw [hW]; exact (OpBox.new w x A c _).bl ((Bl.refl _).alloc _)
  have at1 : OpBox W (w.heap.size + 1) y B d := by
    have h := OpBox.new (w.alloc (.cells #[Value.int IntKind.u8 x.kind, Value.int IntKind.u32 x.id.t, Value.int IntKind.u8 x.id.r, Value.slice A x.pl.length c, Value.int IntKind.i64 x.pt] 47)) y B d 47
    rw [World.size_alloc w] at h
    rw [hW]
    exact h
  obtain ⟨x0, x1, x2, x3, x4⟩ := at0.cells
  obtain ⟨y0, y1, y2, y3, y4⟩ := at1.cells
  generalize plCmp x.pl y.pl = N at *
  go_enter Tryz.func148, Tryz.ntmps148
  go_wp2_with fail
  rw [← hW]
  clear hW
  refine (hc.out _ hbW.bl).mono ?_
  rintro e w1 ⟨rfl, hb1⟩
  go_wp2_with fail
  go_ret
  exact ⟨rfl, hbW.trans hb1⟩

theorem liveSort {base : Nat} {xs : List Op} {v : Value} {w : World} (hx : ∀ x ∈ xs, Mk x) (hown : Own cOp 47 base w v xs) (hl : xs.length ≤ 1048576) (hbase : base ≤ w.heap.size) :
    Calls Tryz.prog 147 #[v, .func (.func 148) #[] #[]] w fun e w' =>
      e = .returned (.tuple #[]) ∧ ∃ A c ys, v = .slice A xs.length c ∧ xs.length ≤ c ∧ c ≤ maxLen ∧ ys.Perm xs ∧ ys.Pairwise (fun a b => ¬ cmpIds (plAll b.pl) (plAll a.pl) < 0) ∧ R cOp base w' A ys ∧ Below base w w' := by
  by_cases hne : 0 < xs.length
  · obtain ⟨g, cap, cells, rfl, hb, hg, hc, hm, hr, hat⟩ := hown.pieces hne
    have eg : ∀ args w, (callFunc 148 args).run Tryz.prog w = .ok (.enter 148 args) w := enters_of Tryz.func148 (by kernel_rfl) rfl
    refine (sort_lists (C := cOp) sortO_lays Tryz.isAgg47 Tryz.sizeOf47 (fun a b => cmpIds (plAll a.pl) (plAll b.pl)) swoIds 148 eg base g cap hb hg (by omega) hne hr hat ?_).mono ?_
    · rintro W x y cx cy hxm hym - ⟨ox, S, sc, s1, s2, rfl, hS⟩ ⟨oy, T, tc, t1, t2, rfl, hT⟩ hsz
      have hcl := live1 x y S T sc tc W ⟨ox, s1, s2, hS.up fun b hb => ⟨Nat.zero_le _, Nat.lt_of_lt_of_le hb.1.2 hsz⟩⟩ ⟨oy, t1, t2, hT.up fun b hb => ⟨Nat.zero_le _, Nat.lt_of_lt_of_le hb.1.2 hsz⟩⟩
      rw [plCmp_ids (mk_any (hx x hxm)) (mk_any (hx y hym))] at hcl
      exact hcl.mono fun e w' h => ⟨h.1, h.2.grow⟩
    · rintro e w' ⟨rfl, ys, h1, h2, h3, h4⟩
      exact ⟨rfl, _, cap, ys, rfl, hc, hm, h1, h2, h3, h4⟩
  · obtain rfl : xs = [] := List.eq_nil_of_length_eq_zero (by omega)
    obtain ⟨A, c, rfl, hr, h1, h2⟩ := hown.reads
    refine (AnyF.slices_SortFunc_none sortO_lays A c _ w).mono ?_
    rintro e w' ⟨rfl, rfl⟩
    exact ⟨rfl, A, c, [], rfl, h1, h2, List.Perm.refl _, List.Pairwise.nil, R.nil, Below.refl _ _⟩

end Go.Proofs.YteoodmilcpmmpaaGreat

namespace Go.Proofs.YteoodmilcpmmpaaGreat

open Go.RowKit

def liveL (l : List Op) : List Op := if bagMay l then livesF l else []

set_option maxRecDepth 100000 in
set_option maxHeartbeats 4000000 in
theorem marksLive (A : Option Addr) (c : Nat) (l : List Op) (w : World) (hl : l.length ≤ maxLen) (hA : R cOp 0 w A l) :
    Calls Tryz.prog 87 #[.slice A l.length c] w (New2 cOp (liveL l) (okOr 8 (bagMay l)) w) := by
  obtain ⟨L, hL⟩ : ∃ L, L = liveL l := ⟨_, rfl⟩
  rw [← hL]
  have hck := bagCheck A c l w hl hA
  cases h : bagMay l
  · rw [h] at hck
    have e1 : L = [] := by rw [hL]; unfold liveL; rw [h]; rfl
    subst e1
    replace hck := hide hck
    clear hL h
    go_enter Tryz.func87, Tryz.ntmps87
    go_wp2_with fail
    refine hck.out.mono ?_
    rintro e w1 ⟨rfl, hb1⟩
    go_wp2_with fail
    go_ret2
    exact ⟨none, 0, rfl, Nat.le_refl _, Nat.zero_le _, R.nil, hb1⟩
  rw [h] at hck
  replace hck := hide hck
  have hl1 : l.length ≤ 1024 := (bagMay_parts h).1
  have hsm := hide (bagMay_small h).2
  have hom := hide fun (x : Op) (hx : x ∈ l) => open_mark (bagMay_parts h).2.1 hx
  have hmk := hide (marked_mk h)
  have hsrt := hide fun (ys : List Op) (hp : ys.Perm (markedF l)) (hs : ys.Pairwise fun a b => ¬ cmpIds (plAll b.pl) (plAll a.pl) < 0) => (show ys = L by rw [hL]; unfold liveL; rw [h]; exact live_sorted h hp hs)
  have hmd := hide fun V (hv : Bl w V) => marksMarked A c l V (by omega) (hA.bl hv)
  clear hL h
  obtain ⟨i0, hi, hz0, hz1, hz2⟩ := info_parts Tryz.infoOp
  go_enter Tryz.func87, Tryz.ntmps87
  go_wp2_with fail
  refine hck.out.mono ?_
  rintro e w1 ⟨rfl, hb1⟩
  go_wp2_with fail
  refine (hmd.out _ hb1).mono ?_
  rintro e w2 ⟨mb, rfl, hset, hb2, hmb⟩
  have hb12 := hb1.trans hb2
  go_wp2_with fail
  go_loopw [2, 19] (fun v i wr => Bl w2 wr ∧ ∃ k : Nat, k ≤ l.length ∧ i = .int .i64 k ∧ Own cOp 47 w2.heap.size wr v ((l.take k).filter (markOf l))) (fun _ i _ => l.length - (intOf i).toNat)
  case atStart => exact ⟨Bl.refl _, 0, Nat.zero_le _, rfl, Own.nil⟩
  case round =>
    obtain ⟨hbl, k, hk, rfl, hown⟩ := hrel
    by_cases hlt : k < l.length
    · have hbw := hb12.trans hbl
      have hR := hA.bl hbw
      obtain ⟨b, off, rfl, _, hb⟩ := hR.addr (by omega)
      obtain ⟨x, hx⟩ := get_lt hlt
      obtain ⟨_, ho, S, sc, s1, s2, hS, c0, c1, c2, c3, c4⟩ := hR.op hx
      have hki : (k : Int) < (l.length : Int) := by omega
      have hxm := List.mem_of_getElem? hx
      have hps := hsm.out x hxm
      have htk := marked_take hx (markOf l)
      have hV : Bl wr (wr.alloc (.cells #[Value.int IntKind.u8 x.kind, Value.int IntKind.u32 x.id.t, Value.int IntKind.u8 x.id.r, Value.slice S x.pl.length sc, Value.int IntKind.i64 x.pt] 47)) := (Bl.refl _).alloc _
      obtain ⟨va, ve, vc, vd, vA, vm, vk, hlk⟩ := hset.look (s := x.id) ho.2.1
      rw [hom.out x hxm] at hlk
      have hlook := hlk (wr.alloc (.cells #[Value.int IntKind.u8 x.kind, Value.int IntKind.u32 x.id.t, Value.int IntKind.u8 x.id.r, Value.slice S x.pl.length sc, Value.int IntKind.i64 x.pt] 47)) (hbl.trans hV)
      clear hx hlk
      obtain ⟨U, hU⟩ : ∃ U, U = (wr.alloc (.cells #[Value.int IntKind.u8 x.kind, Value.int IntKind.u32 x.id.t, Value.int IntKind.u8 x.id.r, Value.slice S x.pl.length sc, Value.int IntKind.i64 x.pt] 47)).alloc (.cells #[.int .u8 va, .int .u32 ve, .int .u8 vc, .slice vA vm vk, .int .i64 vd] 47) := ⟨_, rfl⟩
      have hbU : Bl wr U := by rw [hU]; exact hV.alloc _
      have hat : OpBox U wr.heap.size x S sc := by rw [hU]; exact (OpBox.new wr x S sc _).bl ((Bl.refl _).alloc _)
      have hin : OpIn U x S sc := ⟨ho, s1, s2, hS.bl hbU⟩
      have hlen : ((l.take k).filter (markOf l)).length ≤ 1024 := by
        have h1 := List.length_filter_le (markOf l) (l.take k)
        rw [List.length_take] at h1
        omega
      cases hq : markOf l x
      · rw [hq] at hlook htk
        replace htk := hide htk
        have hfin := hide (hbl.trans hbU)
        have hfo := hide (hown.bl hbU)
        clear hq hown hat hin
        go_wp2_with fail
        rw [← hU]
        clear hU
        go_wp2_with fail
        go_roundw
        case rel => exact ⟨hfin.out, k + 1, by omega, by go_num, by rw [htk.out]; exact hfo.out⟩
        case measure => simp [intOf]; omega
      · rw [hq] at hlook htk
        replace htk := hide htk
        obtain ⟨x0, x1, x2, x3, x4⟩ := hat.cells
        have htw := hide (opTwin x S sc U hin hps)
        have hsz := hbl.size
        generalize (l.take k).filter (markOf l) = F at *
        have hfo := hide (hown.bl hbU)
        clear hq hown hat hin
        go_wp2_with fail
        rw [← hU]
        clear hU
        go_wp2_with fail
        refine htw.out.mono ?_
        rintro e w4 ⟨T, tc, rfl, t1, t2, hT, hb4⟩
        have hsU := hbU.size
        have hown4 := hfo.out.bl hb4
        have hown5 := hide (hown4.bl ((Bl.refl w4).alloc (.cells #[Value.int IntKind.u8 x.kind, Value.int IntKind.u32 x.id.t, Value.int IntKind.u8 x.id.r, Value.slice T x.pl.length tc, Value.int IntKind.i64 x.pt] 47)))
        have hsrc := hide (hfo.out.src (t := 47) (cs := opCells x T tc) (x := x) hb4 (by omega) ⟨ho, T, tc, t1, t2, rfl, hT⟩)
        have q1 : F.length + [x].length ≤ maxLen := by rw [List.length_singleton]; unfold maxLen; omega
        have q2 : (F.length + [x].length) * 48 ≤ 140737488355328 := by rw [List.length_singleton]; omega
        have q3 : w2.heap.size ≤ (w4.alloc (.cells #[Value.int IntKind.u8 x.kind, Value.int IntKind.u32 x.id.t, Value.int IntKind.u8 x.id.r, Value.slice T x.pl.length tc, Value.int IntKind.i64 x.pt] 47)).heap.size := by rw [World.size_alloc]; have := hb4.size; omega
        have hbl4 := hbl.trans (hbU.trans hb4)
        clear hown4
        go_wp2_with (at_builtin; refine Hid.out ?_)
        refine hide ?_
        refine wpList_append_any2 (C := cOp) (xs := F) (ys := [x]) rfl (.tmp 31) (.tmp 34) _ rfl 47 i0 _ 48 Tryz.underlying22 hi hz0 hz1 hz2 rfl _ w2.heap.size rfl hown5.out (some ⟨w4.heap.size, 0, none⟩) 1 1 rfl rfl hsrc.out q1 q2 q3 ?_
        intro v9 w9 hown9 hg9 hf9
        have hb9 : Bl w2 w9 := (hbl4.alloc _).app hown5.out (Nat.le_refl _) hg9
        clear hown5 hsrc q1 q2 q3 hg9 hf9
        go_wp2_with fail
        go_roundw
        case rel => exact ⟨hb9, k + 1, by omega, by go_num, by rw [htk.out]; exact hown9⟩
        case measure => simp [intOf]; omega
    · have hkl : k = l.length := by omega
      subst hkl
      rw [List.take_length] at hown
      have hms : ((l.filter (markOf l))).length ≤ 1048576 := by
        have h1 := List.length_filter_le (markOf l) l
        omega
      have hso := hide (liveSort (xs := l.filter (markOf l)) hmk.out hown hms hbl.size)
      have hki : ¬ ((l.length : Int) < (l.length : Int)) := by omega
      clear hown
      go_wp2_with fail
      refine hso.out.mono ?_
      rintro e w5 ⟨rfl, X, x, ys, hvx, x1, x2, hper, hpw, hX, hb5⟩
      subst hvx
      have hye := hsrt.out ys hper hpw
      have hle := hper.length_eq
      rw [hye] at hle hX
      clear hper hpw hso
      rw [← hle] at x1 ⊢
      clear hle hms
      go_wp2_with fail
      go_ret2
      exact ⟨X, x, rfl, x1, x2, hX.more hb12.size, (hb12.trans hbl).step (hb5.mono (Nat.le_trans hb12.size (Nat.le_refl _)))⟩

end Go.Proofs.YteoodmilcpmmpaaGreat
