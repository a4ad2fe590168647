/-
  The walk of marks.Live's closure; slices.SortFunc at it.
-/
import Derived.Test.YteoodmilcpmmpaaGreatPart
import Derived.Test.YteoodmilcpmmpaaGreatSortO
import Derived.Test.YteoodmilcpmmpaaGreatLiveP
import Derived.Shelf.SlSortCmp.NoneTotal
namespace Go.Proofs.YteoodmilcpmmpaaGreat
open Go.RowKit Go.Shelf

/-- What is the call's own, with at least one element, in pieces. -/
theorem Own.pieces {α : Type} {C : Codec α} {e : TypeId} {base : Nat} {w : World} {v : Value} {xs : List α} (h : Own C e base w v xs) (hne : 0 < xs.length) :
    ∃ g cap cells, v = .slice (some ⟨g, 0, none⟩) xs.length cap ∧ base ≤ g ∧ g < w.heap.size ∧ xs.length ≤ cap ∧ cap ≤ maxLen ∧ RdL C w (fun b => (base ≤ b ∧ b < w.heap.size) ∧ b ≠ g) xs cells ∧ At w g 0 cells := by
  obtain ⟨cells, ⟨_, h2⟩, hr⟩ := h
  rcases h2 with ⟨rfl, h0⟩ | ⟨g, cap, cur, rfl, hb, hg, hc, hm, hsz, htk⟩
  · omega
  · refine ⟨g, cap, cells, rfl, hb, (Array.getElem?_eq_some_iff.1 hg).1, hc, hm, hr.keep (Keeps.refl _ _) fun b hb => ⟨hb.1, fun e => hb.2 (by rw [e]; rfl)⟩, fun j u hu => ⟨?_, ?_⟩⟩
    · rw [Nat.zero_add, cell_of_row w g j cur e (0, 0) hg]
      rw [← htk, List.getElem?_take] at hu
      split at hu
      · simpa using hu
      · cases hu
    · simp [World.frozen?, hg]

theorem swoIds : Sort.SWO fun a b : Op => decide (cmpIds (plAll a.pl) (plAll b.pl) < 0) where
  irrefl x := by rw [cmpIds_self]; rfl
  trans x y z h k := by
    rw [decide_eq_true_eq] at *
    exact cmpIds_tr h k
  ntrans x y z h k := by
    rw [decide_eq_false_iff_not] at *
    intro hxz
    have h1 := cmpIds_anti (plAll x.pl) (plAll y.pl)
    have h2 := cmpIds_anti (plAll y.pl) (plAll z.pl)
    by_cases e : cmpIds (plAll y.pl) (plAll x.pl) = 0
    · rw [cmpIds_zero e] at k
      exact k hxz
    · have := cmpIds_tr (a := plAll y.pl) (b := plAll x.pl) (c := plAll z.pl) (by omega) hxz
      exact k this

set_option maxRecDepth 100000 in
set_option maxHeartbeats 1000000 in
theorem live1 (x y : Op) (A B : Option Addr) (c d : Nat) (w : World) (hx : OpIn w x A c) (hy : OpIn w y B d) :
    Calls Tryz.prog 148 #[.agg #[.int .u8 x.kind, .int .u32 x.id.t, .int .u8 x.id.r, .slice A x.pl.length c, .int .i64 x.pt], .agg #[.int .u8 y.kind, .int .u32 y.id.t, .int .u8 y.id.r, .slice B y.pl.length d, .int .i64 y.pt]] w fun e w' => e = .returned (.int .i64 (plCmp x.pl y.pl)) ∧ Bd w w' := by
  have hc := hide fun V (hv : Bl w V) => placeCompareD A B c d x.pl y.pl V hx.small hy.small (hx.hR.bl hv) (hy.hR.bl hv)
  obtain ⟨W, hW⟩ : ∃ W, W = (w.alloc (.cells #[Value.int IntKind.u8 x.kind, Value.int IntKind.u32 x.id.t, Value.int IntKind.u8 x.id.r, Value.slice A x.pl.length c, Value.int IntKind.i64 x.pt] 47)).alloc (.cells #[Value.int IntKind.u8 y.kind, Value.int IntKind.u32 y.id.t, Value.int IntKind.u8 y.id.r, Value.slice B y.pl.length d, Value.int IntKind.i64 y.pt] 47) := ⟨_, rfl⟩
  have hbW : Bd w W := by rw [hW]; exact ((Bd.refl _).alloc _).alloc _
  have at0 : OpBox W w.heap.size x A c := by rw [hW]; exact (OpBox.new w x A c _).bl ((Bl.refl _).alloc _)
  have at1 : OpBox W (w.heap.size + 1) y B d := by
    have h := OpBox.new (w.alloc (.cells #[Value.int IntKind.u8 x.kind, Value.int IntKind.u32 x.id.t, Value.int IntKind.u8 x.id.r, Value.slice A x.pl.length c, Value.int IntKind.i64 x.pt] 47)) y B d 47
    rw [World.size_alloc w] at h
    rw [hW]
    exact h
  obtain ⟨x0, x1, x2, x3, x4⟩ := at0.cells
  obtain ⟨y0, y1, y2, y3, y4⟩ := at1.cells
  generalize plCmp x.pl y.pl = N at *
  go_enter Tryz.func148, Tryz.ntmps148
  go_wp2_with fail
  rw [← hW]
  clear hW
  refine (hc.out _ hbW.bl).mono ?_
  rintro e w1 ⟨rfl, hb1⟩
  go_wp2_with fail
  go_ret
  exact ⟨rfl, hbW.trans hb1⟩

theorem liveSort {base : Nat} {xs : List Op} {v : Value} {w : World} (hx : ∀ x ∈ xs, Mk x) (hown : Own cOp 47 base w v xs) (hl : xs.length ≤ 1048576) (hbase : base ≤ w.heap.size) :
    Calls Tryz.prog 147 #[v, .func (.func 148) #[] #[]] w fun e w' =>
      e = .returned (.tuple #[]) ∧ ∃ A c ys, v = .slice A xs.length c ∧ xs.length ≤ c ∧ c ≤ maxLen ∧ ys.Perm xs ∧ ys.Pairwise (fun a b => ¬ cmpIds (plAll b.pl) (plAll a.pl) < 0) ∧ R cOp base w' A ys ∧ Below base w w' := by
  by_cases hne : 0 < xs.length
  · obtain ⟨g, cap, cells, rfl, hb, hg, hc, hm, hr, hat⟩ := hown.pieces hne
    have eg : ∀ args w, (callFunc 148 args).run Tryz.prog w = .ok (.enter 148 args) w := enters_of Tryz.func148 (by kernel_rfl) rfl
    refine (sort_lists (C := cOp) sortO_lays Tryz.isAgg47 Tryz.sizeOf47 (fun a b => cmpIds (plAll a.pl) (plAll b.pl)) swoIds 148 eg base g cap hb hg (by omega) hne hr hat ?_).mono ?_
    · rintro W x y cx cy hxm hym - ⟨ox, S, sc, s1, s2, rfl, hS⟩ ⟨oy, T, tc, t1, t2, rfl, hT⟩ hsz
      have hcl := live1 x y S T sc tc W ⟨ox, s1, s2, hS.up fun b hb => ⟨Nat.zero_le _, Nat.lt_of_lt_of_le hb.1.2 hsz⟩⟩ ⟨oy, t1, t2, hT.up fun b hb => ⟨Nat.zero_le _, Nat.lt_of_lt_of_le hb.1.2 hsz⟩⟩
      rw [plCmp_ids (mk_any (hx x hxm)) (mk_any (hx y hym))] at hcl
      exact hcl.mono fun e w' h => ⟨h.1, h.2.grow⟩
    · rintro e w' ⟨rfl, ys, h1, h2, h3, h4⟩
      exact ⟨rfl, _, cap, ys, rfl, hc, hm, h1, h2, h3, h4⟩
  · obtain rfl : xs = [] := List.eq_nil_of_length_eq_zero (by omega)
    obtain ⟨A, c, rfl, hr, h1, h2⟩ := hown.reads
    refine (AnyF.slices_SortFunc_none sortO_lays A c _ w).mono ?_
    rintro e w' ⟨rfl, rfl⟩
    exact ⟨rfl, A, c, [], rfl, h1, h2, List.Perm.refl _, List.Pairwise.nil, R.nil, Below.refl _ _⟩
end Go.Proofs.YteoodmilcpmmpaaGreat
