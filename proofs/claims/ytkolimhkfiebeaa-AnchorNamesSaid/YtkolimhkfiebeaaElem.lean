/-
  Elements: how they stand in memory; slices.SortFunc and slices.BinarySearchFunc at them.
-/
import Derived.Test.YtkolimhkfiebeaaLiveSort
import Derived.Test.YtkolimhkfiebeaaHomeOf
import Derived.Test.YtkolimhkfiebeaaBagA
import Derived.Test.YtkolimhkfiebeaaChecked
import Derived.Shelf.SlSortCmp.WholeK
namespace Go.Proofs.Ytkolimhkfiebeaa
open Go.RowKit Go.Shelf

def sortE_ren : Go.Shelf.Ren := ⟨fun | 6 => 190 | 14 => 214 | 15 => 139 | 20 => 225 | 21 => 226 | 22 => 227 | 23 => 228 | 24 => 229 | 25 => 230 | 26 => 231 | 27 => 232 | 28 => 177 | 29 => 178 | 46 => 235 | 47 => 203 | 48 => 204 | 49 => 236 | 50 => 237 | 57 => 238 | n => n, fun | 0 => 0 | 3 => 3 | 4 => 4 | 5 => 5 | 9 => 9 | 22 => 180 | 24 => 146 | 25 => 216 | 39 => 162 | 45 => 197 | 46 => 198 | 50 => 113 | 53 => 31 | 55 => 206 | 66 => 224 | 70 => 228 | 76 => 243 | 77 => 244 | n => n, fun n => n⟩

theorem sortE_lays : SlLaysF0.n6 Try.prog sortE_ren := {
  mixed := by kernel_rfl
  f6 := ⟨Try.f190.name, by decide, Try.func190.trans (congrArg some (by kernel_rfl))⟩
  f14 := ⟨Try.f214.name, by decide, Try.func214.trans (congrArg some (by kernel_rfl))⟩
  f15 := Try.func139.trans (congrArg some (by kernel_rfl))
  f20 := ⟨Try.f225.name, by decide, Try.func225.trans (congrArg some (by kernel_rfl))⟩
  f21 := ⟨Try.f226.name, by decide, Try.func226.trans (congrArg some (by kernel_rfl))⟩
  f22 := ⟨Try.f227.name, by decide, Try.func227.trans (congrArg some (by kernel_rfl))⟩
  f23 := ⟨Try.f228.name, by decide, Try.func228.trans (congrArg some (by kernel_rfl))⟩
  f24 := ⟨Try.f229.name, by decide, Try.func229.trans (congrArg some (by kernel_rfl))⟩
  f25 := ⟨Try.f230.name, by decide, Try.func230.trans (congrArg some (by kernel_rfl))⟩
  f26 := ⟨Try.f231.name, by decide, Try.func231.trans (congrArg some (by kernel_rfl))⟩
  f27 := ⟨Try.f232.name, by decide, Try.func232.trans (congrArg some (by kernel_rfl))⟩
  f28 := Try.func177.trans (congrArg some (by kernel_rfl))
  f29 := Try.func178.trans (congrArg some (by kernel_rfl))
  f46 := ⟨Try.f235.name, by decide, Try.func235.trans (congrArg some (by kernel_rfl))⟩
  f47 := Try.func203.trans (congrArg some (by kernel_rfl))
  f48 := Try.func204.trans (congrArg some (by kernel_rfl))
  f49 := ⟨Try.f236.name, by decide, Try.func236.trans (congrArg some (by kernel_rfl))⟩
  f50 := ⟨Try.f237.name, by decide, Try.func237.trans (congrArg some (by kernel_rfl))⟩
  f57 := ⟨Try.f238.name, by decide, Try.func238.trans (congrArg some (by kernel_rfl))⟩
  t0 := Try.underlying0
  a0 := Try.isAgg0
  z0 := Try.sizeOf0
  v0 := Try.zeroValue0
  t3 := Try.underlying3
  a3 := Try.isAgg3
  z3 := Try.sizeOf3
  v3 := Try.zeroValue3
  t4 := Try.underlying4
  a4 := Try.isAgg4
  z4 := Try.sizeOf4
  v4 := Try.zeroValue4
  t5 := Try.underlying5
  a5 := Try.isAgg5
  z5 := Try.sizeOf5
  v5 := Try.zeroValue5
  t9 := Try.underlying9
  a9 := Try.isAgg9
  z9 := Try.sizeOf9
  v9 := Try.zeroValue9
  t22 := Try.underlying180
  a22 := Try.isAgg180
  z22 := Try.sizeOf180
  v22 := Try.zeroValue180
  t25 := Try.underlying216
  a25 := Try.isAgg216
  z25 := Try.sizeOf216
  v25 := Try.zeroValue216
  t39 := Try.underlying162
  a39 := Try.isAgg162
  z39 := Try.sizeOf162
  v39 := Try.zeroValue162
  t45 := Try.underlying197
  a45 := Try.isAgg197
  z45 := Try.sizeOf197
  v45 := Try.zeroValue197
  t46 := Try.underlying198
  a46 := Try.isAgg198
  z46 := Try.sizeOf198
  v46 := Try.zeroValue198
  t50 := Try.underlying113
  a50 := Try.isAgg113
  z50 := Try.sizeOf113
  v50 := Try.zeroValue113
  t53 := Try.underlying31
  a53 := Try.isAgg31
  z53 := Try.sizeOf31
  v53 := Try.zeroValue31
  t55 := Try.underlying206
  a55 := Try.isAgg206
  z55 := Try.sizeOf206
  v55 := Try.zeroValue206
  t66 := Try.underlying224
  a66 := Try.isAgg224
  z66 := Try.sizeOf224
  v66 := Try.zeroValue224
  t70 := Try.underlying228
  a70 := Try.isAgg228
  z70 := Try.sizeOf228
  v70 := Try.zeroValue228
  t76 := Try.underlying243
  a76 := Try.isAgg243
  z76 := Try.sizeOf243
  v76 := Try.zeroValue243
  t77 := Try.underlying244
  a77 := Try.isAgg244
  z77 := Try.sizeOf244
  v77 := Try.zeroValue244 }

/-! ### An element's cells -/

/-- The four cells of an element; its kind is not told. -/
def elCells (x : Op) (A : Option Addr) (c : Nat) : List Value := [.int .u32 x.id.t, .int .u8 x.id.r, .slice A x.pl.length c, .int .i64 x.pt]

def cEl : Codec Op where
  size := 4
  pos := by omega
  rd w S x cs := x.ok ∧ ∃ A c, x.pl.length ≤ c ∧ c ≤ maxLen ∧ cs = elCells x A c ∧ RS cRun w S A x.pl
  len h := by obtain ⟨_, A, c, _, _, e, _⟩ := h; rw [e]; rfl
  keep k h1 h := by obtain ⟨h0, A, c, a1, a2, e, hr⟩ := h; exact ⟨h0, A, c, a1, a2, e, hr.keep k h1⟩
  one h := by obtain ⟨_, A, c, _, _, e, _⟩ := h; rw [e]; intro u hu; simp [elCells] at hu; rcases hu with rfl | rfl | rfl | rfl <;> rfl

theorem R.el {w : World} {lo : Nat} {b off k : Nat} {l : List Op} {x : Op} (h : R cEl lo w (some ⟨b, off, none⟩) l) (hk : l[k]? = some x) :
    (lo ≤ b ∧ b < w.heap.size) ∧ x.ok ∧ ∃ A c, x.pl.length ≤ c ∧ c ≤ maxLen ∧ R cRun lo w A x.pl ∧ w.cell? ⟨b, off + k * 4, none⟩ = some (.int .u32 x.id.t) ∧ w.cell? ⟨b, off + k * 4 + 1, none⟩ = some (.int .u8 x.id.r) ∧
      w.cell? ⟨b, off + k * 4 + 2, none⟩ = some (.slice A x.pl.length c) ∧ w.cell? ⟨b, off + k * 4 + 3, none⟩ = some (.int .i64 x.pt) := by
  obtain ⟨h1, m, ⟨ho, A, c, a1, a2, rfl, hr⟩, ha⟩ := R.get h hk
  exact ⟨h1, ho, A, c, a1, a2, hr, (ha 0 _ rfl).1, (ha 1 _ rfl).1, (ha 2 _ rfl).1, (ha 3 _ rfl).1⟩

/-- The box of an element. -/
def ElBox (W : World) (Y : Nat) (x : Op) (A : Option Addr) (c : Nat) : Prop := At W Y 0 (elCells x A c)

section

variable {W W' : World} {Y c : Nat} {x : Op} {A : Option Addr}

theorem ElBox.new (w : World) (x : Op) (A : Option Addr) (c : Nat) (t : TypeId) : ElBox (w.alloc (.cells #[Value.int IntKind.u32 x.id.t, Value.int IntKind.u8 x.id.r, Value.slice A x.pl.length c, Value.int IntKind.i64 x.pt] t)) w.heap.size x A c := At.new w (elCells x A c) t

theorem ElBox.bl (h : ElBox W Y x A c) (hb : Bl W W') : ElBox W' Y x A c := At.bl h hb (by simp [elCells])

theorem ElBox.lt (h : ElBox W Y x A c) : Y < W.heap.size := At.lt h (by simp [elCells])

theorem ElBox.cells (h : ElBox W Y x A c) : W.cell? ⟨Y, 0, none⟩ = some (.int .u32 x.id.t) ∧ W.cell? ⟨Y, 1, none⟩ = some (.int .u8 x.id.r) ∧ W.cell? ⟨Y, 2, none⟩ = some (.slice A x.pl.length c) ∧ W.cell? ⟨Y, 3, none⟩ = some (.int .i64 x.pt) :=
  ⟨by simpa using (h 0 _ rfl).1, by simpa using (h 1 _ rfl).1, by simpa using (h 2 _ rfl).1, by simpa using (h 3 _ rfl).1⟩

theorem ElBox.frozens (h : ElBox W Y x A c) : W.frozen? ⟨Y, 0, none⟩ = false ∧ W.frozen? ⟨Y, 1, none⟩ = false ∧ W.frozen? ⟨Y, 2, none⟩ = false ∧ W.frozen? ⟨Y, 3, none⟩ = false :=
  ⟨by simpa using (h 0 _ rfl).2, by simpa using (h 1 _ rfl).2, by simpa using (h 2 _ rfl).2, by simpa using (h 3 _ rfl).2⟩

end

theorem Try.infoEl : (Try.prog.info? 146).map (fun i => (i.zero, i.size, i.bytes)) = some (some (.agg #[.int .u32 0, .int .u8 0, .slice none 0 0, .int .i64 0]), 4, 40) := by kernel_rfl

/-! ### Sorted, and searched -/
set_option maxRecDepth 100000 in
set_option maxHeartbeats 1000000 in
theorem elem1 (x y : Op) (A B : Option Addr) (c d : Nat) (w : World) (hx : OpIn w x A c) (hy : OpIn w y B d) :
    Calls Try.prog 191 #[.agg #[.int .u32 x.id.t, .int .u8 x.id.r, .slice A x.pl.length c, .int .i64 x.pt], .agg #[.int .u32 y.id.t, .int .u8 y.id.r, .slice B y.pl.length d, .int .i64 y.pt]] w fun e w' => e = .returned (.int .i64 (plCmp x.pl y.pl)) ∧ Bd w w' := by
  have hc := hide fun V (hv : Bl w V) => placeCompareD A B c d x.pl y.pl V hx.small hy.small (hx.hR.bl hv) (hy.hR.bl hv)
  obtain ⟨W, hW⟩ : ∃ W, W = (w.alloc (.cells #[Value.int IntKind.u32 x.id.t, Value.int IntKind.u8 x.id.r, Value.slice A x.pl.length c, Value.int IntKind.i64 x.pt] 146)).alloc (.cells #[Value.int IntKind.u32 y.id.t, Value.int IntKind.u8 y.id.r, Value.slice B y.pl.length d, Value.int IntKind.i64 y.pt] 146) := ⟨_, rfl⟩
  have hbW : Bd w W := by rw [hW]; exact ((Bd.refl _).alloc _).alloc _
  have at0 : ElBox W w.heap.size x A c := by rw [hW]; exact (ElBox.new w x A c _).bl ((Bl.refl _).alloc _)
  have at1 : ElBox W (w.heap.size + 1) y B d := by
    have h := ElBox.new (w.alloc (.cells #[Value.int IntKind.u32 x.id.t, Value.int IntKind.u8 x.id.r, Value.slice A x.pl.length c, Value.int IntKind.i64 x.pt] 146)) y B d 146
    rw [World.size_alloc w] at h
    rw [hW]
    exact h
  obtain ⟨x0, x1, x2, x3⟩ := at0.cells
  obtain ⟨y0, y1, y2, y3⟩ := at1.cells
  generalize plCmp x.pl y.pl = N at *
  go_enter Try.func191, Try.ntmps191
  go_wp2_with fail
  rw [← hW]
  clear hW
  refine (hc.out _ hbW.bl).mono ?_
  rintro e w1 ⟨rfl, hb1⟩
  go_wp2_with fail
  go_ret
  exact ⟨rfl, hbW.trans hb1⟩

theorem elemSort {base : Nat} {xs : List Op} {v : Value} {w : World} (hx : ∀ x ∈ xs, Mk x) (hown : Own cEl 146 base w v xs) (hl : xs.length ≤ 1048576) (hbase : base ≤ w.heap.size) :
    Calls Try.prog 190 #[v, .func (.func 191) #[] #[]] w fun e w' =>
      e = .returned (.tuple #[]) ∧ ∃ A c ys, v = .slice A xs.length c ∧ xs.length ≤ c ∧ c ≤ maxLen ∧ ys.Perm xs ∧ ys.Pairwise (fun a b => ¬ cmpIds (plAll b.pl) (plAll a.pl) < 0) ∧ R cEl base w' A ys ∧ Below base w w' := by
  by_cases hne : 0 < xs.length
  · obtain ⟨g, cap, cells, rfl, hb, hg, hc, hm, hr, hat⟩ := hown.pieces hne
    have eg : ∀ args w, (callFunc 191 args).run Try.prog w = .ok (.enter 191 args) w := enters_of Try.func191 (by kernel_rfl) rfl
    refine (sort_lists (C := cEl) sortE_lays Try.isAgg146 Try.sizeOf146 (fun a b => cmpIds (plAll a.pl) (plAll b.pl)) swoIds 191 eg base g cap hb hg (by omega) hne hr hat ?_).mono ?_
    · rintro W x y cx cy hxm hym - ⟨ox, S, sc, s1, s2, rfl, hS⟩ ⟨oy, T, tc, t1, t2, rfl, hT⟩ hsz
      have hcl := elem1 x y S T sc tc W ⟨ox, s1, s2, hS.up fun b hb => ⟨Nat.zero_le _, Nat.lt_of_lt_of_le hb.1.2 hsz⟩⟩ ⟨oy, t1, t2, hT.up fun b hb => ⟨Nat.zero_le _, Nat.lt_of_lt_of_le hb.1.2 hsz⟩⟩
      rw [plCmp_ids (mk_any (hx x hxm)) (mk_any (hx y hym))] at hcl
      exact hcl.mono fun e w' h => ⟨h.1, h.2.grow⟩
    · rintro e w' ⟨rfl, ys, h1, h2, h3, h4⟩
      exact ⟨rfl, _, cap, ys, rfl, hc, hm, h1, h2, h3, h4⟩
  · obtain rfl : xs = [] := List.eq_nil_of_length_eq_zero (by omega)
    obtain ⟨A, c, rfl, hr, h1, h2⟩ := hown.reads
    refine (AnyF.slices_SortFunc_none sortE_lays A c _ w).mono ?_
    rintro e w' ⟨rfl, rfl⟩
    exact ⟨rfl, A, c, [], rfl, h1, h2, List.Perm.refl _, List.Pairwise.nil, R.nil, Below.refl _ _⟩
set_option maxRecDepth 100000 in
set_option maxHeartbeats 1000000 in
theorem offset1 (x : Op) (A B : Option Addr) (c d : Nat) (p : List Run) (w : World) (hx : OpIn w x A c) (hp : p.length ≤ maxLen) (hB : R cRun 0 w B p) :
    Calls Try.prog 155 #[.agg #[.int .u32 x.id.t, .int .u8 x.id.r, .slice A x.pl.length c, .int .i64 x.pt], .slice B p.length d] w fun e w' => e = .returned (.int .i64 (plCmp x.pl p)) ∧ Bl w w' := by
  have hc := hide fun V (hv : Bl w V) => placeCompareD A B c d x.pl p V hx.small hp (hx.hR.bl hv) (hB.bl hv)
  obtain ⟨W, hW⟩ : ∃ W, W = w.alloc (.cells #[Value.int IntKind.u32 x.id.t, Value.int IntKind.u8 x.id.r, Value.slice A x.pl.length c, Value.int IntKind.i64 x.pt] 146) := ⟨_, rfl⟩
  have hbW : Bl w W := by rw [hW]; exact (Bl.refl _).alloc _
  have at0 : ElBox W w.heap.size x A c := by rw [hW]; exact ElBox.new w x A c _
  obtain ⟨x0, x1, x2, x3⟩ := at0.cells
  generalize plCmp x.pl p = N at *
  go_enter Try.func155, Try.ntmps155
  go_wp2_with fail
  rw [← hW]
  clear hW
  refine (hc.out _ hbW).mono ?_
  rintro e w1 ⟨rfl, hb1⟩
  go_wp2_with fail
  go_ret
  exact ⟨rfl, hbW.trans hb1.bl⟩

set_option maxRecDepth 100000 in
set_option maxHeartbeats 4000000 in
theorem elemSearch (A B : Option Addr) (c d : Nat) (l : List Op) (p : List Run) (w : World) (hl : l.length ≤ 1048576) (hA : R cEl 0 w A l) (hpl : p.length ≤ maxLen) (hB : R cRun 0 w B p) (hq : plAny p = true) (hmk : ∀ x ∈ l, Mk x) (hso : SrtP l) :
    Calls Try.prog 154 #[.slice A l.length c, .slice B p.length d, .func (.func 155) #[] #[]] w fun e w' => e = .returned (.tuple #[.int .i64 (posP l p), .bool (isP l p)]) ∧ Bl w w' := by
  obtain ⟨N, hN⟩ : ∃ N, N = posP l p := ⟨_, rfl⟩
  obtain ⟨T, hT⟩ : ∃ T, T = isP l p := ⟨_, rfl⟩
  rw [← hN, ← hT]
  have hpos := any_pos hq
  have hfin : ∀ i, i ≤ l.length → CutP l p i → N = i ∧ (i < l.length → ∀ x, l[i]? = some x → (decide (heldF x.pl p = 0)) = T) ∧ (l.length ≤ i → false = T) := fun i hi h => by
    have := is_of_cutP hmk hso hpos h
    rw [← hT] at this
    exact ⟨hN.trans (h.pos hi), this⟩
  replace hfin := hide hfin
  replace hso := hide hso
  replace hmk := hide hmk
  replace hpos := hide hpos
  replace hq := hide hq
  clear hN hT
  go_enter Try.func154, Try.ntmps154
  go_wp2_with fail
  go_loopw [9, 10] (fun i j wr => Bl w wr ∧ ∃ (a z : Nat), a ≤ z ∧ z ≤ l.length ∧ i = .int .i64 a ∧ j = .int .i64 z ∧ Hid ((∀ k x, k < a → l[k]? = some x → heldF x.pl p < 0) ∧ (∀ k x, z ≤ k → l[k]? = some x → 0 ≤ heldF x.pl p))) (fun i j _ => (intOf j).toNat - (intOf i).toNat)
  case atStart =>
    exact ⟨Bl.refl _, 0, l.length, Nat.zero_le _, Nat.le_refl _, rfl, rfl, fun k x hk => by omega, fun k x hk hx => by have := (List.getElem?_eq_some_iff.1 hx).1; omega⟩
  case round =>
    obtain ⟨hbl, a, z, haz, hz, rfl, rfl, hcut⟩ := hrel
    by_cases hlt : a < z
    · obtain ⟨m, hm⟩ : ∃ m, m = (a + z) / 2 := ⟨_, rfl⟩
      have hR := hA.bl hbl
      obtain ⟨b, off, rfl, _, hb⟩ := hR.addr (by omega)
      obtain ⟨x, hx⟩ := get_lt (show m < l.length by omega)
      obtain ⟨_, ho, S, sc, hcd, hdm, hS, c0, c1, c2, c3⟩ := hR.el hx
      have hai : (a : Int) < (z : Int) := by omega
      have hmi : (m : Int) < (l.length : Int) := by omega
      have hmm : ((a : Int) + (z : Int)) / 2 = (m : Int) := by omega
      have hm1 : a ≤ m := by omega
      have hm2 : m < z := by omega
      replace hm := hide hm
      have hcl := offset1 x S B sc d p wr ⟨ho, hcd, hdm, hS⟩ hpl (hB.bl hbl)
      rw [mk_cmp (hmk.out x (List.mem_of_getElem? hx)) hq.out] at hcl
      by_cases e1 : heldF x.pl p < 0
      · have g := hide (show ∀ k y, k < m + 1 → l[k]? = some y → heldF y.pl p < 0 from fun k y hk hy => by
          by_cases h : k = m
          · subst h; rw [hx] at hy; cases hy; exact e1
          · exact held_tr (hmk.out y (List.mem_of_getElem? hy)) (hmk.out x (List.mem_of_getElem? hx)) hpos.out (hso.out.get hy hx (by omega)) (by omega))
        have hd : decide (heldF x.pl p < 0) = true := decide_eq_true e1
        generalize heldF x.pl p = q at *
        replace hcl := hide hcl
        clear hx
        go_wp2_with fail
        refine hcl.out.mono ?_
        rintro e w2 ⟨rfl, hb2⟩
        go_wp2_with fail
        go_roundw
        case rel => exact ⟨hbl.trans hb2, m + 1, z, by omega, hz, by go_num, rfl, g.out, hcut.out.2⟩
        case measure => simp [intOf]; omega
      · have g := hide (show ∀ k y, m ≤ k → l[k]? = some y → 0 ≤ heldF y.pl p from fun k y hk hy => by
          by_cases h : k = m
          · subst h; rw [hx] at hy; cases hy; omega
          · have := held_tr2 (hmk.out x (List.mem_of_getElem? hx)) (hmk.out y (List.mem_of_getElem? hy)) hpos.out (hso.out.get hx hy (by omega)) (by omega)
            omega)
        have hd : decide (heldF x.pl p < 0) = false := decide_eq_false e1
        generalize heldF x.pl p = q at *
        replace hcl := hide hcl
        clear hx
        go_wp2_with fail
        refine hcl.out.mono ?_
        rintro e w2 ⟨rfl, hb2⟩
        go_wp2_with fail
        go_roundw
        case rel => exact ⟨hbl.trans hb2, a, m, by omega, by omega, rfl, rfl, hcut.out.1, g.out⟩
        case measure => simp [intOf]; omega
    · obtain rfl : a = z := by omega
      obtain ⟨hNp, hT1, hT2⟩ := hfin.out a hz ⟨hcut.out.1, hcut.out.2⟩
      subst hNp
      by_cases hpn : N < l.length
      · have hR := hA.bl hbl
        obtain ⟨b, off, rfl, _, hb⟩ := hR.addr (by omega)
        obtain ⟨x, hx⟩ := get_lt hpn
        obtain ⟨_, ho, S, sc, hcd, hdm, hS, c0, c1, c2, c3⟩ := hR.el hx
        have hni : (N : Int) < (l.length : Int) := by omega
        have hd := hT1 hpn x hx
        have hcl := offset1 x S B sc d p wr ⟨ho, hcd, hdm, hS⟩ hpl (hB.bl hbl)
        rw [mk_cmp (hmk.out x (List.mem_of_getElem? hx)) hq.out] at hcl
        have hz2 : (heldF x.pl p == 0) = T := by rw [← hd]; by_cases h : heldF x.pl p = 0 <;> simp [h]
        generalize heldF x.pl p = q at hcl hz2
        replace hcl := hide hcl
        have hpd : decide ((N : Int) < (l.length : Int)) = true := by simpa using hni
        clear hd hx hT1 hT2 hcut
        go_wp2_with fail
        refine hcl.out.mono ?_
        rintro e w2 ⟨rfl, hb2⟩
        go_wp2_with fail
        go_ret2
        exact ⟨rfl, hbl.trans hb2⟩
      · have hpd : decide ((N : Int) < (l.length : Int)) = false := by simp; omega
        have g := hide (hT2 (by omega))
        clear hT1 hT2 hcut
        go_wp2_with fail
        go_ret2
        rw [g.out]
        exact ⟨rfl, hbl⟩
end Go.Proofs.Ytkolimhkfiebeaa
