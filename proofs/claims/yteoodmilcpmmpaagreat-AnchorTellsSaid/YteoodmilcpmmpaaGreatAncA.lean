/-
  Elements: how they stand in memory; slices.SortFunc and slices.BinarySearchFunc at them.
  The walk of view.Elements.
  The walks of view.Offset, view.At, anchor.Make, anchor.Find.
  The walk of anchor.Find, and of the closure that it defers.
-/
import Derived.Test.YteoodmilcpmmpaaGreatLiveSort
import Derived.Test.YteoodmilcpmmpaaGreatHomeOf
import Derived.Test.YteoodmilcpmmpaaGreatBagA
import Derived.Test.YteoodmilcpmmpaaGreatChecked
import Derived.Shelf.SlSortCmp.WholeK
import Derived.Test.YteoodmilcpmmpaaGreatSome
import Derived.Test.YteoodmilcpmmpaaGreatBagB
import Derived.Defers
namespace Go.Proofs.YteoodmilcpmmpaaGreat
open Go.RowKit Go.Shelf

def sortE_ren : Go.Shelf.Ren := ⟨fun | 6 => 62 | 14 => 117 | 15 => 118 | 20 => 169 | 21 => 170 | 22 => 171 | 23 => 172 | 24 => 173 | 25 => 174 | 26 => 175 | 27 => 176 | 28 => 177 | 29 => 178 | 46 => 203 | 47 => 204 | 48 => 205 | 49 => 206 | 50 => 207 | 57 => 225 | n => n, fun | 0 => 0 | 3 => 3 | 4 => 4 | 5 => 5 | 9 => 9 | 22 => 48 | 24 => 53 | 25 => 103 | 39 => 151 | 45 => 195 | 46 => 196 | 50 => 95 | 53 => 23 | 55 => 203 | 66 => 222 | 70 => 226 | 76 => 239 | 77 => 240 | n => n, fun n => n⟩

theorem sortE_lays : SlLaysF0.n6 Tryz.prog sortE_ren := {
  mixed := by kernel_rfl
  f6 := ⟨Tryz.f62.name, by decide, Tryz.func62.trans (congrArg some (by kernel_rfl))⟩
  f14 := ⟨Tryz.f117.name, by decide, Tryz.func117.trans (congrArg some (by kernel_rfl))⟩
  f15 := Tryz.func118.trans (congrArg some (by kernel_rfl))
  f20 := ⟨Tryz.f169.name, by decide, Tryz.func169.trans (congrArg some (by kernel_rfl))⟩
  f21 := ⟨Tryz.f170.name, by decide, Tryz.func170.trans (congrArg some (by kernel_rfl))⟩
  f22 := ⟨Tryz.f171.name, by decide, Tryz.func171.trans (congrArg some (by kernel_rfl))⟩
  f23 := ⟨Tryz.f172.name, by decide, Tryz.func172.trans (congrArg some (by kernel_rfl))⟩
  f24 := ⟨Tryz.f173.name, by decide, Tryz.func173.trans (congrArg some (by kernel_rfl))⟩
  f25 := ⟨Tryz.f174.name, by decide, Tryz.func174.trans (congrArg some (by kernel_rfl))⟩
  f26 := ⟨Tryz.f175.name, by decide, Tryz.func175.trans (congrArg some (by kernel_rfl))⟩
  f27 := ⟨Tryz.f176.name, by decide, Tryz.func176.trans (congrArg some (by kernel_rfl))⟩
  f28 := Tryz.func177.trans (congrArg some (by kernel_rfl))
  f29 := Tryz.func178.trans (congrArg some (by kernel_rfl))
  f46 := ⟨Tryz.f203.name, by decide, Tryz.func203.trans (congrArg some (by kernel_rfl))⟩
  f47 := Tryz.func204.trans (congrArg some (by kernel_rfl))
  f48 := Tryz.func205.trans (congrArg some (by kernel_rfl))
  f49 := ⟨Tryz.f206.name, by decide, Tryz.func206.trans (congrArg some (by kernel_rfl))⟩
  f50 := ⟨Tryz.f207.name, by decide, Tryz.func207.trans (congrArg some (by kernel_rfl))⟩
  f57 := ⟨Tryz.f225.name, by decide, Tryz.func225.trans (congrArg some (by kernel_rfl))⟩
  t0 := Tryz.underlying0
  a0 := Tryz.isAgg0
  z0 := Tryz.sizeOf0
  v0 := Tryz.zeroValue0
  t3 := Tryz.underlying3
  a3 := Tryz.isAgg3
  z3 := Tryz.sizeOf3
  v3 := Tryz.zeroValue3
  t4 := Tryz.underlying4
  a4 := Tryz.isAgg4
  z4 := Tryz.sizeOf4
  v4 := Tryz.zeroValue4
  t5 := Tryz.underlying5
  a5 := Tryz.isAgg5
  z5 := Tryz.sizeOf5
  v5 := Tryz.zeroValue5
  t9 := Tryz.underlying9
  a9 := Tryz.isAgg9
  z9 := Tryz.sizeOf9
  v9 := Tryz.zeroValue9
  t22 := Tryz.underlying48
  a22 := Tryz.isAgg48
  z22 := Tryz.sizeOf48
  v22 := Tryz.zeroValue48
  t25 := Tryz.underlying103
  a25 := Tryz.isAgg103
  z25 := Tryz.sizeOf103
  v25 := Tryz.zeroValue103
  t39 := Tryz.underlying151
  a39 := Tryz.isAgg151
  z39 := Tryz.sizeOf151
  v39 := Tryz.zeroValue151
  t45 := Tryz.underlying195
  a45 := Tryz.isAgg195
  z45 := Tryz.sizeOf195
  v45 := Tryz.zeroValue195
  t46 := Tryz.underlying196
  a46 := Tryz.isAgg196
  z46 := Tryz.sizeOf196
  v46 := Tryz.zeroValue196
  t50 := Tryz.underlying95
  a50 := Tryz.isAgg95
  z50 := Tryz.sizeOf95
  v50 := Tryz.zeroValue95
  t53 := Tryz.underlying23
  a53 := Tryz.isAgg23
  z53 := Tryz.sizeOf23
  v53 := Tryz.zeroValue23
  t55 := Tryz.underlying203
  a55 := Tryz.isAgg203
  z55 := Tryz.sizeOf203
  v55 := Tryz.zeroValue203
  t66 := Tryz.underlying222
  a66 := Tryz.isAgg222
  z66 := Tryz.sizeOf222
  v66 := Tryz.zeroValue222
  t70 := Tryz.underlying226
  a70 := Tryz.isAgg226
  z70 := Tryz.sizeOf226
  v70 := Tryz.zeroValue226
  t76 := Tryz.underlying239
  a76 := Tryz.isAgg239
  z76 := Tryz.sizeOf239
  v76 := Tryz.zeroValue239
  t77 := Tryz.underlying240
  a77 := Tryz.isAgg240
  z77 := Tryz.sizeOf240
  v77 := Tryz.zeroValue240 }

/-! ### An element's cells -/

/-- The four cells of an element; its kind is not told. -/
def elCells (x : Op) (A : Option Addr) (c : Nat) : List Value := [.int .u32 x.id.t, .int .u8 x.id.r, .slice A x.pl.length c, .int .i64 x.pt]

def cEl : Codec Op where
  size := 4
  pos := by omega
  rd w S x cs := x.ok ∧ ∃ A c, x.pl.length ≤ c ∧ c ≤ maxLen ∧ cs = elCells x A c ∧ RS cRun w S A x.pl
  len h := by obtain ⟨_, A, c, _, _, e, _⟩ := h; rw [e]; rfl
  keep k h1 h := by obtain ⟨h0, A, c, a1, a2, e, hr⟩ := h; exact ⟨h0, A, c, a1, a2, e, hr.keep k h1⟩
  one h := by obtain ⟨_, A, c, _, _, e, _⟩ := h; rw [e]; intro u hu; simp [elCells] at hu; rcases hu with rfl | rfl | rfl | rfl <;> rfl

theorem R.el {w : World} {lo : Nat} {b off k : Nat} {l : List Op} {x : Op} (h : R cEl lo w (some ⟨b, off, none⟩) l) (hk : l[k]? = some x) :
    (lo ≤ b ∧ b < w.heap.size) ∧ x.ok ∧ ∃ A c, x.pl.length ≤ c ∧ c ≤ maxLen ∧ R cRun lo w A x.pl ∧ w.cell? ⟨b, off + k * 4, none⟩ = some (.int .u32 x.id.t) ∧ w.cell? ⟨b, off + k * 4 + 1, none⟩ = some (.int .u8 x.id.r) ∧
      w.cell? ⟨b, off + k * 4 + 2, none⟩ = some (.slice A x.pl.length c) ∧ w.cell? ⟨b, off + k * 4 + 3, none⟩ = some (.int .i64 x.pt) := by
  obtain ⟨h1, m, ⟨ho, A, c, a1, a2, rfl, hr⟩, ha⟩ := R.get h hk
  exact ⟨h1, ho, A, c, a1, a2, hr, (ha 0 _ rfl).1, (ha 1 _ rfl).1, (ha 2 _ rfl).1, (ha 3 _ rfl).1⟩

/-- The box of an element. -/
def ElBox (W : World) (Y : Nat) (x : Op) (A : Option Addr) (c : Nat) : Prop := At W Y 0 (elCells x A c)

section

variable {W W' : World} {Y c : Nat} {x : Op} {A : Option Addr}

theorem ElBox.new (w : World) (x : Op) (A : Option Addr) (c : Nat) (t : TypeId) : ElBox (w.alloc (.cells #[Value.int IntKind.u32 x.id.t, Value.int IntKind.u8 x.id.r, Value.slice A x.pl.length c, Value.int IntKind.i64 x.pt] t)) w.heap.size x A c := At.new w (elCells x A c) t

theorem ElBox.bl (h : ElBox W Y x A c) (hb : Bl W W') : ElBox W' Y x A c := At.bl h hb (by simp [elCells])

theorem ElBox.lt (h : ElBox W Y x A c) : Y < W.heap.size := At.lt h (by simp [elCells])

theorem ElBox.cells (h : ElBox W Y x A c) : W.cell? ⟨Y, 0, none⟩ = some (.int .u32 x.id.t) ∧ W.cell? ⟨Y, 1, none⟩ = some (.int .u8 x.id.r) ∧ W.cell? ⟨Y, 2, none⟩ = some (.slice A x.pl.length c) ∧ W.cell? ⟨Y, 3, none⟩ = some (.int .i64 x.pt) :=
  ⟨by simpa using (h 0 _ rfl).1, by simpa using (h 1 _ rfl).1, by simpa using (h 2 _ rfl).1, by simpa using (h 3 _ rfl).1⟩

theorem ElBox.frozens (h : ElBox W Y x A c) : W.frozen? ⟨Y, 0, none⟩ = false ∧ W.frozen? ⟨Y, 1, none⟩ = false ∧ W.frozen? ⟨Y, 2, none⟩ = false ∧ W.frozen? ⟨Y, 3, none⟩ = false :=
  ⟨by simpa using (h 0 _ rfl).2, by simpa using (h 1 _ rfl).2, by simpa using (h 2 _ rfl).2, by simpa using (h 3 _ rfl).2⟩

end

theorem Tryz.infoEl : (Tryz.prog.info? 53).map (fun i => (i.zero, i.size, i.bytes)) = some (some (.agg #[.int .u32 0, .int .u8 0, .slice none 0 0, .int .i64 0]), 4, 40) := by kernel_rfl

/-! ### Sorted, and searched -/
set_option maxRecDepth 100000 in
set_option maxHeartbeats 1000000 in
theorem elem1 (x y : Op) (A B : Option Addr) (c d : Nat) (w : World) (hx : OpIn w x A c) (hy : OpIn w y B d) :
    Calls Tryz.prog 63 #[.agg #[.int .u32 x.id.t, .int .u8 x.id.r, .slice A x.pl.length c, .int .i64 x.pt], .agg #[.int .u32 y.id.t, .int .u8 y.id.r, .slice B y.pl.length d, .int .i64 y.pt]] w fun e w' => e = .returned (.int .i64 (plCmp x.pl y.pl)) ∧ Bd w w' := by
  have hc := hide fun V (hv : Bl w V) => placeCompareD A B c d x.pl y.pl V hx.small hy.small (hx.hR.bl hv) (hy.hR.bl hv)
  obtain ⟨W, hW⟩ : ∃ W, W = (w.alloc (.cells #[Value.int IntKind.u32 x.id.t, Value.int IntKind.u8 x.id.r, Value.slice A x.pl.length c, Value.int IntKind.i64 x.pt] 53)).alloc (.cells #[Value.int IntKind.u32 y.id.t, Value.int IntKind.u8 y.id.r, Value.slice B y.pl.length d, Value.int IntKind.i64 y.pt] 53) := ⟨_, rfl⟩
  have hbW : Bd w W := by rw [hW]; exact ((Bd.refl _).alloc _).alloc _
  have at0 : ElBox W w.heap.size x A c := by rw [hW]; exact (ElBox.new w x A c _).bl ((Bl.refl _).alloc _)
  have at1 : ElBox W (w.heap.size + 1) y B d := by
    have h := ElBox.new (w.alloc (.cells #[Value.int IntKind.u32 x.id.t, Value.int IntKind.u8 x.id.r, Value.slice A x.pl.length c, Value.int IntKind.i64 x.pt] 53)) y B d 53
    rw [World.size_alloc w] at h
    rw [hW]
    exact h
  obtain ⟨x0, x1, x2, x3⟩ := at0.cells
  obtain ⟨y0, y1, y2, y3⟩ := at1.cells
  generalize plCmp x.pl y.pl = N at *
  go_enter Tryz.func63, Tryz.ntmps63
  go_wp2_with fail
  rw [← hW]
  clear hW
  refine (hc.out _ hbW.bl).mono ?_
  rintro e w1 ⟨rfl, hb1⟩
  go_wp2_with fail
  go_ret
  exact ⟨rfl, hbW.trans hb1⟩

theorem elemSort {base : Nat} {xs : List Op} {v : Value} {w : World} (hx : ∀ x ∈ xs, Mk x) (hown : Own cEl 53 base w v xs) (hl : xs.length ≤ 1048576) (hbase : base ≤ w.heap.size) :
    Calls Tryz.prog 62 #[v, .func (.func 63) #[] #[]] w fun e w' =>
      e = .returned (.tuple #[]) ∧ ∃ A c ys, v = .slice A xs.length c ∧ xs.length ≤ c ∧ c ≤ maxLen ∧ ys.Perm xs ∧ ys.Pairwise (fun a b => ¬ cmpIds (plAll b.pl) (plAll a.pl) < 0) ∧ R cEl base w' A ys ∧ Below base w w' := by
  by_cases hne : 0 < xs.length
  · obtain ⟨g, cap, cells, rfl, hb, hg, hc, hm, hr, hat⟩ := hown.pieces hne
    have eg : ∀ args w, (callFunc 63 args).run Tryz.prog w = .ok (.enter 63 args) w := enters_of Tryz.func63 (by kernel_rfl) rfl
    refine (sort_lists (C := cEl) sortE_lays Tryz.isAgg53 Tryz.sizeOf53 (fun a b => cmpIds (plAll a.pl) (plAll b.pl)) swoIds 63 eg base g cap hb hg (by omega) hne hr hat ?_).mono ?_
    · rintro W x y cx cy hxm hym - ⟨ox, S, sc, s1, s2, rfl, hS⟩ ⟨oy, T, tc, t1, t2, rfl, hT⟩ hsz
      have hcl := elem1 x y S T sc tc W ⟨ox, s1, s2, hS.up fun b hb => ⟨Nat.zero_le _, Nat.lt_of_lt_of_le hb.1.2 hsz⟩⟩ ⟨oy, t1, t2, hT.up fun b hb => ⟨Nat.zero_le _, Nat.lt_of_lt_of_le hb.1.2 hsz⟩⟩
      rw [plCmp_ids (mk_any (hx x hxm)) (mk_any (hx y hym))] at hcl
      exact hcl.mono fun e w' h => ⟨h.1, h.2.grow⟩
    · rintro e w' ⟨rfl, ys, h1, h2, h3, h4⟩
      exact ⟨rfl, _, cap, ys, rfl, hc, hm, h1, h2, h3, h4⟩
  · obtain rfl : xs = [] := List.eq_nil_of_length_eq_zero (by omega)
    obtain ⟨A, c, rfl, hr, h1, h2⟩ := hown.reads
    refine (AnyF.slices_SortFunc_none sortE_lays A c _ w).mono ?_
    rintro e w' ⟨rfl, rfl⟩
    exact ⟨rfl, A, c, [], rfl, h1, h2, List.Perm.refl _, List.Pairwise.nil, R.nil, Below.refl _ _⟩
set_option maxRecDepth 100000 in
set_option maxHeartbeats 1000000 in
theorem offset1 (x : Op) (A B : Option Addr) (c d : Nat) (p : List Run) (w : World) (hx : OpIn w x A c) (hp : p.length ≤ maxLen) (hB : R cRun 0 w B p) :
    Calls Tryz.prog 99 #[.agg #[.int .u32 x.id.t, .int .u8 x.id.r, .slice A x.pl.length c, .int .i64 x.pt], .slice B p.length d] w fun e w' => e = .returned (.int .i64 (plCmp x.pl p)) ∧ Bl w w' := by
  have hc := hide fun V (hv : Bl w V) => placeCompareD A B c d x.pl p V hx.small hp (hx.hR.bl hv) (hB.bl hv)
  obtain ⟨W, hW⟩ : ∃ W, W = w.alloc (.cells #[Value.int IntKind.u32 x.id.t, Value.int IntKind.u8 x.id.r, Value.slice A x.pl.length c, Value.int IntKind.i64 x.pt] 53) := ⟨_, rfl⟩
  have hbW : Bl w W := by rw [hW]; exact (Bl.refl _).alloc _
  have at0 : ElBox W w.heap.size x A c := by rw [hW]; exact ElBox.new w x A c _
  obtain ⟨x0, x1, x2, x3⟩ := at0.cells
  generalize plCmp x.pl p = N at *
  go_enter Tryz.func99, Tryz.ntmps99
  go_wp2_with fail
  rw [← hW]
  clear hW
  refine (hc.out _ hbW).mono ?_
  rintro e w1 ⟨rfl, hb1⟩
  go_wp2_with fail
  go_ret
  exact ⟨rfl, hbW.trans hb1.bl⟩

set_option maxRecDepth 100000 in
set_option maxHeartbeats 4000000 in
theorem elemSearch (A B : Option Addr) (c d : Nat) (l : List Op) (p : List Run) (w : World) (hl : l.length ≤ 1048576) (hA : R cEl 0 w A l) (hpl : p.length ≤ maxLen) (hB : R cRun 0 w B p) (hq : plAny p = true) (hmk : ∀ x ∈ l, Mk x) (hso : SrtP l) :
    Calls Tryz.prog 98 #[.slice A l.length c, .slice B p.length d, .func (.func 99) #[] #[]] w fun e w' => e = .returned (.tuple #[.int .i64 (posP l p), .bool (isP l p)]) ∧ Bl w w' := by
  obtain ⟨N, hN⟩ : ∃ N, N = posP l p := ⟨_, rfl⟩
  obtain ⟨T, hT⟩ : ∃ T, T = isP l p := ⟨_, rfl⟩
  rw [← hN, ← hT]
  have hpos := any_pos hq
  have hfin : ∀ i, i ≤ l.length → CutP l p i → N = i ∧ (i < l.length → ∀ x, l[i]? = some x → (decide (heldF x.pl p = 0)) = T) ∧ (l.length ≤ i → false = T) := fun i hi h => by
    have := is_of_cutP hmk hso hpos h
    rw [← hT] at this
    exact ⟨hN.trans (h.pos hi), this⟩
  replace hfin := hide hfin
  replace hso := hide hso
  replace hmk := hide hmk
  replace hpos := hide hpos
  replace hq := hide hq
  clear hN hT
  go_enter Tryz.func98, Tryz.ntmps98
  go_wp2_with fail
  go_loopw [9, 10] (fun i j wr => Bl w wr ∧ ∃ (a z : Nat), a ≤ z ∧ z ≤ l.length ∧ i = .int .i64 a ∧ j = .int .i64 z ∧ Hid ((∀ k x, k < a → l[k]? = some x → heldF x.pl p < 0) ∧ (∀ k x, z ≤ k → l[k]? = some x → 0 ≤ heldF x.pl p))) (fun i j _ => (intOf j).toNat - (intOf i).toNat)
  case atStart =>
    exact ⟨Bl.refl _, 0, l.length, Nat.zero_le _, Nat.le_refl _, rfl, rfl, fun k x hk => by omega, fun k x hk hx => by have := (List.getElem?_eq_some_iff.1 hx).1; omega⟩
  case round =>
    obtain ⟨hbl, a, z, haz, hz, rfl, rfl, hcut⟩ := hrel
    by_cases hlt : a < z
    · obtain ⟨m, hm⟩ : ∃ m, m = (a + z) / 2 := ⟨_, rfl⟩
      have hR := hA.bl hbl
      obtain ⟨b, off, rfl, _, hb⟩ := hR.addr (by omega)
      obtain ⟨x, hx⟩ := get_lt (show m < l.length by omega)
      obtain ⟨_, ho, S, sc, hcd, hdm, hS, c0, c1, c2, c3⟩ := hR.el hx
      have hai : (a : Int) < (z : Int) := by omega
      have hmi : (m : Int) < (l.length : Int) := by omega
      have hmm : ((a : Int) + (z : Int)) / 2 = (m : Int) := by omega
      have hm1 : a ≤ m := by omega
      have hm2 : m < z := by omega
      replace hm := hide hm
      have hcl := offset1 x S B sc d p wr ⟨ho, hcd, hdm, hS⟩ hpl (hB.bl hbl)
      rw [mk_cmp (hmk.out x (List.mem_of_getElem? hx)) hq.out] at hcl
      by_cases e1 : heldF x.pl p < 0
      · have g := hide (show ∀ k y, k < m + 1 → l[k]? = some y → heldF y.pl p < 0 from fun k y hk hy => by
          by_cases h : k = m
          · subst h; rw [hx] at hy; cases hy; exact e1
          · exact held_tr (hmk.out y (List.mem_of_getElem? hy)) (hmk.out x (List.mem_of_getElem? hx)) hpos.out (hso.out.get hy hx (by omega)) (by omega))
        have hd : decide (heldF x.pl p < 0) = true := decide_eq_true e1
        generalize heldF x.pl p = q at *
        replace hcl := hide hcl
        clear hx
        go_wp2_with fail
        refine hcl.out.mono ?_
        rintro e w2 ⟨rfl, hb2⟩
        go_wp2_with fail
        go_roundw
        case rel => exact ⟨hbl.trans hb2, m + 1, z, by omega, hz, by go_num, rfl, g.out, hcut.out.2⟩
        case measure => simp [intOf]; omega
      · have g := hide (show ∀ k y, m ≤ k → l[k]? = some y → 0 ≤ heldF y.pl p from fun k y hk hy => by
          by_cases h : k = m
          · subst h; rw [hx] at hy; cases hy; omega
          · have := held_tr2 (hmk.out x (List.mem_of_getElem? hx)) (hmk.out y (List.mem_of_getElem? hy)) hpos.out (hso.out.get hx hy (by omega)) (by omega)
            omega)
        have hd : decide (heldF x.pl p < 0) = false := decide_eq_false e1
        generalize heldF x.pl p = q at *
        replace hcl := hide hcl
        clear hx
        go_wp2_with fail
        refine hcl.out.mono ?_
        rintro e w2 ⟨rfl, hb2⟩
        go_wp2_with fail
        go_roundw
        case rel => exact ⟨hbl.trans hb2, a, m, by omega, by omega, rfl, rfl, hcut.out.1, g.out⟩
        case measure => simp [intOf]; omega
    · obtain rfl : a = z := by omega
      obtain ⟨hNp, hT1, hT2⟩ := hfin.out a hz ⟨hcut.out.1, hcut.out.2⟩
      subst hNp
      by_cases hpn : N < l.length
      · have hR := hA.bl hbl
        obtain ⟨b, off, rfl, _, hb⟩ := hR.addr (by omega)
        obtain ⟨x, hx⟩ := get_lt hpn
        obtain ⟨_, ho, S, sc, hcd, hdm, hS, c0, c1, c2, c3⟩ := hR.el hx
        have hni : (N : Int) < (l.length : Int) := by omega
        have hd := hT1 hpn x hx
        have hcl := offset1 x S B sc d p wr ⟨ho, hcd, hdm, hS⟩ hpl (hB.bl hbl)
        rw [mk_cmp (hmk.out x (List.mem_of_getElem? hx)) hq.out] at hcl
        have hz2 : (heldF x.pl p == 0) = T := by rw [← hd]; by_cases h : heldF x.pl p = 0 <;> simp [h]
        generalize heldF x.pl p = q at hcl hz2
        replace hcl := hide hcl
        have hpd : decide ((N : Int) < (l.length : Int)) = true := by simpa using hni
        clear hd hx hT1 hT2 hcut
        go_wp2_with fail
        refine hcl.out.mono ?_
        rintro e w2 ⟨rfl, hb2⟩
        go_wp2_with fail
        go_ret2
        exact ⟨rfl, hbl.trans hb2⟩
      · have hpd : decide ((N : Int) < (l.length : Int)) = false := by simp; omega
        have g := hide (hT2 (by omega))
        clear hT1 hT2 hcut
        go_wp2_with fail
        go_ret2
        rw [g.out]
        exact ⟨rfl, hbl⟩
end Go.Proofs.YteoodmilcpmmpaaGreat

namespace Go.Proofs.YteoodmilcpmmpaaGreat
open Go.RowKit

/-- Which stamps are gone. -/
def goneN (c : List Op) (s : Id) : Int := if goneF c s then 1 else 0

theorem gone_take {c : List Op} {k : Nat} {x : Op} (h : c[k]? = some x) (s : Id) : goneF (c.take (k + 1)) s = (goneF (c.take k) s || (decide (x.kind = 3) && decide (placeFin x.pl = s))) := by
  unfold goneF
  rw [take_snoc h, List.any_append]
  simp

theorem gone_put {c : List Op} {k : Nat} {x : Op} (h : c[k]? = some x) (e : x.kind = 3) (s : Id) : goneN (c.take (k + 1)) s = if s = placeFin x.pl then 1 else goneN (c.take k) s := by
  unfold goneN
  rw [gone_take h, decide_eq_true e, Bool.true_and]
  by_cases e2 : s = placeFin x.pl
  · subst e2
    simp
  · have e3 : ¬ placeFin x.pl = s := fun h => e2 h.symm
    simp [e2, e3]

theorem gone_same {c : List Op} {k : Nat} {x : Op} (h : c[k]? = some x) (e : x.kind ≠ 3) : goneN (c.take (k + 1)) = goneN (c.take k) := funext fun s => by
  unfold goneN
  rw [gone_take h, decide_eq_false e, Bool.false_and, Bool.or_false]

/-- What is seen of a section; nothing, if it is none. -/
def viewL (l : List Op) (s : Id) : List Op := if whereN l s 0 = 0 then elemsL l s else []

theorem cnt_sub {l : List Op} {s : Id} {x : Op} (h : x ∈ cntL l s) : x ∈ l := by
  unfold cntL at h
  split at h
  · exact count_sub h
  · cases h

theorem cnt_len (l : List Op) (s : Id) : (cntL l s).length ≤ l.length := by
  unfold cntL
  split
  · exact Nat.le_trans (List.length_filter_le _ _) (List.length_filter_le _ _)
  · simp

theorem view_sorted {l : List Op} {s : Id} {ys : List Op} (h : whereN l s 0 = 0) (hp : ys.Perm (shownL (cntL l s))) (hs : ys.Pairwise fun a b => ¬ cmpIds (plAll b.pl) (plAll a.pl) < 0) : ys = viewL l s := by
  have hb := (where_zero h).1
  unfold viewL elemsL seenL
  unfold cntL at hp
  rw [if_pos h] at hp ⊢
  exact sorted_fold (shown_mk hb) (shown_ids hb) hp hs

/-- A row of the call's own, from base on, whose elements' lists stand from lo on. -/
def OwnC {α : Type} (C : Codec α) (e : TypeId) (lo base : Nat) (w : World) (v : Value) (xs : List α) : Prop := Own C e lo w v xs ∧ ∀ b, v.ownBlock = some b → base ≤ b

section

variable {α : Type} {C : Codec α} {e : TypeId} {lo base : Nat} {w w' : World} {v v' : Value} {xs ys : List α} {x : α}

theorem OwnC.nil : OwnC C e lo base w (.slice none 0 0) [] := ⟨Own.nil, fun b h => by cases h⟩

theorem OwnC.bl (h : OwnC C e lo base w v xs) (hb : Bl w w') : OwnC C e lo base w' v xs := ⟨h.1.bl hb, h.2⟩

theorem OwnC.app {a b c : World} (h : Bl a b) (ho : OwnC C e lo base b v xs) (hb : a.heap.size ≤ base) (hg : b.grownBy c v.ownBlock) : Bl a c := Below.grown h hg h.size (fun k hk => Nat.le_trans hb (ho.2 k hk))

theorem OwnC.next (ho : OwnC C e lo base w v xs) (hb : base ≤ w.heap.size) (h2 : Own C e lo w' v' ys) (hf : Far w v w' v') : OwnC C e lo base w' v' ys :=
  ⟨h2, fun b hb2 => Nat.le_of_not_lt fun hlt => (hf.2 b (Nat.lt_of_lt_of_le hlt hb) (fun e => by have := ho.2 b e; omega)).2 hb2⟩

theorem OwnC.src {w0 : World} {cs : List Value} {t : TypeId} (ho : OwnC C e lo base w v xs) (hb : Bl w0 w) (hbase : w0.heap.size ≤ base) (h : C.rd w0 (Fresh lo w0) x cs) :
    ∃ news, RdL C (w.alloc (.cells cs.toArray t)) (fun b => (lo ≤ b ∧ b < (w.alloc (.cells cs.toArray t)).heap.size) ∧ v.ownBlock ≠ some b) [x] news ∧ (∀ ad, some (⟨w.heap.size, 0, none⟩ : Addr) = some ad → ∀ (j : Nat) (u : Value), news[j]? = some u → (w.alloc (.cells cs.toArray t)).cell? (ad.add j) = some u) ∧ (some (⟨w.heap.size, 0, none⟩ : Addr) = none → [x] = []) := by
  refine ⟨cs, RdL.one1 (C.keep (((hb.alloc _)).keeps fun b h => h.2) (fun b h => ⟨⟨h.1, Nat.lt_of_lt_of_le h.2 (hb.alloc _).size⟩, fun e => ?_⟩) h), fun ad e j u hu => ?_, fun e => by cases e⟩
  · have := ho.2 b e
    have := h.2
    omega
  cases e
  have hadd : (⟨w.heap.size, 0, none⟩ : Addr).add j = ⟨w.heap.size, j, none⟩ := by
    unfold Addr.add
    split
    · rename_i h0; subst h0; rfl
    · simp
  rw [hadd, cell_of_row _ w.heap.size j cs.toArray t (0, 0) (heap_alloc_new w _)]
  simpa using hu

end

set_option maxRecDepth 100000 in
set_option maxHeartbeats 8000000 in
theorem viewElements (A : Option Addr) (c : Nat) (l : List Op) (s : Id) (w : World) (hl : l.length ≤ 1048576) (hA : R cOp 0 w A l) :
    Calls Tryz.prog 19 #[.slice A l.length c, .agg #[.int .u32 s.t, .int .u8 s.r]] w (New2 cEl (viewL l s) (whereN l s 0) w) := by
  have hmkm : ∀ V : World, (Instr.makeMap 100 none).run Tryz.prog V = .ok (.map (some V.heap.size)) (V.alloc (.map #[] 0)) := fun _ => rfl
  have hb0 : Bl w (w.alloc (.cells #[Value.int IntKind.u32 s.t, Value.int IntKind.u8 s.r] 25)) := (Bl.refl _).alloc _
  have hco := hide (coverCounts A c l s _ hl (hA.bl hb0))
  obtain ⟨L, hL⟩ : ∃ L, L = viewL l s := ⟨_, rfl⟩
  rw [← hL]
  by_cases hN : whereN l s 0 = 0
  rotate_left
  · have e1 : L = [] := by rw [hL]; unfold viewL; rw [if_neg hN]
    subst e1
    have hNz : (whereN l s 0 == 0) = false := by rw [beq_eq_false_iff_ne]; exact hN
    generalize whereN l s 0 = N at *
    generalize cntL l s = C at *
    clear hL
    go_enter Tryz.func19, Tryz.ntmps19
    go_wp2_with fail
    refine hco.out.mono ?_
    rintro e w1 ⟨B, d, rfl, q1, q2, hB, hb1⟩
    go_wp2_with fail
    go_ret2
    exact ⟨none, 0, rfl, Nat.le_refl _, Nat.zero_le _, R.nil, hb0.trans hb1⟩
  have hbm := (where_zero hN).1
  have hsrt := hide fun (ys : List Op) (hp : ys.Perm (shownL (cntL l s))) (hs : ys.Pairwise fun a b => ¬ cmpIds (plAll b.pl) (plAll a.pl) < 0) => (view_sorted hN hp hs).trans hL.symm
  have hmk := hide (show ∀ x ∈ shownL (cntL l s), Mk x by unfold cntL; rw [if_pos hN]; exact shown_mk hbm)
  have hcl : (cntL l s).length ≤ 1048576 := Nat.le_trans (cnt_len l s) hl
  rw [hN] at hco ⊢
  clear hN hbm hL
  generalize cntL l s = C at *
  obtain ⟨i0, hi, hz0, hz1, hz2⟩ := info_parts Tryz.infoEl
  go_enter Tryz.func19, Tryz.ntmps19
  go_wp2_with fail
  refine hco.out.mono ?_
  rintro e w1 ⟨B, d, rfl, d1, d2, hB, hb1⟩
  clear hco
  have hB0 := hB
  replace hB := hB.zero
  have hbw1 := hb0.trans hb1
  go_wp2_with fail
  go_loopw [24] (fun i wr => Bl w1 wr ∧ ∃ k : Nat, k ≤ C.length ∧ i = .int .i64 k ∧ IdInt wr w1.heap.size k (goneN (C.take k))) (fun i _ => C.length - (intOf i).toNat)
  case atStart => exact ⟨(Bl.refl _).alloc _, 0, Nat.zero_le _, rfl, IdInt.made w1⟩
  case round =>
    obtain ⟨hbl, k, hk, rfl, hset⟩ := hrel
    by_cases hlt : k < C.length
    · have hR := hB.bl hbl
      obtain ⟨b, off, rfl, _, hb⟩ := hR.addr (by omega)
      obtain ⟨x, hx⟩ := get_lt hlt
      obtain ⟨_, ho, S, sc, s1, s2, hS, c0, c1, c2, c3, c4⟩ := hR.op hx
      have hki : (k : Int) < (C.length : Int) := by omega
      by_cases hk3 : x.kind = 3
      · have hV : Bl wr (wr.alloc (.cells #[Value.int IntKind.u8 3, Value.int IntKind.u32 x.id.t, Value.int IntKind.u8 x.id.r, Value.slice S x.pl.length sc, Value.int IntKind.i64 x.pt] 47)) := (Bl.refl _).alloc _
        have hla := hide (placeLast S sc x.pl _ (Nat.le_trans s1 s2) (hS.bl hV))
        have hfo := fin_ok hS
        have hm1 := hide (hset.bl hV)
        have hge := hide (gone_put hx hk3)
        have hblV := hbl.trans hV
        clear hx hset
        generalize placeFin x.pl = f at *
        go_wp2_with fail
        refine hla.out.mono ?_
        rintro e w4 ⟨rfl, hb4⟩
        obtain ⟨w5, hup, hm5, hg5⟩ := (hm1.out.bl hb4).put (g := goneN (C.take (k + 1))) hfo (by unfold maxLen; omega) hge.out
        have hbl4 := hblV.trans hb4
        have hbl5 : Bl w1 w5 := Below.grown hbl4 hg5 hbl4.size (fun j hj => by cases hj; exact Nat.le_refl _)
        have hfin := hide (And.intro hbl5 hm5)
        clear hm5 hg5 hbl5 hm1 hge
        go_wp2
        go_roundw
        case rel => exact ⟨hfin.out.1, k + 1, by omega, by go_num, hfin.out.2⟩
        case measure => simp [intOf]; omega
      · have hfin := hide (show Bl w1 (wr.alloc (.cells #[Value.int IntKind.u8 x.kind, Value.int IntKind.u32 x.id.t, Value.int IntKind.u8 x.id.r, Value.slice S x.pl.length sc, Value.int IntKind.i64 x.pt] 47)) ∧ IdInt (wr.alloc (.cells #[Value.int IntKind.u8 x.kind, Value.int IntKind.u32 x.id.t, Value.int IntKind.u8 x.id.r, Value.slice S x.pl.length sc, Value.int IntKind.i64 x.pt] 47)) w1.heap.size (k + 1) (goneN (C.take (k + 1))) from ⟨hbl.alloc _, by
          have h1 := (hset.bl ((Bl.refl wr).alloc (.cells #[Value.int IntKind.u8 x.kind, Value.int IntKind.u32 x.id.t, Value.int IntKind.u8 x.id.r, Value.slice S x.pl.length sc, Value.int IntKind.i64 x.pt] 47))).mono (Nat.le_succ k)
          rw [gone_same hx hk3]
          exact h1⟩)
        have hk3b : (x.kind == 3) = false := by simp [hk3]
        clear hset hx hk3
        go_wp2
        go_roundw
        case rel => exact ⟨hfin.out.1, k + 1, by omega, by go_num, hfin.out.2⟩
        case measure => simp [intOf]; omega
    · have hkl : k = C.length := by omega
      rw [hkl, List.take_length] at hset
      have hset := hide hset
      replace hkl := hide hkl
      have hki : ¬ (k : Int) < (C.length : Int) := by omega
      obtain ⟨w2, rfl⟩ : ∃ w2, w2 = wr := ⟨_, rfl⟩
      have hb12 := hbw1.trans hbl
      go_wp2_with fail
      have hB2 := hB0.bl hbl
      have hbw2 := hbw1.trans hbl
      have hwm : w1.heap.size < w2.heap.size := hset.out.lt
      go_loopw [4, 38] (fun v i wr => Bl w2 wr ∧ ∃ k : Nat, k ≤ C.length ∧ i = .int .i64 k ∧ OwnC cEl 53 w.heap.size w2.heap.size wr v ((C.take k).filter fun o => decide (o.kind = 1) && !goneF C o.id)) (fun _ i _ => C.length - (intOf i).toNat)
      case atStart => exact ⟨Bl.refl _, 0, Nat.zero_le _, rfl, OwnC.nil⟩
      case round =>
        clear hkl hlt hki hk hbl hb12
        obtain ⟨hbl, k, hk, rfl, hown⟩ := hrel
        by_cases hlt : k < C.length
        · obtain ⟨b, off, rfl, _, hb⟩ := hB2.addr (by omega)
          obtain ⟨x, hx⟩ := get_lt hlt
          obtain ⟨hbb, ho, S, sc, s1, s2, hS, a0, a1, a2, a3, a4⟩ := hB2.op hx
          have c0 := (hbl.cell hbb.2).trans a0
          have c1 := (hbl.cell hbb.2).trans a1
          have c2 := (hbl.cell hbb.2).trans a2
          have c3 := (hbl.cell hbb.2).trans a3
          have c4 := (hbl.cell hbb.2).trans a4
          clear a0 a1 a2 a3 a4
          have hki : (k : Int) < (C.length : Int) := by omega
          have htk := marked_take hx (fun o => decide (o.kind = 1) && !goneF C o.id)
          have hV : Bl wr (wr.alloc (.cells #[Value.int IntKind.u8 x.kind, Value.int IntKind.u32 x.id.t, Value.int IntKind.u8 x.id.r, Value.slice S x.pl.length sc, Value.int IntKind.i64 x.pt] 47)) := (Bl.refl _).alloc _
          have hlook := hset.out.look (s := x.id) ho.2.1 _ (hbl.trans hV)
          have hlen : ((C.take k).filter fun o => decide (o.kind = 1) && !goneF C o.id).length ≤ 1048576 := by
            have h1 := List.length_filter_le (fun o => decide (o.kind = 1) && !goneF C o.id) (C.take k)
            rw [List.length_take] at h1
            omega
          have hV2 := hown.bl hV
          have hbV := hbl.trans hV
          have hszV := hbV.size
          have hsrcV := fun (t : TypeId) => hV2.src (t := t) (x := x) (cs := elCells x S sc) hbV (Nat.le_refl _) ⟨ho, S, sc, s1, s2, rfl, hS.more hb0.size⟩
          unfold goneN at hlook
          by_cases h1 : x.kind = 1
          · have e1 : (x.kind == 1) = true := by simp [h1]
            rw [decide_eq_true h1, Bool.true_and] at htk
            cases hq : goneF C x.id
            · rw [hq] at hlook htk
              rw [if_neg (by simp)] at hlook
              rw [if_pos (by rfl)] at htk
              replace htk := hide htk
              have hsrc := hide (hsrcV 53)
              generalize ((C.take k).filter fun o => decide (o.kind = 1) && !goneF C o.id) = F at *
              replace hV2 := hide hV2
              replace h1 := hide h1
              have q1 : F.length + [x].length ≤ maxLen := by rw [List.length_singleton]; unfold maxLen; omega
              have q2 : (F.length + [x].length) * 40 ≤ 140737488355328 := by rw [List.length_singleton]; omega
              clear hq hown hx hsrcV hS
              obtain ⟨V, hVe⟩ : ∃ V, V = wr.alloc (.cells #[Value.int IntKind.u8 x.kind, Value.int IntKind.u32 x.id.t, Value.int IntKind.u8 x.id.r, Value.slice S x.pl.length sc, Value.int IntKind.i64 x.pt] 47) := ⟨_, rfl⟩
              rw [← hVe] at hV2 hbV hszV hsrc hV
              have hVs : V.heap.size = wr.heap.size + 1 := by rw [hVe, World.size_alloc]
              rw [hVs] at hsrc
              replace hVe := hide hVe
              go_wp2_with (at_builtin; refine Hid.out ?_)
              rw [← hVe.out]
              refine hide ?_
              have hown5 := hV2.out.bl ((Bl.refl V).alloc (.cells #[Value.int IntKind.u32 x.id.t, Value.int IntKind.u8 x.id.r, Value.slice S x.pl.length sc, Value.int IntKind.i64 x.pt] 53))
              have q3 : w.heap.size ≤ (V.alloc (.cells #[Value.int IntKind.u32 x.id.t, Value.int IntKind.u8 x.id.r, Value.slice S x.pl.length sc, Value.int IntKind.i64 x.pt] 53)).heap.size := by rw [World.size_alloc]; have := hbw2.size; omega
              have q4 : w2.heap.size ≤ (V.alloc (.cells #[Value.int IntKind.u32 x.id.t, Value.int IntKind.u8 x.id.r, Value.slice S x.pl.length sc, Value.int IntKind.i64 x.pt] 53)).heap.size := by rw [World.size_alloc]; omega
              refine wpList_append_any2 (C := cEl) (xs := F) (ys := [x]) rfl (.tmp 52) (.tmp 60) _ rfl 53 i0 _ 40 Tryz.underlying48 hi hz0 hz1 hz2 rfl _ w.heap.size rfl hown5.1 (some ⟨wr.heap.size + 1, 0, none⟩) 1 1 rfl rfl hsrc.out q1 q2 q3 ?_
              intro v9 w9 hown9 hg9 hf9
              have hb9 : Bl w2 w9 := OwnC.app (hbV.alloc _) hown5 (Nat.le_refl _) hg9
              have hn9 := hide (hown5.next q4 hown9 hf9)
              clear hown5 hsrc q1 q2 q3 q4 hg9 hf9 hown9
              go_wp2_with fail
              go_roundw
              case rel => exact ⟨hb9, k + 1, by omega, by go_num, by rw [htk.out]; exact hn9.out⟩
              case measure => simp [intOf]; omega
            · rw [hq] at hlook htk
              rw [if_pos rfl] at hlook
              rw [if_neg (by simp)] at htk
              replace htk := hide htk
              have hfin := hide (And.intro hbV hV2)
              replace h1 := hide h1
              clear hq hown hx hV2 hsrcV hS
              go_wp2
              go_roundw
              case rel => exact ⟨hfin.out.1, k + 1, by omega, by go_num, by rw [htk.out]; exact hfin.out.2⟩
              case measure => simp [intOf]; omega
          · have e1 : (x.kind == 1) = false := by simp [h1]
            rw [decide_eq_false h1, Bool.false_and, if_neg (by simp)] at htk
            replace htk := hide htk
            have hfin := hide (And.intro hbV hV2)
            replace h1 := hide h1
            clear hlook hown hx hV2 hsrcV hS
            go_wp2
            go_roundw
            case rel => exact ⟨hfin.out.1, k + 1, by omega, by go_num, by rw [htk.out]; exact hfin.out.2⟩
            case measure => simp [intOf]; omega
        · have hkl : k = C.length := by omega
          subst hkl
          rw [List.take_length] at hown
          have hms : (shownL C).length ≤ 1048576 := Nat.le_trans (List.length_filter_le _ _) hcl
          have hso := hide (elemSort (base := w.heap.size) (xs := shownL C) hmk.out hown.1 hms (Nat.le_trans hbw1.size (Nat.le_trans (Nat.le_of_lt hwm) hbl.size)))
          have hki : ¬ ((C.length : Int) < (C.length : Int)) := by omega
          clear hown
          go_wp2_with fail
          refine hso.out.mono ?_
          rintro e w5 ⟨rfl, X, x, ys, hvx, x1, x2, hper, hpw, hX, hb5⟩
          subst hvx
          have hye := hsrt.out ys hper hpw
          have hle := hper.length_eq
          rw [hye] at hle hX
          clear hper hpw hso
          rw [← hle] at x1 ⊢
          clear hle hms
          go_wp2_with fail
          go_ret2
          exact ⟨X, x, rfl, x1, x2, hX, (hbw2.trans hbl).step hb5⟩
end Go.Proofs.YteoodmilcpmmpaaGreat

namespace Go.Proofs.YteoodmilcpmmpaaGreat
open Go.RowKit

theorem elems_small {l : List Op} {s : Id} : (viewL l s).length ≤ l.length := by
  unfold viewL
  split
  · unfold elemsL seenL
    rw [foldl_len]
    have h1 := List.length_filter_le (fun o => decide (o.kind = 1) && !goneF (countL l s) o.id) (countL l s)
    have h2 : (countL l s).length ≤ l.length := Nat.le_trans (List.length_filter_le _ _) (List.length_filter_le _ _)
    unfold shownL
    simp
    omega
  · simp

/-! ### view.Offset -/

def offN (l : List Op) (s : Id) (p : List Run) : Int := if whereN l s 0 = 0 then okOr 8 (plAny p) else whereN l s 0

def offK (l : List Op) (s : Id) (p : List Run) : Int := if offN l s p = 0 then (posP (elemsL l s) p : Int) else 0

theorem view_zero {l : List Op} {s : Id} (h : whereN l s 0 = 0) : viewL l s = elemsL l s := by
  unfold viewL
  rw [if_pos h]

set_option maxRecDepth 100000 in
set_option maxHeartbeats 4000000 in
theorem viewOffset (A B : Option Addr) (c d : Nat) (l : List Op) (s : Id) (p : List Run) (w : World) (hl : l.length ≤ 1048576) (hp : p.length ≤ maxLen) (hA : R cOp 0 w A l) (hB : R cRun 0 w B p) :
    Calls Tryz.prog 43 #[.slice A l.length c, .agg #[.int .u32 s.t, .int .u8 s.r], .slice B p.length d] w fun e w' => e = .returned (.tuple #[.int .i64 (offK l s p), .int .i64 (offN l s p)]) ∧ Bl w w' := by
  have hb0 : Bl w (w.alloc (.cells #[Value.int IntKind.u32 s.t, Value.int IntKind.u8 s.r] 25)) := (Bl.refl _).alloc _
  have hel := hide (viewElements A c l s _ hl (hA.bl hb0))
  have hchk := fun V (hv : Bl w V) => placeCheck B d p V hp (hB.bl hv)
  obtain ⟨K, hK⟩ : ∃ K, K = offK l s p := ⟨_, rfl⟩
  obtain ⟨N, hN⟩ : ∃ N, N = offN l s p := ⟨_, rfl⟩
  rw [← hK, ← hN]
  unfold offK at hK
  rw [← hN] at hK
  unfold offN at hN
  by_cases hw : whereN l s 0 = 0
  · rw [if_pos hw] at hN
    have hvz := view_zero hw
    have hbm := (where_zero hw).1
    rw [hw] at hel
    have hsmall : (viewL l s).length ≤ 1048576 := Nat.le_trans elems_small hl
    have hmk : ∀ x ∈ viewL l s, Mk x := by rw [hvz]; exact elems_mk hbm
    have hso : SrtP (viewL l s) := by rw [hvz]; exact elems_srt hbm
    rw [← hvz] at hK
    generalize viewL l s = E at *
    clear hw hvz hbm
    cases h2 : plAny p
    · rw [h2] at hN
      have e2 : N = 8 := hN
      subst e2
      have e1 : K = 0 := by rw [hK, if_neg (by omega)]
      subst e1
      have hpm : placeMay p = false := by
        unfold plAny at h2
        rw [Bool.or_eq_false_iff] at h2
        exact h2.2
      have hpl : 0 < p.length := by
        unfold plAny at h2
        rw [Bool.or_eq_false_iff, decide_eq_false_iff_not] at h2
        omega
      have hpi : (0 : Int) < (p.length : Int) := by omega
      rw [hpm] at hchk
      replace hchk := hide hchk
      clear hN hK h2 hpm hmk hso
      go_enter Tryz.func43, Tryz.ntmps43
      go_wp2_with fail
      refine hel.out.mono ?_
      rintro e w1 ⟨X, x, rfl, x1, x2, hX, hb1⟩
      go_wp2_with fail
      refine (hchk.out _ (hb0.trans hb1)).mono ?_
      rintro e w2 ⟨rfl, hb2⟩
      have e8 : okOr 8 false = 8 := rfl
      rw [e8]
      go_wp2_with fail
      go_ret2
      exact ⟨rfl, (hb0.trans hb1).trans hb2⟩
    · rw [h2] at hN
      have e2 : N = 0 := hN
      subst e2
      rw [if_pos rfl] at hK
      have hse := hide fun (X : Option Addr) (x : Nat) V (hv : Bl w V) (hX : R cEl 0 V X E) => elemSearch X B x d E p V hsmall hX hp (hB.bl hv) h2 hmk hso
      rw [← hK] at hse
      by_cases hp0 : p.length = 0
      · have hpi : ¬ (0 : Int) < (p.length : Int) := by omega
        have hpd : decide ((0 : Int) < (p.length : Int)) = false := decide_eq_false hpi
        replace hp0 := hide hp0
        clear hN hK h2 hchk hmk hso
        go_enter Tryz.func43, Tryz.ntmps43
        go_wp2_with fail
        refine hel.out.mono ?_
        rintro e w1 ⟨X, x, rfl, x1, x2, hX, hb1⟩
        have hc1 := hide (hse.out X x w1 (hb0.trans hb1) hX.zero)
        go_wp2_with fail
        refine hc1.out.mono ?_
        rintro e w2 ⟨rfl, hb2⟩
        go_wp2_with fail
        go_ret2
        exact ⟨rfl, (hb0.trans hb1).trans hb2⟩
      · have hpm : placeMay p = true := by
          unfold plAny at h2
          rw [decide_eq_false hp0, Bool.false_or] at h2
          exact h2
        rw [hpm] at hchk
        replace hchk := hide hchk
        have hpi : (0 : Int) < (p.length : Int) := by omega
        replace hp0 := hide hp0
        clear hN hK h2 hpm hmk hso
        go_enter Tryz.func43, Tryz.ntmps43
        go_wp2_with fail
        refine hel.out.mono ?_
        rintro e w1 ⟨X, x, rfl, x1, x2, hX, hb1⟩
        go_wp2_with fail
        refine (hchk.out _ (hb0.trans hb1)).mono ?_
        rintro e w2 ⟨rfl, hb2⟩
        have e8 : okOr 8 true = 0 := rfl
        rw [e8]
        have hbw2 := (hb0.trans hb1).trans hb2
        have hc1 := hide (hse.out X x w2 hbw2 (hX.bl hb2).zero)
        go_wp2_with fail
        refine hc1.out.mono ?_
        rintro e w3 ⟨rfl, hb3⟩
        go_wp2_with fail
        go_ret2
        exact ⟨rfl, hbw2.trans hb3⟩
  · rw [if_neg hw] at hN
    have hNz : (N == 0) = false := by rw [beq_eq_false_iff_ne, hN]; exact hw
    have hN0 : N ≠ 0 := by rw [hN]; exact hw
    rw [if_neg hN0] at hK
    subst hK
    rw [← hN] at hel
    clear hN hw hchk
    generalize viewL l s = E at *
    go_enter Tryz.func43, Tryz.ntmps43
    go_wp2_with fail
    refine hel.out.mono ?_
    rintro e w1 ⟨X, x, rfl, x1, x2, hX, hb1⟩
    go_wp2_with fail
    go_ret2
    exact ⟨rfl, hb0.trans hb1⟩
/-! ### view.At -/

def atN (l : List Op) (s : Id) (k : Int) : Int := if whereN l s 0 = 0 then (if k < 0 ∨ ((viewL l s).length : Int) ≤ k then 2 else 0) else whereN l s 0

def atX (l : List Op) (s : Id) (k : Int) : Op := if atN l s k = 0 then ((viewL l s)[k.toNat]?).getD zeroOp else zeroOp

theorem at_zero {l : List Op} {s : Id} {k : Int} (h : atN l s k = 0) : whereN l s 0 = 0 ∧ 0 ≤ k ∧ k < ((viewL l s).length : Int) ∧ (viewL l s)[k.toNat]? = some (atX l s k) := by
  have h0 := h
  unfold atN at h
  by_cases hw : whereN l s 0 = 0
  · rw [if_pos hw] at h
    by_cases hk : k < 0 ∨ ((viewL l s).length : Int) ≤ k
    · rw [if_pos hk] at h
      omega
    · obtain ⟨x, hx⟩ := get_lt (l := viewL l s) (k := k.toNat) (by omega)
      refine ⟨hw, by omega, by omega, ?_⟩
      unfold atX
      rw [if_pos h0, hx]
      rfl
  · rw [if_neg hw] at h
    exact absurd h hw

theorem at_mk {l : List Op} {s : Id} {k : Int} (h : atN l s k = 0) : Mk (atX l s k) := by
  obtain ⟨hw, _, _, hx⟩ := at_zero h
  rw [view_zero hw] at hx
  exact elems_mk (where_zero hw).1 _ (List.mem_of_getElem? hx)

theorem at_place {l : List Op} {s : Id} {k : Int} : (atX l s k).pl.length ≤ 64 := by
  by_cases h : atN l s k = 0
  · exact (placeMay_parts (at_mk h).may).2.1
  · unfold atX
    rw [if_neg h]
    exact Nat.zero_le _

/-- What hands back an element, and an error. -/
def El2 (x : Op) (n : Int) (w : World) (e : Ending) (w' : World) : Prop := ∃ A c, e = .returned (.tuple #[.agg #[.int .u32 x.id.t, .int .u8 x.id.r, .slice A x.pl.length c, .int .i64 x.pt], .int .i64 n]) ∧ x.pl.length ≤ c ∧ c ≤ maxLen ∧ R cRun w.heap.size w' A x.pl ∧ Bl w w'

set_option maxRecDepth 100000 in
set_option maxHeartbeats 4000000 in
theorem viewAt (A : Option Addr) (c : Nat) (l : List Op) (s : Id) (k : Int) (w : World) (hl : l.length ≤ 1048576) (hA : R cOp 0 w A l) :
    Calls Tryz.prog 36 #[.slice A l.length c, .agg #[.int .u32 s.t, .int .u8 s.r], .int .i64 k] w (El2 (atX l s k) (atN l s k) w) := by
  obtain ⟨W, hW⟩ : ∃ W, W = (w.alloc (.cells #[Value.int IntKind.u32 s.t, Value.int IntKind.u8 s.r] 25)).alloc (.cells #[Value.int IntKind.u32 0, Value.int IntKind.u8 0, Value.slice none 0 0, Value.int IntKind.i64 0] 53) := ⟨_, rfl⟩
  have hbW : Bl w W := by rw [hW]; exact ((Bl.refl _).alloc _).alloc _
  have hsW : W.heap.size = w.heap.size + 2 := by rw [hW, World.size_alloc, World.size_alloc]
  have at0 : ElBox W (w.heap.size + 1) zeroOp none 0 := by
    have h := ElBox.new (w.alloc (.cells #[Value.int IntKind.u32 s.t, Value.int IntKind.u8 s.r] 25)) zeroOp none 0 53
    rw [World.size_alloc w] at h
    rw [hW]
    exact h
  have idx : IdBox W w.heap.size s := by rw [hW]; exact (IdBox.new w s _).bl ((Bl.refl _).alloc _)
  obtain ⟨i0, i1, -, -⟩ := idx
  have hel := hide (viewElements A c l s W hl (hA.bl hbW))
  have hout : ∀ (V : World) (y : Op) (S : Option Addr) (sc : Nat) (n : Int), y.pl.length ≤ sc → sc ≤ maxLen → R cRun (w.heap.size + 2) V S y.pl → Bl w V → El2 y n w (.returned (.tuple #[.agg #[.int .u32 y.id.t, .int .u8 y.id.r, .slice S y.pl.length sc, .int .i64 y.pt], .int .i64 n])) ((((V.setCell ⟨w.heap.size + 1, 0, none⟩ (.int .u32 y.id.t)).setCell ⟨w.heap.size + 1, 1, none⟩ (.int .u8 y.id.r)).setCell ⟨w.heap.size + 1, 2, none⟩ (.slice S y.pl.length sc)).setCell ⟨w.heap.size + 1, 3, none⟩ (.int .i64 y.pt)) := fun V y S sc n h1 h2 hR hV =>
    ⟨S, sc, rfl, h1, h2, ((((hR.set (p := ⟨w.heap.size + 1, 0, none⟩) (by show w.heap.size + 1 < _; omega) _).set (p := ⟨w.heap.size + 1, 1, none⟩) (by show w.heap.size + 1 < _; omega) _).set (p := ⟨w.heap.size + 1, 2, none⟩) (by show w.heap.size + 1 < _; omega) _).set (p := ⟨w.heap.size + 1, 3, none⟩) (by show w.heap.size + 1 < _; omega) _).more (by omega), (((hV.setCell (p := ⟨w.heap.size + 1, 0, none⟩) (Nat.le_succ _) _).setCell (p := ⟨w.heap.size + 1, 1, none⟩) (Nat.le_succ _) _).setCell (p := ⟨w.heap.size + 1, 2, none⟩) (Nat.le_succ _) _).setCell (p := ⟨w.heap.size + 1, 3, none⟩) (Nat.le_succ _) _⟩
  replace hout := hide hout
  obtain ⟨X, hX⟩ : ∃ X, X = atX l s k := ⟨_, rfl⟩
  obtain ⟨N, hN⟩ : ∃ N, N = atN l s k := ⟨_, rfl⟩
  have hXz : N ≠ 0 → X = zeroOp := fun h => by rw [hX]; unfold atX; rw [← hN, if_neg h]
  have hXg : N = 0 → (viewL l s)[k.toNat]? = some X := fun h => by rw [hX]; exact (at_zero (hN ▸ h)).2.2.2
  rw [← hX, ← hN]
  unfold atN at hN
  by_cases hw : whereN l s 0 = 0
  · rw [if_pos hw] at hN
    rw [hw] at hel
    generalize viewL l s = E at *
    clear hX hw
    by_cases hk : k < 0 ∨ (E.length : Int) ≤ k
    · rw [if_pos hk] at hN
      subst hN
      have e1 := hXz (by omega)
      subst e1
      clear hXz hXg
      by_cases hk0 : k < 0
      · clear hk
        go_enter Tryz.func36, Tryz.ntmps36
        go_wp2_with fail
        rw [← hW]
        clear hW
        refine hel.out.mono ?_
        rintro e w1 ⟨Y, y, rfl, y1, y2, hY, hb1⟩
        obtain ⟨z0, z1, z2, z3⟩ := (at0.bl hb1).cells
        obtain ⟨g0, g1, g2, g3⟩ := (at0.bl hb1).frozens
        have hl1 := (at0.bl hb1).lt
        rw [hsW] at hY
        go_wp2_with fail
        refine bodyPost_ret (v := .tuple #[.agg #[.int .u32 0, .int .u8 0, .slice none 0 0, .int .i64 0], .int .i64 2]) (by simp [results, Tryz.results36, go_sem, z0, z1, z2, z3]) rfl ?_
        exact hout.out w1 zeroOp none 0 2 (Nat.le_refl _) (Nat.zero_le _) R.nil (hbW.trans hb1)
      · have hkl : (E.length : Int) ≤ k := by omega
        clear hk
        go_enter Tryz.func36, Tryz.ntmps36
        go_wp2_with fail
        rw [← hW]
        clear hW
        refine hel.out.mono ?_
        rintro e w1 ⟨Y, y, rfl, y1, y2, hY, hb1⟩
        obtain ⟨z0, z1, z2, z3⟩ := (at0.bl hb1).cells
        obtain ⟨g0, g1, g2, g3⟩ := (at0.bl hb1).frozens
        have hl1 := (at0.bl hb1).lt
        rw [hsW] at hY
        go_wp2_with fail
        refine bodyPost_ret (v := .tuple #[.agg #[.int .u32 0, .int .u8 0, .slice none 0 0, .int .i64 0], .int .i64 2]) (by simp [results, Tryz.results36, go_sem, z0, z1, z2, z3]) rfl ?_
        exact hout.out w1 zeroOp none 0 2 (Nat.le_refl _) (Nat.zero_le _) R.nil (hbW.trans hb1)
    · rw [if_neg hk] at hN
      subst hN
      have hx := hXg rfl
      have hk0 : ¬ k < 0 := by omega
      have hk1 : ¬ (E.length : Int) ≤ k := by omega
      obtain ⟨j, rfl⟩ : ∃ j : Nat, k = j := ⟨k.toNat, by omega⟩
      rw [show ((j : Int)).toNat = j by omega] at hx
      have hjl : (j : Int) < (E.length : Int) := by omega
      clear hk hXz hXg
      go_enter Tryz.func36, Tryz.ntmps36
      go_wp2_with fail
      rw [← hW]
      clear hW
      refine hel.out.mono ?_
      rintro e w1 ⟨Y, y, rfl, y1, y2, hY, hb1⟩
      obtain ⟨z0, z1, z2, z3⟩ := (at0.bl hb1).cells
      obtain ⟨g0, g1, g2, g3⟩ := (at0.bl hb1).frozens
      have hl1 := (at0.bl hb1).lt
      rw [hsW] at hY
      obtain ⟨b, off, rfl, _, hb⟩ := hY.addr (by omega)
      obtain ⟨hbb, ho, S, sc, s1, s2, hS, c0, c1, c2, c3⟩ := hY.el hx
      have hne1 : b ≠ w.heap.size + 1 := by omega
      have hne2 : w.heap.size + 1 ≠ b := by omega
      clear hx
      go_wp2_with fail
      refine bodyPost_ret (v := .tuple #[.agg #[.int .u32 X.id.t, .int .u8 X.id.r, .slice S X.pl.length sc, .int .i64 X.pt], .int .i64 0]) (by simp [results, Tryz.results36, go_sem, z0, z1, z2, z3]) rfl ?_
      exact hout.out w1 X S sc 0 s1 s2 hS (hbW.trans hb1)
  · rw [if_neg hw] at hN
    rw [← hN] at hel
    have hNz : (N == 0) = false := by rw [beq_eq_false_iff_ne, hN]; exact hw
    have e1 := hXz (by rw [hN]; exact hw)
    subst e1
    clear hXz hXg hX hN hw
    generalize viewL l s = E at *
    go_enter Tryz.func36, Tryz.ntmps36
    go_wp2_with fail
    rw [← hW]
    clear hW
    refine hel.out.mono ?_
    rintro e w1 ⟨Y, y, rfl, y1, y2, hY, hb1⟩
    obtain ⟨z0, z1, z2, z3⟩ := (at0.bl hb1).cells
    obtain ⟨g0, g1, g2, g3⟩ := (at0.bl hb1).frozens
    have hl1 := (at0.bl hb1).lt
    rw [hsW] at hY
    go_wp2_with fail
    refine bodyPost_ret (v := .tuple #[.agg #[.int .u32 0, .int .u8 0, .slice none 0 0, .int .i64 0], .int .i64 N]) (by simp [results, Tryz.results36, go_sem, z0, z1, z2, z3]) rfl ?_
    exact hout.out w1 zeroOp none 0 N (Nat.le_refl _) (Nat.zero_le _) R.nil (hbW.trans hb1)
/-! ### anchor.Make -/

set_option maxRecDepth 100000 in
set_option maxHeartbeats 4000000 in
theorem anchorMake (A : Option Addr) (c : Nat) (l : List Op) (s : Id) (k : Int) (w : World) (hl : l.length ≤ 1048576) (hA : R cOp 0 w A l) :
    Calls Tryz.prog 11 #[.slice A l.length c, .agg #[.int .u32 s.t, .int .u8 s.r], .int .i64 k] w (New2 cRun (atX l s k).pl (atN l s k) w) := by
  obtain ⟨W, hW⟩ : ∃ W, W = (w.alloc (.cells #[Value.int IntKind.u32 s.t, Value.int IntKind.u8 s.r] 25)).alloc (.cells #[Value.int IntKind.u32 0, Value.int IntKind.u8 0, Value.slice none 0 0, Value.int IntKind.i64 0] 53) := ⟨_, rfl⟩
  have hbW : Bl w W := by rw [hW]; exact ((Bl.refl _).alloc _).alloc _
  have hsW : W.heap.size = w.heap.size + 2 := by rw [hW, World.size_alloc, World.size_alloc]
  have at0 : ElBox W (w.heap.size + 1) zeroOp none 0 := by
    have h := ElBox.new (w.alloc (.cells #[Value.int IntKind.u32 s.t, Value.int IntKind.u8 s.r] 25)) zeroOp none 0 53
    rw [World.size_alloc w] at h
    rw [hW]
    exact h
  have idx : IdBox W w.heap.size s := by rw [hW]; exact (IdBox.new w s _).bl ((Bl.refl _).alloc _)
  obtain ⟨i0, i1, -, -⟩ := idx
  have hat := hide (viewAt A c l s k W hl (hA.bl hbW))
  have hsm : (atX l s k).pl.length ≤ 1048576 := Nat.le_trans at_place (by omega)
  have hz : atN l s k ≠ 0 → (atX l s k).pl = [] := fun h => by unfold atX; rw [if_neg h]; rfl
  generalize atX l s k = X at *
  generalize atN l s k = N at *
  by_cases hN : N = 0
  · subst hN
    clear hz
    go_enter Tryz.func11, Tryz.ntmps11
    go_wp2_with fail
    rw [← hW]
    clear hW
    refine hat.out.mono ?_
    rintro e w1 ⟨S, sc, rfl, s1, s2, hS, hb1⟩
    obtain ⟨z0, z1, z2, z3⟩ := (at0.bl hb1).cells
    obtain ⟨g0, g1, g2, g3⟩ := (at0.bl hb1).frozens
    have hl1 := (at0.bl hb1).lt
    rw [hsW] at hS
    have hS4 := (((hS.set (p := ⟨w.heap.size + 1, 0, none⟩) (by show w.heap.size + 1 < _; omega) (.int .u32 X.id.t)).set (p := ⟨w.heap.size + 1, 1, none⟩) (by show w.heap.size + 1 < _; omega) (.int .u8 X.id.r)).set (p := ⟨w.heap.size + 1, 2, none⟩) (by show w.heap.size + 1 < _; omega) (.slice S X.pl.length sc)).set (p := ⟨w.heap.size + 1, 3, none⟩) (by show w.heap.size + 1 < _; omega) (.int .i64 X.pt)
    have hb4 := ((((hbW.trans hb1).setCell (p := ⟨w.heap.size + 1, 0, none⟩) (Nat.le_succ _) (.int .u32 X.id.t)).setCell (p := ⟨w.heap.size + 1, 1, none⟩) (Nat.le_succ _) (.int .u8 X.id.r)).setCell (p := ⟨w.heap.size + 1, 2, none⟩) (Nat.le_succ _) (.slice S X.pl.length sc)).setCell (p := ⟨w.heap.size + 1, 3, none⟩) (Nat.le_succ _) (.int .i64 X.pt)
    have htw := hide (placeTwin S sc X.pl _ hsm hS4.zero)
    clear hS4 hS
    replace hb4 := hide hb4
    go_wp2_with fail
    refine htw.out.mono ?_
    rintro e w5 ⟨P, pc, rfl, p1, p2, hP, hb5⟩
    go_wp2_with fail
    go_ret2
    exact ⟨P, pc, rfl, p1, p2, hP.more hb4.out.size, hb4.out.trans hb5⟩
  · have hNz : (N == 0) = false := by rw [beq_eq_false_iff_ne]; exact hN
    have hpl := hz hN
    replace hpl := hide hpl
    clear hz hN
    go_enter Tryz.func11, Tryz.ntmps11
    go_wp2_with fail
    rw [← hW]
    clear hW
    refine hat.out.mono ?_
    rintro e w1 ⟨S, sc, rfl, s1, s2, hS, hb1⟩
    obtain ⟨z0, z1, z2, z3⟩ := (at0.bl hb1).cells
    obtain ⟨g0, g1, g2, g3⟩ := (at0.bl hb1).frozens
    have hl1 := (at0.bl hb1).lt
    go_wp2_with fail
    go_ret2
    rw [hpl.out]
    exact ⟨none, 0, rfl, Nat.le_refl _, Nat.zero_le _, R.nil, ((((hbW.trans hb1).setCell (p := ⟨w.heap.size + 1, 0, none⟩) (Nat.le_succ _) _).setCell (p := ⟨w.heap.size + 1, 1, none⟩) (Nat.le_succ _) _).setCell (p := ⟨w.heap.size + 1, 2, none⟩) (Nat.le_succ _) _).setCell (p := ⟨w.heap.size + 1, 3, none⟩) (Nat.le_succ _) _⟩
end Go.Proofs.YteoodmilcpmmpaaGreat

namespace Go.Proofs.YteoodmilcpmmpaaGreat
open Go.RowKit

/-- How the world stands within anchor.Find: its three results. -/
structure FSt (w V : World) (s : Id) (k n : Int) : Prop where
  c0 : V.cell? ⟨w.heap.size, 0, none⟩ = some (.int .u32 s.t)
  c1 : V.cell? ⟨w.heap.size, 1, none⟩ = some (.int .u8 s.r)
  g0 : V.frozen? ⟨w.heap.size, 0, none⟩ = false
  g1 : V.frozen? ⟨w.heap.size, 1, none⟩ = false
  ck : V.cell? ⟨w.heap.size + 1, 0, none⟩ = some (.int .i64 k)
  gk : V.frozen? ⟨w.heap.size + 1, 0, none⟩ = false
  cn : V.cell? ⟨w.heap.size + 1 + 1, 0, none⟩ = some (.int .i64 n)
  gn : V.frozen? ⟨w.heap.size + 1 + 1, 0, none⟩ = false
  bl : Bl w V

section

variable {w V V' : World} {s : Id} {k n : Int}

theorem FSt.go (h : FSt w V s k n) (hb : Bl V V') : FSt w V' s k n :=
  have l0 := World.block_lt_of_cell? V _ h.c0
  have l1 := World.block_lt_of_cell? V _ h.ck
  have l2 := World.block_lt_of_cell? V _ h.cn
  ⟨(hb.cell l0).trans h.c0, (hb.cell l0).trans h.c1, (hb.frozen l0).trans h.g0, (hb.frozen l0).trans h.g1, (hb.cell l1).trans h.ck, (hb.frozen l1).trans h.gk, (hb.cell l2).trans h.cn, (hb.frozen l2).trans h.gn, h.bl.trans hb⟩

theorem ne_addr {a b i j : Nat} (h : a ≠ b ∨ i ≠ j) : (⟨a, i, none⟩ : Addr) ≠ ⟨b, j, none⟩ := fun e => by
  injection e with e1 e2
  omega

theorem FSt.put (h : FSt w V s k n) (m : Int) : FSt w (V.setCell ⟨w.heap.size + 1 + 1, 0, none⟩ (.int .i64 m)) s k m :=
  ⟨box_set_other (ne_addr (by omega)) h.c0, box_set_other (ne_addr (by omega)) h.c1, by rw [World.frozen?_setCell]; exact h.g0, by rw [World.frozen?_setCell]; exact h.g1, box_set_other (ne_addr (by omega)) h.ck, by rw [World.frozen?_setCell]; exact h.gk, box_set_same h.cn, by rw [World.frozen?_setCell]; exact h.gn, h.bl.setCell (p := ⟨w.heap.size + 1 + 1, 0, none⟩) (by show w.heap.size ≤ w.heap.size + 1 + 1; omega) _⟩

theorem FSt.putK (h : FSt w V s k n) (m : Int) : FSt w (V.setCell ⟨w.heap.size + 1, 0, none⟩ (.int .i64 m)) s m n :=
  ⟨box_set_other (ne_addr (by omega)) h.c0, box_set_other (ne_addr (by omega)) h.c1, by rw [World.frozen?_setCell]; exact h.g0, by rw [World.frozen?_setCell]; exact h.g1, box_set_same h.ck, by rw [World.frozen?_setCell]; exact h.gk, box_set_other (ne_addr (by omega)) h.cn, by rw [World.frozen?_setCell]; exact h.gn, h.bl.setCell (p := ⟨w.heap.size + 1, 0, none⟩) (by show w.heap.size ≤ w.heap.size + 1; omega) _⟩

theorem FSt.putS (h : FSt w V s k n) (q : Id) : FSt w ((V.setCell ⟨w.heap.size, 0, none⟩ (.int .u32 q.t)).setCell ⟨w.heap.size, 1, none⟩ (.int .u8 q.r)) q k n :=
  ⟨box_set_other (ne_addr (by omega)) (box_set_same h.c0), box_set_same (box_set_other (ne_addr (by omega)) h.c1), by rw [World.frozen?_setCell, World.frozen?_setCell]; exact h.g0, by rw [World.frozen?_setCell, World.frozen?_setCell]; exact h.g1, box_set_other (ne_addr (by omega)) (box_set_other (ne_addr (by omega)) h.ck), by rw [World.frozen?_setCell, World.frozen?_setCell]; exact h.gk, box_set_other (ne_addr (by omega)) (box_set_other (ne_addr (by omega)) h.cn), by rw [World.frozen?_setCell, World.frozen?_setCell]; exact h.gn, (h.bl.setCell (p := ⟨w.heap.size, 0, none⟩) (Nat.le_refl _) _).setCell (p := ⟨w.heap.size, 1, none⟩) (Nat.le_refl _) _⟩

end

set_option maxRecDepth 100000 in
set_option maxHeartbeats 1000000 in
theorem find1 {w V : World} {s : Id} {k n : Int} (h : FSt w V s k n) (u : FrameMode) :
    CallsD Tryz.prog 40 #[.pointer (some ⟨w.heap.size + 1 + 1, 0, none⟩), .pointer (some ⟨w.heap.size, 0, none⟩), .pointer (some ⟨w.heap.size + 1, 0, none⟩)] u V fun e u' w' => u' = u ∧ e = .returned (.tuple #[]) ∧ FSt w w' (if n = 0 then s else ⟨0, 0⟩) (if n = 0 then k else 0) n := by
  have h' := hide h
  obtain ⟨c0, c1, g0, g1, ck, gk, cn, gn, bl⟩ := h
  by_cases hn : n = 0
  · rw [if_pos hn, if_pos hn]
    subst hn
    go_enter_d Tryz.func40, Tryz.ntmps40
    go_wp2
    go_end0
    exact ⟨rfl, h'.out⟩
  · rw [if_neg hn, if_neg hn]
    have hn' : (n != 0) = true := by simp [hn]
    have h3 := hide (((h'.out.putS ⟨0, 0⟩).putK 0))
    clear hn bl
    go_enter_d Tryz.func40, Tryz.ntmps40
    go_wp2_with fail
    go_end0
    exact ⟨rfl, h3.out⟩

def fndB (l : List Op) (p : List Run) : Bool := bagMay l && placeMay p

def fndS (l : List Op) (p : List Run) : Id := if fndB l p then homeF (livesF l) p else ⟨0, 0⟩

def fndK (l : List Op) (p : List Run) : Int := if fndB l p then (posP (elemsL l (homeF (livesF l) p)) p : Int) else 0

/-- What hands back a stamp, a number and an error. -/
def IdKN (s : Id) (k n : Int) (w : World) (e : Ending) (w' : World) : Prop := e = .returned (.tuple #[.agg #[.int .u32 s.t, .int .u8 s.r], .int .i64 k, .int .i64 n]) ∧ Bl w w'

theorem FSt.leaves {w V : World} {s s' : Id} {k k' n n' : Int} {fn : Func} {tmps : Array Value} (h : FSt w V s k n) (hs : s' = if n = 0 then s else ⟨0, 0⟩) (hk : k' = if n = 0 then k else 0) (hn : n' = n)
    (hres : ∀ w', FSt w w' s' k' n → (results fn tmps).run Tryz.prog w' = .ok (.tuple #[.agg #[.int .u32 s'.t, .int .u8 s'.r], .int .i64 k', .int .i64 n]) w') :
    Leaves Tryz.prog fn tmps (IdKN s' k' n' w) [{ target := .fn (.func 40) #[.pointer (some ⟨w.heap.size + 1 + 1, 0, none⟩), .pointer (some ⟨w.heap.size, 0, none⟩), .pointer (some ⟨w.heap.size + 1, 0, none⟩)], args := #[] }] .returning V := by
  subst hn
  refine leaves_cons (f := 40) (args := #[.pointer (some ⟨w.heap.size + 1 + 1, 0, none⟩), .pointer (some ⟨w.heap.size, 0, none⟩), .pointer (some ⟨w.heap.size + 1, 0, none⟩)]) (by simp) (by simp [go_sem]) ?_
  refine (find1 h .returning).mono ?_
  rintro e u' w' ⟨rfl, rfl, h'⟩
  rw [← hs, ← hk] at h'
  exact ⟨_, hres w' h', rfl, h'.bl⟩

theorem idx_mem : ∀ {l : List Id} {s : Id}, s ∈ l → 0 ≤ idxOf l s
  | [], s, h => by cases h
  | x :: l, s, h => by
    unfold idxOf
    by_cases e : x = s
    · rw [if_pos e]
      exact Int.le_refl _
    · rcases List.mem_cons.1 h with h | h
      · exact absurd h.symm e
      · have := idx_mem h
        rw [if_neg e, if_neg (by omega)]
        omega

theorem fnd_zero {l : List Op} {p : List Run} (hb : bagMay l = true) (hp : placeMay p = true) : whereN l (homeF (livesF l) p) 0 = 0 := by
  obtain ⟨i, hi⟩ := home_some hb (may_any hp)
  have h1 := idx_mem (List.mem_of_getElem? hi)
  unfold whereN
  rw [hb, if_pos rfl, if_neg (by omega)]

set_option maxRecDepth 100000 in
set_option maxHeartbeats 4000000 in
theorem anchorFind (A B : Option Addr) (c d : Nat) (l : List Op) (p : List Run) (w : World) (hl : l.length ≤ maxLen) (hp : p.length ≤ maxLen) (hA : R cOp 0 w A l) (hB : R cRun 0 w B p) :
    Calls Tryz.prog 13 #[.slice A l.length c, .slice B p.length d] w (IdKN (fndS l p) (fndK l p) (okOr 8 (fndB l p)) w) := by
  obtain ⟨W, hW⟩ : ∃ W, W = ((w.alloc (.cells #[Value.int IntKind.u32 0, Value.int IntKind.u8 0] 25)).alloc (.cells #[Value.int IntKind.i64 0] 3)).alloc (.cells #[Value.int IntKind.i64 0] 29) := ⟨_, rfl⟩
  have hbW : Bl w W := by rw [hW]; exact (((Bl.refl _).alloc _).alloc _).alloc _
  have st0 : FSt w W ⟨0, 0⟩ 0 0 := by
    have h0 := ((IdBox.new w ⟨0, 0⟩ 25).bl ((Bl.refl _).alloc (.cells #[Value.int IntKind.i64 0] 3))).bl ((Bl.refl _).alloc (.cells #[Value.int IntKind.i64 0] 29))
    have h1 := (At.new (w.alloc (.cells #[Value.int IntKind.u32 0, Value.int IntKind.u8 0] 25)) [Value.int IntKind.i64 0] 3).bl ((Bl.refl _).alloc (.cells #[Value.int IntKind.i64 0] 29)) (by simp) 0 _ rfl
    have h2 := At.new ((w.alloc (.cells #[Value.int IntKind.u32 0, Value.int IntKind.u8 0] 25)).alloc (.cells #[Value.int IntKind.i64 0] 3)) [Value.int IntKind.i64 0] 29 0 _ rfl
    rw [World.size_alloc w] at h1
    rw [World.size_alloc, World.size_alloc w] at h2
    rw [hW]
    exact ⟨h0.c0, h0.c1, h0.f0, h0.f1, h1.1, h1.2, h2.1, h2.2, (((Bl.refl _).alloc _).alloc _).alloc _⟩
  obtain ⟨s, hs⟩ : ∃ s, s = fndS l p := ⟨_, rfl⟩
  obtain ⟨k, hk⟩ : ∃ k, k = fndK l p := ⟨_, rfl⟩
  obtain ⟨n, hn⟩ : ∃ n, n = okOr 8 (fndB l p) := ⟨_, rfl⟩
  rw [← hs, ← hk, ← hn]
  have hck := fun V (hv : Bl w V) => bagCheck A c l V hl (hA.bl hv)
  have hpc := fun V (hv : Bl w V) => placeCheck B d p V hp (hB.bl hv)
  have hho := fun V (hv : Bl w V) => homeOf A B c d l p V hl hp (hA.bl hv) (hB.bl hv)
  have hres : ∀ (s : Id) (k n : Int) (tmps : Array Value) w', tmps[4]? = some (.pointer (some ⟨w.heap.size, 0, none⟩)) → tmps[5]? = some (.pointer (some ⟨w.heap.size + 1, 0, none⟩)) → tmps[6]? = some (.pointer (some ⟨w.heap.size + 1 + 1, 0, none⟩)) → FSt w w' s k n → (results Tryz.f13 tmps).run Tryz.prog w' = .ok (.tuple #[.agg #[.int .u32 s.t, .int .u8 s.r], .int .i64 k, .int .i64 n]) w' := by
    intro s k n tmps w' t4 t5 t6 hf
    obtain ⟨c0, c1, g0, g1, ck, gk, cn, gn, bl⟩ := hf
    simp [results, Tryz.results13, go_sem, t4, t5, t6, c0, c1, ck, cn]
  replace hres := hide hres
  cases hb : bagMay l
  · have e1 : fndB l p = false := by unfold fndB; rw [hb]; rfl
    rw [hb] at hck
    have es : s = ⟨0, 0⟩ := by rw [hs]; unfold fndS; rw [e1]; rfl
    have ek : k = 0 := by rw [hk]; unfold fndK; rw [e1]; rfl
    have en : n = 8 := by rw [hn, e1]; rfl
    subst es ek en
    replace hck := hide hck
    clear hs hk hn e1 hb hpc hho
    go_enter_defers Tryz.func13, Tryz.ntmps13
    go_wp2_with fail
    rw [← hW]
    clear hW
    refine (hck.out _ hbW).mono ?_
    rintro e w1 ⟨rfl, hb1⟩
    have st1 := st0.go hb1
    have st2 := st1.put 8
    rw [show okOr 8 false = 8 from rfl]
    obtain ⟨c0, c1, g0, g1, ck, gk, cn, gn, bl⟩ := st1
    go_wp2_with fail
    exact st2.leaves rfl rfl rfl fun w' hf => hres.out _ _ _ _ w' rfl rfl rfl hf
  · rw [hb] at hck
    have hl2 : l.length ≤ 1048576 := Nat.le_trans (bagMay_parts hb).1 (by omega)
    replace hck := hide hck
    cases hm : placeMay p
    · have e1 : fndB l p = false := by unfold fndB; rw [hb, hm]; rfl
      rw [hm] at hpc
      have es : s = ⟨0, 0⟩ := by rw [hs]; unfold fndS; rw [e1]; rfl
      have ek : k = 0 := by rw [hk]; unfold fndK; rw [e1]; rfl
      have en : n = 8 := by rw [hn, e1]; rfl
      subst es ek en
      replace hpc := hide hpc
      clear hs hk hn e1 hb hho hm
      go_enter_defers Tryz.func13, Tryz.ntmps13
      go_wp2_with fail
      rw [← hW]
      clear hW
      refine (hck.out _ hbW).mono ?_
      rintro e w1 ⟨rfl, hb1⟩
      have st1 := st0.go hb1
      have st2 := st1.put 0
      rw [show okOr 8 true = 0 from rfl]
      have st2' := hide st2
      have hbl2 := st2.bl
      obtain ⟨c0, c1, g0, g1, ck, gk, cn, gn, bl⟩ := st1
      clear st2
      go_wp2_with fail
      refine (hpc.out _ hbl2).mono ?_
      rintro e w2 ⟨rfl, hb2⟩
      have st3 := st2'.out.go hb2
      have st4 := st3.put 8
      rw [show okOr 8 false = 8 from rfl]
      clear c0 c1 g0 g1 ck gk cn gn bl st2' hbl2 hb2
      obtain ⟨c0, c1, g0, g1, ck, gk, cn, gn, bl⟩ := st3
      go_wp2_with fail
      exact st4.leaves rfl rfl rfl fun w' hf => hres.out _ _ _ _ w' rfl rfl rfl hf
    · have e1 : fndB l p = true := by unfold fndB; rw [hb, hm]; rfl
      rw [hm] at hpc
      have hof := fun V (hv : Bl w V) => viewOffset A B c d l (homeF (livesF l) p) p V hl2 hp (hA.bl hv) (hB.bl hv)
      have hz := fnd_zero hb hm
      have hoz : offN l (homeF (livesF l) p) p = 0 := by unfold offN; rw [if_pos hz, may_any hm]; rfl
      have hok : offK l (homeF (livesF l) p) p = k := by rw [hk]; unfold fndK offK; rw [if_pos hoz, e1, if_pos rfl]
      have es : ofS l p = s := by rw [hs]; unfold fndS ofS; rw [e1, hb, may_any hm]; rfl
      have es2 : homeF (livesF l) p = s := by rw [hs]; unfold fndS; rw [e1, if_pos rfl]
      have en : n = 0 := by rw [hn, e1]; rfl
      rw [hoz, hok, es2] at hof
      rw [es] at hho
      subst en
      replace hof := hide hof
      replace hpc := hide hpc
      replace hho := hide hho
      generalize ofN l p = N2 at hho
      clear hs hk hn e1 hb hm hz hoz hok es es2
      go_enter_defers Tryz.func13, Tryz.ntmps13
      go_wp2_with fail
      rw [← hW]
      clear hW
      refine (hck.out _ hbW).mono ?_
      rintro e w1 ⟨rfl, hb1⟩
      have st1 := st0.go hb1
      have st2 := st1.put 0
      rw [show okOr 8 true = 0 from rfl]
      have st2' := hide st2
      have hbl2 := st2.bl
      obtain ⟨c0, c1, g0, g1, ck, gk, cn, gn, bl⟩ := st1
      clear st2
      go_wp2_with fail
      refine (hpc.out _ hbl2).mono ?_
      rintro e w2 ⟨rfl, hb2⟩
      have st3 := st2'.out.go hb2
      have st4 := st3.put 0
      rw [show okOr 8 true = 0 from rfl]
      clear c0 c1 g0 g1 ck gk cn gn bl st2' hbl2 hb2 hb1
      obtain ⟨c0, c1, g0, g1, ck, gk, cn, gn, bl⟩ := st3
      have hbl4 := st4.bl
      have st4' := hide st4
      clear st4
      go_wp2_with fail
      refine (hho.out _ hbl4).mono ?_
      rintro e w3 ⟨rfl, hb3⟩
      have st5 := st4'.out.go hb3
      have st6 := st5.putS s
      clear c0 c1 g0 g1 ck gk cn gn bl st4' hbl4 hb3
      obtain ⟨c0, c1, g0, g1, ck, gk, cn, gn, bl⟩ := st5
      have hbl6 := st6.bl
      have st6' := hide st6
      clear st6
      go_wp2_with fail
      refine (hof.out _ hbl6).mono ?_
      rintro e w4 ⟨rfl, hb4⟩
      have st7 := st6'.out.go hb4
      have st8 := (st7.putK k).put 0
      clear c0 c1 g0 g1 ck gk cn gn bl st6' hbl6 hb4
      obtain ⟨c0, c1, g0, g1, ck, gk, cn, gn, bl⟩ := st7
      go_wp2_with fail
      exact st8.leaves rfl rfl rfl fun w' hf => hres.out _ _ _ _ w' rfl rfl rfl hf
end Go.Proofs.YteoodmilcpmmpaaGreat
