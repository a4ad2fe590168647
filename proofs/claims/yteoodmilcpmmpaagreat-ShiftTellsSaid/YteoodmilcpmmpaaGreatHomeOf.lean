/-
  The walks of home.Of's closure and of slices.BinarySearchFunc at it.
-/
import Derived.Test.YteoodmilcpmmpaaGreatPart
import Derived.Test.YteoodmilcpmmpaaGreatLiveP
namespace Go.Proofs.YteoodmilcpmmpaaGreat

open Go.RowKit

set_option maxRecDepth 100000 in
set_option maxHeartbeats 1000000 in
theorem homeOf1 (x : Op) (A B : Option Addr) (c d : Nat) (p : List Run) (w : World) (hx : OpIn w x A c) (hp : p.length ≤ maxLen) (hB : R cRun 0 w B p) :
    Calls Tryz.prog 89 #[.agg #[.int .u8 x.kind, .int .u32 x.id.t, .int .u8 x.id.r, .slice A x.pl.length c, .int .i64 x.pt], .slice B p.length d] w fun e w' => e = .returned (.int .i64 (plCmp x.pl p)) ∧ Bl w w' := by
  have hc := hide fun V (hv : Bl w V) => placeCompareD A B c d x.pl p V hx.small hp (hx.hR.bl hv) (hB.bl hv)
  obtain ⟨W, hW⟩ : ∃ W, W = w.alloc (.cells #[Value.int IntKind.u8 x.kind, Value.int IntKind.u32 x.id.t, Value.int IntKind.u8 x.id.r, Value.slice A x.pl.length c, Value.int IntKind.i64 x.pt] 47) := ⟨_, rfl⟩
  have hbW : Bl w W := by rw [hW]; exact (Bl.refl _).alloc _
  have at0 : OpBox W w.heap.size x A c := by rw [hW]; exact OpBox.new w x A c _
  obtain ⟨x0, x1, x2, x3, x4⟩ := at0.cells
  generalize plCmp x.pl p = N at *
  go_enter Tryz.func89, Tryz.ntmps89
  go_wp2_with fail
  rw [← hW]
  clear hW
  refine (hc.out _ hbW).mono ?_
  rintro e w1 ⟨rfl, hb1⟩
  go_wp2_with fail
  go_ret
  exact ⟨rfl, hbW.trans hb1.bl⟩

theorem mk_cmp {x : Op} {p : List Run} (hx : Mk x) (hp : plAny p = true) : plCmp x.pl p = heldF x.pl p := by
  unfold plCmp
  rw [show plAny x.pl = true by unfold plAny; rw [hx.may, Bool.or_true], hp]
  rfl

theorem is_of_cutP {l : List Op} {p : List Run} {i : Nat} (hm : ∀ x ∈ l, Mk x) (hs : SrtP l) (hp : posM p) (h : CutP l p i) : (i < l.length → ∀ x, l[i]? = some x → (decide (heldF x.pl p = 0)) = isP l p) ∧ (l.length ≤ i → false = isP l p) := by
  have hno : ∀ k y, l[k]? = some y → heldF y.pl p = 0 → k = i := fun k y hk e => by
    rcases Nat.lt_trichotomy k i with h1 | h1 | h1
    · have := h.lo k y h1 hk
      omega
    · exact h1
    · obtain ⟨z, hz⟩ := get_lt (show i < l.length by have := (List.getElem?_eq_some_iff.1 hk).1; omega)
      have := held_tr2 (hm z (List.mem_of_getElem? hz)) (hm y (List.mem_of_getElem? hk)) hp (hs.get hz hk h1) (h.hi i z (Nat.le_refl _) hz)
      omega
  constructor
  · intro hi x hx
    unfold isP
    rw [Bool.eq_iff_iff, decide_eq_true_eq, List.any_eq_true]
    constructor
    · intro e
      exact ⟨x, List.mem_of_getElem? hx, decide_eq_true e⟩
    · rintro ⟨y, hy, e⟩
      obtain ⟨k, hk⟩ := List.getElem?_of_mem hy
      have := hno k y hk (of_decide_eq_true e)
      subst this
      rw [hx] at hk
      injection hk with hk
      rw [hk]
      exact of_decide_eq_true e
  · intro hi
    rw [eq_comm]
    unfold isP
    rw [List.any_eq_false]
    intro y hy e
    obtain ⟨k, hk⟩ := List.getElem?_of_mem hy
    have h1 := hno k y hk (of_decide_eq_true e)
    have h2 := (List.getElem?_eq_some_iff.1 hk).1
    omega

set_option maxRecDepth 100000 in
set_option maxHeartbeats 4000000 in
theorem homeSearch (A B : Option Addr) (c d : Nat) (l : List Op) (p : List Run) (w : World) (hl : l.length ≤ 1048576) (hA : R cOp 0 w A l) (hpl : p.length ≤ maxLen) (hB : R cRun 0 w B p) (hq : plAny p = true) (hmk : ∀ x ∈ l, Mk x) (hso : SrtP l) :
    Calls Tryz.prog 88 #[.slice A l.length c, .slice B p.length d, .func (.func 89) #[] #[]] w fun e w' => e = .returned (.tuple #[.int .i64 (posP l p), .bool (isP l p)]) ∧ Bl w w' := by
  obtain ⟨N, hN⟩ : ∃ N, N = posP l p := ⟨_, rfl⟩
  obtain ⟨T, hT⟩ : ∃ T, T = isP l p := ⟨_, rfl⟩
  rw [← hN, ← hT]
  have hpos := any_pos hq
  have hfin : ∀ i, i ≤ l.length → CutP l p i → N = i ∧ (i < l.length → ∀ x, l[i]? = some x → (decide (heldF x.pl p = 0)) = T) ∧ (l.length ≤ i → false = T) := fun i hi h => by
    have := is_of_cutP hmk hso hpos h
    rw [← hT] at this
    exact ⟨hN.trans (h.pos hi), this⟩
  replace hfin := hide hfin
  replace hso := hide hso
  replace hmk := hide hmk
  replace hpos := hide hpos
  replace hq := hide hq
  clear hN hT
  go_enter Tryz.func88, Tryz.ntmps88
  go_wp2_with fail
  go_loopw [9, 10] (fun i j wr => Bl w wr ∧ ∃ (a z : Nat), a ≤ z ∧ z ≤ l.length ∧ i = .int .i64 a ∧ j = .int .i64 z ∧ Hid ((∀ k x, k < a → l[k]? = some x → heldF x.pl p < 0) ∧ (∀ k x, z ≤ k → l[k]? = some x → 0 ≤ heldF x.pl p))) (fun i j _ => (intOf j).toNat - (intOf i).toNat)
  case atStart =>
    exact ⟨Bl.refl _, 0, l.length, Nat.zero_le _, Nat.le_refl _, rfl, rfl, fun k x hk => by omega, fun k x hk hx => by have := (List.getElem?_eq_some_iff.1 hx).1; omega⟩
  case round =>
    obtain ⟨hbl, a, z, haz, hz, rfl, rfl, hcut⟩ := hrel
    by_cases hlt : a < z
    · obtain ⟨m, hm⟩ : ∃ m, m = (a + z) / 2 := ⟨_, rfl⟩
      have hR := hA.bl hbl
      obtain ⟨b, off, rfl, _, hb⟩ := hR.addr (by omega)
      obtain ⟨x, hx⟩ := get_lt (show m < l.length by omega)
      obtain ⟨_, ho, S, sc, hcd, hdm, hS, c0, c1, c2, c3, c4⟩ := hR.op hx
      have hai : (a : Int) < (z : Int) := by omega
      have hmi : (m : Int) < (l.length : Int) := by omega
      have hmm : ((a : Int) + (z : Int)) / 2 = (m : Int) := by omega
      have hm1 : a ≤ m := by omega
      have hm2 : m < z := by omega
      replace hm := hide hm
      have hcl := homeOf1 x S B sc d p wr ⟨ho, hcd, hdm, hS⟩ hpl (hB.bl hbl)
      rw [mk_cmp (hmk.out x (List.mem_of_getElem? hx)) hq.out] at hcl
      by_cases e1 : heldF x.pl p < 0
      · have g := hide (show ∀ k y, k < m + 1 → l[k]? = some y → heldF y.pl p < 0 from fun k y hk hy => by
          by_cases h : k = m
          · subst h; rw [hx] at hy; cases hy; exact e1
          · exact held_tr (hmk.out y (List.mem_of_getElem? hy)) (hmk.out x (List.mem_of_getElem? hx)) hpos.out (hso.out.get hy hx (by omega)) (by omega))
        have hd : decide (heldF x.pl p < 0) = true := decide_eq_true e1
        generalize heldF x.pl p = q at *
        replace hcl := hide hcl
        clear hx
        go_wp2_with fail
        refine hcl.out.mono ?_
        rintro e w2 ⟨rfl, hb2⟩
        go_wp2_with fail
        go_roundw
        case rel => exact ⟨hbl.trans hb2, m + 1, z, by omega, hz, by go_num, rfl, g.out, hcut.out.2⟩
        case measure => simp [intOf]; omega
      · have g := hide (show ∀ k y, m ≤ k → l[k]? = some y → 0 ≤ heldF y.pl p from fun k y hk hy => by
          by_cases h : k = m
          · subst h; rw [hx] at hy; cases hy; omega
          · have := held_tr2 (hmk.out x (List.mem_of_getElem? hx)) (hmk.out y (List.mem_of_getElem? hy)) hpos.out (hso.out.get hx hy (by omega)) (by omega)
            omega)
        have hd : decide (heldF x.pl p < 0) = false := decide_eq_false e1
        generalize heldF x.pl p = q at *
        replace hcl := hide hcl
        clear hx
        go_wp2_with fail
        refine hcl.out.mono ?_
        rintro e w2 ⟨rfl, hb2⟩
        go_wp2_with fail
        go_roundw
        case rel => exact ⟨hbl.trans hb2, a, m, by omega, by omega, rfl, rfl, hcut.out.1, g.out⟩
        case measure => simp [intOf]; omega
    · obtain rfl : a = z := by omega
      obtain ⟨hNp, hT1, hT2⟩ := hfin.out a hz ⟨hcut.out.1, hcut.out.2⟩
      subst hNp
      by_cases hpn : N < l.length
      · have hR := hA.bl hbl
        obtain ⟨b, off, rfl, _, hb⟩ := hR.addr (by omega)
        obtain ⟨x, hx⟩ := get_lt hpn
        obtain ⟨_, ho, S, sc, hcd, hdm, hS, c0, c1, c2, c3, c4⟩ := hR.op hx
        have hni : (N : Int) < (l.length : Int) := by omega
        have hd := hT1 hpn x hx
        have hcl := homeOf1 x S B sc d p wr ⟨ho, hcd, hdm, hS⟩ hpl (hB.bl hbl)
        rw [mk_cmp (hmk.out x (List.mem_of_getElem? hx)) hq.out] at hcl
        have hz2 : (heldF x.pl p == 0) = T := by rw [← hd]; by_cases h : heldF x.pl p = 0 <;> simp [h]
        generalize heldF x.pl p = q at hcl hz2
        replace hcl := hide hcl
        have hpd : decide ((N : Int) < (l.length : Int)) = true := by simpa using hni
        clear hd hx hT1 hT2 hcut
        go_wp2_with fail
        refine hcl.out.mono ?_
        rintro e w2 ⟨rfl, hb2⟩
        go_wp2_with fail
        go_ret2
        exact ⟨rfl, hbl.trans hb2⟩
      · have hpd : decide ((N : Int) < (l.length : Int)) = false := by simp; omega
        have g := hide (hT2 (by omega))
        clear hT1 hT2 hcut
        go_wp2_with fail
        go_ret2
        rw [g.out]
        exact ⟨rfl, hbl⟩

end Go.Proofs.YteoodmilcpmmpaaGreat
