/-
  The walks of view.Offset, view.At, anchor.Make, anchor.Find.
-/
import Derived.Test.YtkolimhkfiebeaaView
namespace Go.Proofs.Ytkolimhkfiebeaa
open Go.RowKit

theorem elems_small {l : List Op} {s : Id} : (viewL l s).length ≤ l.length := by
  unfold viewL
  split
  · unfold elemsL seenL
    rw [foldl_len]
    have h1 := List.length_filter_le (fun o => decide (o.kind = 1) && !goneF (countL l s) o.id) (countL l s)
    have h2 : (countL l s).length ≤ l.length := Nat.le_trans (List.length_filter_le _ _) (List.length_filter_le _ _)
    unfold shownL
    simp
    omega
  · simp

/-! ### view.Offset -/

def offN (l : List Op) (s : Id) (p : List Run) : Int := if whereN l s 0 = 0 then okOr 8 (plAny p) else whereN l s 0

def offK (l : List Op) (s : Id) (p : List Run) : Int := if offN l s p = 0 then (posP (elemsL l s) p : Int) else 0

theorem view_zero {l : List Op} {s : Id} (h : whereN l s 0 = 0) : viewL l s = elemsL l s := by
  unfold viewL
  rw [if_pos h]

set_option maxRecDepth 100000 in
set_option maxHeartbeats 4000000 in
theorem viewOffset (A B : Option Addr) (c d : Nat) (l : List Op) (s : Id) (p : List Run) (w : World) (hl : l.length ≤ 1048576) (hp : p.length ≤ maxLen) (hA : R cOp 0 w A l) (hB : R cRun 0 w B p) :
    Calls Try.prog 119 #[.slice A l.length c, .agg #[.int .u32 s.t, .int .u8 s.r], .slice B p.length d] w fun e w' => e = .returned (.tuple #[.int .i64 (offK l s p), .int .i64 (offN l s p)]) ∧ Bl w w' := by
  have hb0 : Bl w (w.alloc (.cells #[Value.int IntKind.u32 s.t, Value.int IntKind.u8 s.r] 36)) := (Bl.refl _).alloc _
  have hel := hide (viewElements A c l s _ hl (hA.bl hb0))
  have hchk := fun V (hv : Bl w V) => placeCheck B d p V hp (hB.bl hv)
  obtain ⟨K, hK⟩ : ∃ K, K = offK l s p := ⟨_, rfl⟩
  obtain ⟨N, hN⟩ : ∃ N, N = offN l s p := ⟨_, rfl⟩
  rw [← hK, ← hN]
  unfold offK at hK
  rw [← hN] at hK
  unfold offN at hN
  by_cases hw : whereN l s 0 = 0
  · rw [if_pos hw] at hN
    have hvz := view_zero hw
    have hbm := (where_zero hw).1
    rw [hw] at hel
    have hsmall : (viewL l s).length ≤ 1048576 := Nat.le_trans elems_small hl
    have hmk : ∀ x ∈ viewL l s, Mk x := by rw [hvz]; exact elems_mk hbm
    have hso : SrtP (viewL l s) := by rw [hvz]; exact elems_srt hbm
    rw [← hvz] at hK
    generalize viewL l s = E at *
    clear hw hvz hbm
    cases h2 : plAny p
    · rw [h2] at hN
      have e2 : N = 8 := hN
      subst e2
      have e1 : K = 0 := by rw [hK, if_neg (by omega)]
      subst e1
      have hpm : placeMay p = false := by
        unfold plAny at h2
        rw [Bool.or_eq_false_iff] at h2
        exact h2.2
      have hpl : 0 < p.length := by
        unfold plAny at h2
        rw [Bool.or_eq_false_iff, decide_eq_false_iff_not] at h2
        omega
      have hpi : (0 : Int) < (p.length : Int) := by omega
      rw [hpm] at hchk
      replace hchk := hide hchk
      clear hN hK h2 hpm hmk hso
      go_enter Try.func119, Try.ntmps119
      go_wp2_with fail
      refine hel.out.mono ?_
      rintro e w1 ⟨X, x, rfl, x1, x2, hX, hb1⟩
      go_wp2_with fail
      refine (hchk.out _ (hb0.trans hb1)).mono ?_
      rintro e w2 ⟨rfl, hb2⟩
      have e8 : okOr 8 false = 8 := rfl
      rw [e8]
      go_wp2_with fail
      go_ret2
      exact ⟨rfl, (hb0.trans hb1).trans hb2⟩
    · rw [h2] at hN
      have e2 : N = 0 := hN
      subst e2
      rw [if_pos rfl] at hK
      have hse := hide fun (X : Option Addr) (x : Nat) V (hv : Bl w V) (hX : R cEl 0 V X E) => elemSearch X B x d E p V hsmall hX hp (hB.bl hv) h2 hmk hso
      rw [← hK] at hse
      by_cases hp0 : p.length = 0
      · have hpi : ¬ (0 : Int) < (p.length : Int) := by omega
        have hpd : decide ((0 : Int) < (p.length : Int)) = false := decide_eq_false hpi
        replace hp0 := hide hp0
        clear hN hK h2 hchk hmk hso
        go_enter Try.func119, Try.ntmps119
        go_wp2_with fail
        refine hel.out.mono ?_
        rintro e w1 ⟨X, x, rfl, x1, x2, hX, hb1⟩
        have hc1 := hide (hse.out X x w1 (hb0.trans hb1) hX.zero)
        go_wp2_with fail
        refine hc1.out.mono ?_
        rintro e w2 ⟨rfl, hb2⟩
        go_wp2_with fail
        go_ret2
        exact ⟨rfl, (hb0.trans hb1).trans hb2⟩
      · have hpm : placeMay p = true := by
          unfold plAny at h2
          rw [decide_eq_false hp0, Bool.false_or] at h2
          exact h2
        rw [hpm] at hchk
        replace hchk := hide hchk
        have hpi : (0 : Int) < (p.length : Int) := by omega
        replace hp0 := hide hp0
        clear hN hK h2 hpm hmk hso
        go_enter Try.func119, Try.ntmps119
        go_wp2_with fail
        refine hel.out.mono ?_
        rintro e w1 ⟨X, x, rfl, x1, x2, hX, hb1⟩
        go_wp2_with fail
        refine (hchk.out _ (hb0.trans hb1)).mono ?_
        rintro e w2 ⟨rfl, hb2⟩
        have e8 : okOr 8 true = 0 := rfl
        rw [e8]
        have hbw2 := (hb0.trans hb1).trans hb2
        have hc1 := hide (hse.out X x w2 hbw2 (hX.bl hb2).zero)
        go_wp2_with fail
        refine hc1.out.mono ?_
        rintro e w3 ⟨rfl, hb3⟩
        go_wp2_with fail
        go_ret2
        exact ⟨rfl, hbw2.trans hb3⟩
  · rw [if_neg hw] at hN
    have hNz : (N == 0) = false := by rw [beq_eq_false_iff_ne, hN]; exact hw
    have hN0 : N ≠ 0 := by rw [hN]; exact hw
    rw [if_neg hN0] at hK
    subst hK
    rw [← hN] at hel
    clear hN hw hchk
    generalize viewL l s = E at *
    go_enter Try.func119, Try.ntmps119
    go_wp2_with fail
    refine hel.out.mono ?_
    rintro e w1 ⟨X, x, rfl, x1, x2, hX, hb1⟩
    go_wp2_with fail
    go_ret2
    exact ⟨rfl, hb0.trans hb1⟩
/-! ### view.At -/

def atN (l : List Op) (s : Id) (k : Int) : Int := if whereN l s 0 = 0 then (if k < 0 ∨ ((viewL l s).length : Int) ≤ k then 2 else 0) else whereN l s 0

def atX (l : List Op) (s : Id) (k : Int) : Op := if atN l s k = 0 then ((viewL l s)[k.toNat]?).getD zeroOp else zeroOp

theorem at_zero {l : List Op} {s : Id} {k : Int} (h : atN l s k = 0) : whereN l s 0 = 0 ∧ 0 ≤ k ∧ k < ((viewL l s).length : Int) ∧ (viewL l s)[k.toNat]? = some (atX l s k) := by
  have h0 := h
  unfold atN at h
  by_cases hw : whereN l s 0 = 0
  · rw [if_pos hw] at h
    by_cases hk : k < 0 ∨ ((viewL l s).length : Int) ≤ k
    · rw [if_pos hk] at h
      omega
    · obtain ⟨x, hx⟩ := get_lt (l := viewL l s) (k := k.toNat) (by omega)
      refine ⟨hw, by omega, by omega, ?_⟩
      unfold atX
      rw [if_pos h0, hx]
      rfl
  · rw [if_neg hw] at h
    exact absurd h hw

theorem at_mk {l : List Op} {s : Id} {k : Int} (h : atN l s k = 0) : Mk (atX l s k) := by
  obtain ⟨hw, _, _, hx⟩ := at_zero h
  rw [view_zero hw] at hx
  exact elems_mk (where_zero hw).1 _ (List.mem_of_getElem? hx)

theorem at_place {l : List Op} {s : Id} {k : Int} : (atX l s k).pl.length ≤ 64 := by
  by_cases h : atN l s k = 0
  · exact (placeMay_parts (at_mk h).may).2.1
  · unfold atX
    rw [if_neg h]
    exact Nat.zero_le _

/-- What hands back an element, and an error. -/
def El2 (x : Op) (n : Int) (w : World) (e : Ending) (w' : World) : Prop := ∃ A c, e = .returned (.tuple #[.agg #[.int .u32 x.id.t, .int .u8 x.id.r, .slice A x.pl.length c, .int .i64 x.pt], .int .i64 n]) ∧ x.pl.length ≤ c ∧ c ≤ maxLen ∧ R cRun w.heap.size w' A x.pl ∧ Bl w w'

set_option maxRecDepth 100000 in
set_option maxHeartbeats 4000000 in
theorem viewAt (A : Option Addr) (c : Nat) (l : List Op) (s : Id) (k : Int) (w : World) (hl : l.length ≤ 1048576) (hA : R cOp 0 w A l) :
    Calls Try.prog 116 #[.slice A l.length c, .agg #[.int .u32 s.t, .int .u8 s.r], .int .i64 k] w (El2 (atX l s k) (atN l s k) w) := by
  obtain ⟨W, hW⟩ : ∃ W, W = (w.alloc (.cells #[Value.int IntKind.u32 s.t, Value.int IntKind.u8 s.r] 36)).alloc (.cells #[Value.int IntKind.u32 0, Value.int IntKind.u8 0, Value.slice none 0 0, Value.int IntKind.i64 0] 146) := ⟨_, rfl⟩
  have hbW : Bl w W := by rw [hW]; exact ((Bl.refl _).alloc _).alloc _
  have hsW : W.heap.size = w.heap.size + 2 := by rw [hW, World.size_alloc, World.size_alloc]
  have at0 : ElBox W (w.heap.size + 1) zeroOp none 0 := by
    have h := ElBox.new (w.alloc (.cells #[Value.int IntKind.u32 s.t, Value.int IntKind.u8 s.r] 36)) zeroOp none 0 146
    rw [World.size_alloc w] at h
    rw [hW]
    exact h
  have idx : IdBox W w.heap.size s := by rw [hW]; exact (IdBox.new w s _).bl ((Bl.refl _).alloc _)
  obtain ⟨i0, i1, -, -⟩ := idx
  have hel := hide (viewElements A c l s W hl (hA.bl hbW))
  have hout : ∀ (V : World) (y : Op) (S : Option Addr) (sc : Nat) (n : Int), y.pl.length ≤ sc → sc ≤ maxLen → R cRun (w.heap.size + 2) V S y.pl → Bl w V → El2 y n w (.returned (.tuple #[.agg #[.int .u32 y.id.t, .int .u8 y.id.r, .slice S y.pl.length sc, .int .i64 y.pt], .int .i64 n])) ((((V.setCell ⟨w.heap.size + 1, 0, none⟩ (.int .u32 y.id.t)).setCell ⟨w.heap.size + 1, 1, none⟩ (.int .u8 y.id.r)).setCell ⟨w.heap.size + 1, 2, none⟩ (.slice S y.pl.length sc)).setCell ⟨w.heap.size + 1, 3, none⟩ (.int .i64 y.pt)) := fun V y S sc n h1 h2 hR hV =>
    ⟨S, sc, rfl, h1, h2, ((((hR.set (p := ⟨w.heap.size + 1, 0, none⟩) (by show w.heap.size + 1 < _; omega) _).set (p := ⟨w.heap.size + 1, 1, none⟩) (by show w.heap.size + 1 < _; omega) _).set (p := ⟨w.heap.size + 1, 2, none⟩) (by show w.heap.size + 1 < _; omega) _).set (p := ⟨w.heap.size + 1, 3, none⟩) (by show w.heap.size + 1 < _; omega) _).more (by omega), (((hV.setCell (p := ⟨w.heap.size + 1, 0, none⟩) (Nat.le_succ _) _).setCell (p := ⟨w.heap.size + 1, 1, none⟩) (Nat.le_succ _) _).setCell (p := ⟨w.heap.size + 1, 2, none⟩) (Nat.le_succ _) _).setCell (p := ⟨w.heap.size + 1, 3, none⟩) (Nat.le_succ _) _⟩
  replace hout := hide hout
  obtain ⟨X, hX⟩ : ∃ X, X = atX l s k := ⟨_, rfl⟩
  obtain ⟨N, hN⟩ : ∃ N, N = atN l s k := ⟨_, rfl⟩
  have hXz : N ≠ 0 → X = zeroOp := fun h => by rw [hX]; unfold atX; rw [← hN, if_neg h]
  have hXg : N = 0 → (viewL l s)[k.toNat]? = some X := fun h => by rw [hX]; exact (at_zero (hN ▸ h)).2.2.2
  rw [← hX, ← hN]
  unfold atN at hN
  by_cases hw : whereN l s 0 = 0
  · rw [if_pos hw] at hN
    rw [hw] at hel
    generalize viewL l s = E at *
    clear hX hw
    by_cases hk : k < 0 ∨ (E.length : Int) ≤ k
    · rw [if_pos hk] at hN
      subst hN
      have e1 := hXz (by omega)
      subst e1
      clear hXz hXg
      by_cases hk0 : k < 0
      · clear hk
        go_enter Try.func116, Try.ntmps116
        go_wp2_with fail
        rw [← hW]
        clear hW
        refine hel.out.mono ?_
        rintro e w1 ⟨Y, y, rfl, y1, y2, hY, hb1⟩
        obtain ⟨z0, z1, z2, z3⟩ := (at0.bl hb1).cells
        obtain ⟨g0, g1, g2, g3⟩ := (at0.bl hb1).frozens
        have hl1 := (at0.bl hb1).lt
        rw [hsW] at hY
        go_wp2_with fail
        refine bodyPost_ret (v := .tuple #[.agg #[.int .u32 0, .int .u8 0, .slice none 0 0, .int .i64 0], .int .i64 2]) (by simp [results, Try.results116, go_sem, z0, z1, z2, z3]) rfl ?_
        exact hout.out w1 zeroOp none 0 2 (Nat.le_refl _) (Nat.zero_le _) R.nil (hbW.trans hb1)
      · have hkl : (E.length : Int) ≤ k := by omega
        clear hk
        go_enter Try.func116, Try.ntmps116
        go_wp2_with fail
        rw [← hW]
        clear hW
        refine hel.out.mono ?_
        rintro e w1 ⟨Y, y, rfl, y1, y2, hY, hb1⟩
        obtain ⟨z0, z1, z2, z3⟩ := (at0.bl hb1).cells
        obtain ⟨g0, g1, g2, g3⟩ := (at0.bl hb1).frozens
        have hl1 := (at0.bl hb1).lt
        rw [hsW] at hY
        go_wp2_with fail
        refine bodyPost_ret (v := .tuple #[.agg #[.int .u32 0, .int .u8 0, .slice none 0 0, .int .i64 0], .int .i64 2]) (by simp [results, Try.results116, go_sem, z0, z1, z2, z3]) rfl ?_
        exact hout.out w1 zeroOp none 0 2 (Nat.le_refl _) (Nat.zero_le _) R.nil (hbW.trans hb1)
    · rw [if_neg hk] at hN
      subst hN
      have hx := hXg rfl
      have hk0 : ¬ k < 0 := by omega
      have hk1 : ¬ (E.length : Int) ≤ k := by omega
      obtain ⟨j, rfl⟩ : ∃ j : Nat, k = j := ⟨k.toNat, by omega⟩
      rw [show ((j : Int)).toNat = j by omega] at hx
      have hjl : (j : Int) < (E.length : Int) := by omega
      clear hk hXz hXg
      go_enter Try.func116, Try.ntmps116
      go_wp2_with fail
      rw [← hW]
      clear hW
      refine hel.out.mono ?_
      rintro e w1 ⟨Y, y, rfl, y1, y2, hY, hb1⟩
      obtain ⟨z0, z1, z2, z3⟩ := (at0.bl hb1).cells
      obtain ⟨g0, g1, g2, g3⟩ := (at0.bl hb1).frozens
      have hl1 := (at0.bl hb1).lt
      rw [hsW] at hY
      obtain ⟨b, off, rfl, _, hb⟩ := hY.addr (by omega)
      obtain ⟨hbb, ho, S, sc, s1, s2, hS, c0, c1, c2, c3⟩ := hY.el hx
      have hne1 : b ≠ w.heap.size + 1 := by omega
      have hne2 : w.heap.size + 1 ≠ b := by omega
      clear hx
      go_wp2_with fail
      refine bodyPost_ret (v := .tuple #[.agg #[.int .u32 X.id.t, .int .u8 X.id.r, .slice S X.pl.length sc, .int .i64 X.pt], .int .i64 0]) (by simp [results, Try.results116, go_sem, z0, z1, z2, z3]) rfl ?_
      exact hout.out w1 X S sc 0 s1 s2 hS (hbW.trans hb1)
  · rw [if_neg hw] at hN
    rw [← hN] at hel
    have hNz : (N == 0) = false := by rw [beq_eq_false_iff_ne, hN]; exact hw
    have e1 := hXz (by rw [hN]; exact hw)
    subst e1
    clear hXz hXg hX hN hw
    generalize viewL l s = E at *
    go_enter Try.func116, Try.ntmps116
    go_wp2_with fail
    rw [← hW]
    clear hW
    refine hel.out.mono ?_
    rintro e w1 ⟨Y, y, rfl, y1, y2, hY, hb1⟩
    obtain ⟨z0, z1, z2, z3⟩ := (at0.bl hb1).cells
    obtain ⟨g0, g1, g2, g3⟩ := (at0.bl hb1).frozens
    have hl1 := (at0.bl hb1).lt
    rw [hsW] at hY
    go_wp2_with fail
    refine bodyPost_ret (v := .tuple #[.agg #[.int .u32 0, .int .u8 0, .slice none 0 0, .int .i64 0], .int .i64 N]) (by simp [results, Try.results116, go_sem, z0, z1, z2, z3]) rfl ?_
    exact hout.out w1 zeroOp none 0 N (Nat.le_refl _) (Nat.zero_le _) R.nil (hbW.trans hb1)
/-! ### anchor.Make -/

set_option maxRecDepth 100000 in
set_option maxHeartbeats 4000000 in
theorem anchorMake (A : Option Addr) (c : Nat) (l : List Op) (s : Id) (k : Int) (w : World) (hl : l.length ≤ 1048576) (hA : R cOp 0 w A l) :
    Calls Try.prog 55 #[.slice A l.length c, .agg #[.int .u32 s.t, .int .u8 s.r], .int .i64 k] w (New2 cRun (atX l s k).pl (atN l s k) w) := by
  obtain ⟨W, hW⟩ : ∃ W, W = (w.alloc (.cells #[Value.int IntKind.u32 s.t, Value.int IntKind.u8 s.r] 36)).alloc (.cells #[Value.int IntKind.u32 0, Value.int IntKind.u8 0, Value.slice none 0 0, Value.int IntKind.i64 0] 146) := ⟨_, rfl⟩
  have hbW : Bl w W := by rw [hW]; exact ((Bl.refl _).alloc _).alloc _
  have hsW : W.heap.size = w.heap.size + 2 := by rw [hW, World.size_alloc, World.size_alloc]
  have at0 : ElBox W (w.heap.size + 1) zeroOp none 0 := by
    have h := ElBox.new (w.alloc (.cells #[Value.int IntKind.u32 s.t, Value.int IntKind.u8 s.r] 36)) zeroOp none 0 146
    rw [World.size_alloc w] at h
    rw [hW]
    exact h
  have idx : IdBox W w.heap.size s := by rw [hW]; exact (IdBox.new w s _).bl ((Bl.refl _).alloc _)
  obtain ⟨i0, i1, -, -⟩ := idx
  have hat := hide (viewAt A c l s k W hl (hA.bl hbW))
  have hsm : (atX l s k).pl.length ≤ 1048576 := Nat.le_trans at_place (by omega)
  have hz : atN l s k ≠ 0 → (atX l s k).pl = [] := fun h => by unfold atX; rw [if_neg h]; rfl
  generalize atX l s k = X at *
  generalize atN l s k = N at *
  by_cases hN : N = 0
  · subst hN
    clear hz
    go_enter Try.func55, Try.ntmps55
    go_wp2_with fail
    rw [← hW]
    clear hW
    refine hat.out.mono ?_
    rintro e w1 ⟨S, sc, rfl, s1, s2, hS, hb1⟩
    obtain ⟨z0, z1, z2, z3⟩ := (at0.bl hb1).cells
    obtain ⟨g0, g1, g2, g3⟩ := (at0.bl hb1).frozens
    have hl1 := (at0.bl hb1).lt
    rw [hsW] at hS
    have hS4 := (((hS.set (p := ⟨w.heap.size + 1, 0, none⟩) (by show w.heap.size + 1 < _; omega) (.int .u32 X.id.t)).set (p := ⟨w.heap.size + 1, 1, none⟩) (by show w.heap.size + 1 < _; omega) (.int .u8 X.id.r)).set (p := ⟨w.heap.size + 1, 2, none⟩) (by show w.heap.size + 1 < _; omega) (.slice S X.pl.length sc)).set (p := ⟨w.heap.size + 1, 3, none⟩) (by show w.heap.size + 1 < _; omega) (.int .i64 X.pt)
    have hb4 := ((((hbW.trans hb1).setCell (p := ⟨w.heap.size + 1, 0, none⟩) (Nat.le_succ _) (.int .u32 X.id.t)).setCell (p := ⟨w.heap.size + 1, 1, none⟩) (Nat.le_succ _) (.int .u8 X.id.r)).setCell (p := ⟨w.heap.size + 1, 2, none⟩) (Nat.le_succ _) (.slice S X.pl.length sc)).setCell (p := ⟨w.heap.size + 1, 3, none⟩) (Nat.le_succ _) (.int .i64 X.pt)
    have htw := hide (placeTwin S sc X.pl _ hsm hS4.zero)
    clear hS4 hS
    replace hb4 := hide hb4
    go_wp2_with fail
    refine htw.out.mono ?_
    rintro e w5 ⟨P, pc, rfl, p1, p2, hP, hb5⟩
    go_wp2_with fail
    go_ret2
    exact ⟨P, pc, rfl, p1, p2, hP.more hb4.out.size, hb4.out.trans hb5⟩
  · have hNz : (N == 0) = false := by rw [beq_eq_false_iff_ne]; exact hN
    have hpl := hz hN
    replace hpl := hide hpl
    clear hz hN
    go_enter Try.func55, Try.ntmps55
    go_wp2_with fail
    rw [← hW]
    clear hW
    refine hat.out.mono ?_
    rintro e w1 ⟨S, sc, rfl, s1, s2, hS, hb1⟩
    obtain ⟨z0, z1, z2, z3⟩ := (at0.bl hb1).cells
    obtain ⟨g0, g1, g2, g3⟩ := (at0.bl hb1).frozens
    have hl1 := (at0.bl hb1).lt
    go_wp2_with fail
    go_ret2
    rw [hpl.out]
    exact ⟨none, 0, rfl, Nat.le_refl _, Nat.zero_le _, R.nil, ((((hbW.trans hb1).setCell (p := ⟨w.heap.size + 1, 0, none⟩) (Nat.le_succ _) _).setCell (p := ⟨w.heap.size + 1, 1, none⟩) (Nat.le_succ _) _).setCell (p := ⟨w.heap.size + 1, 2, none⟩) (Nat.le_succ _) _).setCell (p := ⟨w.heap.size + 1, 3, none⟩) (Nat.le_succ _) _⟩
end Go.Proofs.Ytkolimhkfiebeaa
