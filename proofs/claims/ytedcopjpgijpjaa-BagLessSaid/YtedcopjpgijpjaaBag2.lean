/-
  The walk of bag.where, over slices.BinarySearchFunc.
-/
import Derived.Test.YtedcopjpgijpjaaBag
namespace Go.Proofs.Ytedcopjpgijpjaa
open Go.RowKit

/-! ### Plain -/
/-- Where a stamp's operation is, or would be; whether it is there. -/
def posOf (l : List Op) (s : Id) : Nat := (l.takeWhile fun o => idLess o.id s).length
def hasId (l : List Op) (s : Id) : Bool := l.any fun o => decide (o.id = s)
def Srt (l : List Op) : Prop := l.Pairwise fun a b => idLess a.id b.id = true
theorem idLess_tr {a b c : Id} (h : idLess a b = true) (k : idLess b c = true) : idLess a c = true := by
  unfold idLess at *
  simp at *
  omega
theorem idLess_irr (a : Id) : idLess a a = false := by unfold idLess; simp
theorem idLess_as {a b : Id} (h : idLess a b = true) : idLess b a = false := by
  unfold idLess at *
  simp at *
  omega
theorem idLess_tot {a b : Id} (h : idLess a b = false) (k : idLess b a = false) : a = b := by
  unfold idLess at *
  simp at *
  exact Id.ext' (by omega) (by omega)
theorem bagFrom_srt : ∀ (l : List Op) (last : Id), bagFrom last l = true → Srt l ∧ (∀ x ∈ l, opMay x = true ∧ idLess last x.id = true)
  | [], _, _ => ⟨List.Pairwise.nil, fun _ h => by cases h⟩
  | x :: l, last, h => by
    simp only [bagFrom, Bool.and_eq_true] at h
    obtain ⟨h1, h2⟩ := bagFrom_srt l x.id h.2
    refine ⟨List.Pairwise.cons (fun y hy => (h2 y hy).2) h1, fun y hy => ?_⟩
    rcases List.mem_cons.1 hy with rfl | hy
    · exact h.1
    · exact ⟨(h2 y hy).1, idLess_tr h.1.2 (h2 y hy).2⟩
theorem bagMay_parts {l : List Op} (h : bagMay l = true) : l.length ≤ 1024 ∧ Srt l ∧ ∀ x ∈ l, opMay x = true := by
  unfold bagMay at h
  simp only [Bool.and_eq_true, decide_eq_true_eq] at h
  obtain ⟨h1, h2⟩ := bagFrom_srt l _ h.2
  exact ⟨h.1, h1, fun x hx => (h2 x hx).1⟩
theorem Srt.get {l : List Op} (h : Srt l) {i j : Nat} {x y : Op} (hi : l[i]? = some x) (hj : l[j]? = some y) (hij : i < j) : idLess x.id y.id = true := by
  obtain ⟨hi', rfl⟩ := List.getElem?_eq_some_iff.1 hi
  obtain ⟨hj', rfl⟩ := List.getElem?_eq_some_iff.1 hj
  exact List.pairwise_iff_getElem.1 h i j hi' hj' hij
/-- All ahead of i are less than s, all from i on are not. -/
def Cut (l : List Op) (s : Id) (i : Nat) : Prop := (∀ k x, k < i → l[k]? = some x → idLess x.id s = true) ∧ (∀ k x, i ≤ k → l[k]? = some x → idLess x.id s = false)
theorem Cut.pos {l : List Op} {s : Id} {i : Nat} (h : Cut l s i) (hi : i ≤ l.length) : posOf l s = i := by
  unfold posOf
  have h1 : ∀ x ∈ l.take i, idLess x.id s = true := fun x hx => by
    obtain ⟨k, hk⟩ := List.getElem?_of_mem hx
    rw [List.getElem?_take] at hk
    split at hk
    · exact h.1 k x (by assumption) hk
    · cases hk
  have h2 : (l.drop i).takeWhile (fun o => idLess o.id s) = [] := by
    cases hd : l.drop i with
    | nil => rfl
    | cons y r =>
      have hy : l[i]? = some y := by
        have := List.getElem?_drop (xs := l) (i := i) (j := 0)
        rw [hd] at this
        simpa using this.symm
      rw [List.takeWhile_cons, h.2 i y (Nat.le_refl _) hy]
      rfl
  have h3 : l.takeWhile (fun o => idLess o.id s) = l.take i := by
    conv => lhs; rw [← List.take_append_drop i l]
    rw [List.takeWhile_append_of_pos h1, h2, List.append_nil]
  rw [h3, List.length_take, Nat.min_eq_left hi]
theorem pos_le (l : List Op) (s : Id) : posOf l s ≤ l.length := by
  unfold posOf
  exact (List.takeWhile_prefix _).length_le
/-- Where it stands. -/
theorem has_of_cut {l : List Op} {s : Id} {i : Nat} (hs : Srt l) (h : Cut l s i) : (i < l.length → ∀ x, l[i]? = some x → (decide (idCmp x.id s = 0)) = hasId l s) ∧ (l.length ≤ i → false = hasId l s) := by
  have hno : ∀ k x, l[k]? = some x → x.id = s → k = i ∧ i < l.length := fun k x hk e => by
    have hkl := (List.getElem?_eq_some_iff.1 hk).1
    by_cases h1 : k < i
    · have := h.1 k x h1 hk
      rw [e, idLess_irr] at this
      cases this
    · by_cases h2 : k = i
      · exact ⟨h2, by omega⟩
      · obtain ⟨y, hy⟩ := get_lt (show i < l.length by omega)
        have h3 := h.2 i y (Nat.le_refl _) hy
        have h4 := hs.get hy hk (by omega)
        rw [e] at h4
        rw [h4] at h3
        cases h3
  have hhas : hasId l s = true ↔ ∃ (k : Nat) (x : Op), l[k]? = some x ∧ x.id = s := by
    unfold hasId
    rw [List.any_eq_true]
    constructor
    · rintro ⟨x, hx, e⟩
      obtain ⟨k, hk⟩ := List.getElem?_of_mem hx
      exact ⟨k, x, hk, by simpa using e⟩
    · rintro ⟨k, x, hk, e⟩
      exact ⟨x, List.mem_of_getElem? hk, by simpa using e⟩
  constructor
  · intro hi x hx
    rw [Bool.eq_iff_iff, hhas, decide_eq_true_eq]
    constructor
    · intro h0
      refine ⟨i, x, hx, ?_⟩
      have h1 := h.2 i x (Nat.le_refl _) hx
      unfold idCmp at h0
      rw [h1] at h0
      cases h2 : idLess s x.id
      · exact idLess_tot h1 h2
      · rw [h2] at h0; simp at h0
    · rintro ⟨k, y, hk, e⟩
      obtain ⟨rfl, _⟩ := hno k y hk e
      rw [hx] at hk
      cases hk
      subst e
      unfold idCmp
      rw [idLess_irr]
      rfl
  · intro hi
    rw [Bool.eq_iff_iff]
    constructor
    · intro h0; cases h0
    · intro h0
      obtain ⟨k, x, hk, e⟩ := hhas.1 h0
      have := (hno k x hk e).2
      omega

set_option maxRecDepth 100000 in
set_option maxHeartbeats 1000000 in
theorem bagWhere1 (x : Op) (A : Option Addr) (c : Nat) (s : Id) (w : World) (hx : OpIn w x A c) (hs : s.ok) :
    Calls Try.prog 72 #[.agg #[.int .u8 x.kind, .int .u32 x.id.t, .int .u8 x.id.r, .slice A x.pl.length c, .int .i64 x.pt], .agg #[.int .u32 s.t, .int .u8 s.r]] w fun e w' => e = .returned (.int .i64 (idCmp x.id s)) ∧ Bl w w' := by
  have ho := hide (fun V => bagOrder x.id s V hx.ok.2.1 hs)
  have hb : ∀ o1 o2, Bl w ((w.alloc o1).alloc o2) := fun _ _ => ((Bl.refl _).alloc _).alloc _
  go_enter Try.func72, Try.ntmps72
  go_wp2_with fail
  refine (ho.out _).mono ?_
  rintro e w1 ⟨rfl, hb1⟩
  go_wp2_with fail
  go_ret
  exact ⟨rfl, (hb _ _).trans hb1⟩

set_option maxRecDepth 100000 in
set_option maxHeartbeats 2000000 in
theorem bagSearch (A : Option Addr) (c : Nat) (l : List Op) (s : Id) (w : World) (hl : l.length ≤ 1048576) (hA : R cOp 0 w A l) (hs : s.ok) (hso : Srt l) :
    Calls Try.prog 71 #[.slice A l.length c, .agg #[.int .u32 s.t, .int .u8 s.r], .func (.func 72) #[] #[]] w fun e w' => e = .returned (.tuple #[.int .i64 (posOf l s), .bool (hasId l s)]) ∧ Bl w w' := by
  obtain ⟨N, hN⟩ : ∃ N, N = posOf l s := ⟨_, rfl⟩
  obtain ⟨T, hT⟩ : ∃ T, T = hasId l s := ⟨_, rfl⟩
  rw [← hN, ← hT]
  have hfin : ∀ i, i ≤ l.length → Cut l s i → N = i ∧ (i < l.length → ∀ x, l[i]? = some x → (decide (idCmp x.id s = 0)) = T) ∧ (l.length ≤ i → false = T) := fun i hi h => by
    have := has_of_cut hso h
    rw [← hT] at this
    exact ⟨hN.trans (h.pos hi), this⟩
  replace hfin := hide hfin
  replace hso := hide hso
  clear hN hT
  go_enter Try.func71, Try.ntmps71
  go_wp2
  go_loopw [9, 10] (fun i j wr => Bl w wr ∧ ∃ (p q : Nat), p ≤ q ∧ q ≤ l.length ∧ i = .int .i64 p ∧ j = .int .i64 q ∧ wr.cell? ⟨w.heap.size, 0, none⟩ = some (.int .u32 s.t) ∧ wr.cell? ⟨w.heap.size, 1, none⟩ = some (.int .u8 s.r) ∧ Hid ((∀ k x, k < p → l[k]? = some x → idLess x.id s = true) ∧ (∀ k x, q ≤ k → l[k]? = some x → idLess x.id s = false))) (fun i j _ => (intOf j).toNat - (intOf i).toNat)
  case atStart =>
    have h := IdBox.new w s 30
    exact ⟨(Bl.refl _).alloc _, 0, l.length, Nat.zero_le _, Nat.le_refl _, rfl, rfl, h.c0, h.c1, fun k x hk => by omega, fun k x hk hx => by have := (List.getElem?_eq_some_iff.1 hx).1; omega⟩
  case round =>
    obtain ⟨hbl, p, q, hpq, hq, rfl, rfl, s0, s1, hcut⟩ := hrel
    have hsl := World.block_lt_of_cell? _ _ s0
    by_cases hlt : p < q
    · obtain ⟨m, hm⟩ : ∃ m, m = (p + q) / 2 := ⟨_, rfl⟩
      have hR := hA.bl hbl
      obtain ⟨b, off, rfl, _, hb⟩ := hR.addr (by omega)
      obtain ⟨x, hx⟩ := get_lt (show m < l.length by omega)
      obtain ⟨_, ho, B, d, hcd, hdm, hB, c0, c1, c2, c3, c4⟩ := hR.op hx
      have C0 := fun p : Wd wr => Wd.cell c0 hb p
      have C1 := fun p : Wd wr => Wd.cell c1 hb p
      have C2 := fun p : Wd wr => Wd.cell c2 hb p
      have C3 := fun p : Wd wr => Wd.cell c3 hb p
      have C4 := fun p : Wd wr => Wd.cell c4 hb p
      have S0 := fun p : Wd wr => Wd.cell s0 hsl p
      have S1 := fun p : Wd wr => Wd.cell s1 hsl p
      clear c0 c1 c2 c3 c4
      have hpi : (p : Int) < (q : Int) := by omega
      have hmi : (m : Int) < (l.length : Int) := by omega
      have hmm : ((p : Int) + (q : Int)) / 2 = (m : Int) := by omega
      have hm1 : p ≤ m := by omega
      have hm2 : m < q := by omega
      replace hm := hide hm
      have hcl := fun pw : Wd wr => bagWhere1 x B d s pw.v ⟨ho, hcd, hdm, hB.bl pw.h⟩ hs
      have hc0 : ∀ V, Bl wr V → V.cell? ⟨w.heap.size, 0, none⟩ = some (.int .u32 s.t) ∧ V.cell? ⟨w.heap.size, 1, none⟩ = some (.int .u8 s.r) := fun V hV => ⟨(hV.cell hsl).trans s0, (hV.cell hsl).trans s1⟩
      replace hc0 := hide hc0
      clear s0 s1
      cases e1 : idLess x.id s
      · have hz := idCmp_pos e1
        have g := hide (show ∀ k y, m ≤ k → l[k]? = some y → idLess y.id s = false from fun k y hk hy => by
          by_cases h : k = m
          · subst h; rw [hx] at hy; cases hy; exact e1
          · have h2 := hso.out.get hx hy (by omega)
            cases h3 : idLess y.id s
            · rfl
            · rw [idLess_tr h2 h3] at e1; cases e1)
        generalize idCmp x.id s = z at hcl hz
        replace hcl := hide hcl
        clear hx e1
        go_wp2
        (refine wp_region_wd (by kernel_rfl) (by kernel_rfl) ?_
         repeat (go_big_quiet_step ((go_at_call 72; exact Calls.wd (hcl.out _))))
         refine wpQuiet_nil ?_
         intro w2 hw'
         obtain ⟨⟨wx, hb2⟩, hw''⟩ := hw'
         subst hw'')
        go_wp2
        go_roundw
        case rel => exact ⟨hbl.trans hb2, p, m, by omega, by omega, rfl, rfl, (hc0.out _ hb2).1, (hc0.out _ hb2).2, hcut.out.1, g.out⟩
        case measure => simp [intOf]; omega
      · rw [idCmp_neg e1] at hcl
        have g := hide (show ∀ k y, k < m + 1 → l[k]? = some y → idLess y.id s = true from fun k y hk hy => by
          by_cases h : k = m
          · subst h; rw [hx] at hy; cases hy; exact e1
          · exact idLess_tr (hso.out.get hy hx (by omega)) e1)
        replace hcl := hide hcl
        clear hx e1
        go_wp2
        (refine wp_region_wd (by kernel_rfl) (by kernel_rfl) ?_
         repeat (go_big_quiet_step ((go_at_call 72; exact Calls.wd (hcl.out _))))
         refine wpQuiet_nil ?_
         intro w2 hw'
         obtain ⟨⟨wx, hb2⟩, hw''⟩ := hw'
         subst hw'')
        go_wp2
        go_roundw
        case rel => exact ⟨hbl.trans hb2, m + 1, q, by omega, hq, by go_num, rfl, (hc0.out _ hb2).1, (hc0.out _ hb2).2, g.out, hcut.out.2⟩
        case measure => simp [intOf]; omega
    · obtain rfl : p = q := by omega
      obtain ⟨hNp, hT1, hT2⟩ := hfin.out p hq hcut.out
      have S0 := fun p : Wd wr => Wd.cell s0 hsl p
      have S1 := fun p : Wd wr => Wd.cell s1 hsl p
      clear s0 s1
      subst hNp
      by_cases hpn : N < l.length
      · have hR := hA.bl hbl
        obtain ⟨b, off, rfl, _, hb⟩ := hR.addr (by omega)
        obtain ⟨x, hx⟩ := get_lt hpn
        obtain ⟨_, ho, B, d, hcd, hdm, hB, c0, c1, c2, c3, c4⟩ := hR.op hx
        have C0 := fun p : Wd wr => Wd.cell c0 hb p
        have C1 := fun p : Wd wr => Wd.cell c1 hb p
        have C2 := fun p : Wd wr => Wd.cell c2 hb p
        have C3 := fun p : Wd wr => Wd.cell c3 hb p
        have C4 := fun p : Wd wr => Wd.cell c4 hb p
        clear c0 c1 c2 c3 c4
        have hni : (N : Int) < (l.length : Int) := by omega
        have hd := hT1 hpn x hx
        have hcl := fun pw : Wd wr => bagWhere1 x B d s pw.v ⟨ho, hcd, hdm, hB.bl pw.h⟩ hs
        have hz : (idCmp x.id s == 0) = T := by rw [← hd]; by_cases h : idCmp x.id s = 0 <;> simp [h]
        generalize idCmp x.id s = z at hcl hz
        replace hcl := hide hcl
        have hpd : decide ((N : Int) < (l.length : Int)) = true := by simpa using hni
        clear hd hx hT1 hT2
        go_wp2
        (refine wp_region_wd (by kernel_rfl) (by kernel_rfl) ?_
         repeat (go_big_quiet_step ((go_at_call 72; exact Calls.wd (hcl.out _))))
         refine wpQuiet_nil ?_
         intro w2 hw'
         obtain ⟨⟨wx, hb2⟩, hw''⟩ := hw'
         subst hw'')
        go_wp2
        go_ret2
        exact ⟨rfl, hbl.trans hb2⟩
      · have hpd : decide ((N : Int) < (l.length : Int)) = false := by simp; omega
        have g := hide (hT2 (by omega))
        clear hT1 hT2
        go_wp2
        (refine wp_region_wd (by kernel_rfl) (by kernel_rfl) ?_
         repeat (go_big_quiet_step ((fail)))
         refine wpQuiet_nil ?_
         intro w2 hw'
         obtain ⟨⟨wx, hb2⟩, hw''⟩ := hw'
         subst hw'')
        go_wp2
        go_ret2
        rw [g.out]
        exact ⟨rfl, hbl.trans hb2⟩

set_option maxHeartbeats 400000 in
theorem bagWhere (A : Option Addr) (c : Nat) (l : List Op) (s : Id) (w : World) (hl : l.length ≤ 1048576) (hA : R cOp 0 w A l) (hs : s.ok) (hso : Srt l) :
    Calls Try.prog 45 #[.slice A l.length c, .agg #[.int .u32 s.t, .int .u8 s.r]] w fun e w' => e = .returned (.tuple #[.int .i64 (posOf l s), .bool (hasId l s)]) ∧ Bl w w' := by
  have hb0 : ∀ o, Bl w (w.alloc o) := fun _ => (Bl.refl _).alloc _
  have hc := hide (fun W (hb : Bl w W) => bagSearch A c l s W hl (hA.bl hb) hs hso)
  go_enter Try.func45, Try.ntmps45
  go_wp2_with fail
  refine (hc.out _ (hb0 _)).mono ?_
  rintro e w1 ⟨rfl, hb1⟩
  go_wp2_with fail
  go_ret2
  exact ⟨rfl, (hb0 _).trans hb1⟩
end Go.Proofs.Ytedcopjpgijpjaa
