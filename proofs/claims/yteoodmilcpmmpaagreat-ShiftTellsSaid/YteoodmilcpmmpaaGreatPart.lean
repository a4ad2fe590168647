/-
  The walks of place.part, Compare: what was drawn is not put back (printed by gen_part.py).
-/
import Derived.Test.YteoodmilcpmmpaaGreatCmp
namespace Go.Proofs.YteoodmilcpmmpaaGreat

open Go.RowKit

theorem wp_skip_seq {P : Program} {a : Act} {w : World} {Q : Exit → Act → World → Prop} {y : Code} (h : y.wp P Q a w) : (Code.seq Code.skip y).wp P Q a w := wp_seq (wp_skip h)

theorem wp_scope_jumps2 {P : Program} {a : Act} {w : World} {Q : Exit → Act → World → Prop} {c rest : Code} (l : Nat) (J : Act → World → Prop) (μ : Act → World → Nat) (hf : findLabel c l = some (Code.seq Code.skip rest))
    (pass : ∀ (K : Act → World → Prop) a w, J a w → (∀ a' w', J a' w' → μ a' w' < μ a w → K a' w') → rest.wp P (Exit.jump l K Q) a w)
    (first : (∀ a w, J a w → rest.wp P (Exit.jump l J Q) a w) → c.wp P (Exit.jump l J Q) a w) : (Code.scope c).wp P Q a w :=
  wp_scope_jumps l J μ hf (first fun a w h => pass J a w h fun _ _ h' _ => h') (fun a w h => wp_skip_seq (pass _ a w h fun _ _ h1 h2 => ⟨h1, h2⟩))

def partLen : Value → Nat
  | .slice _ n _ => n
  | _ => 0

/-- A run as it stands in a place that may be, or in a part of one. -/
def runB (x : Run) : Prop := 1 ≤ x.t ∧ 1 ≤ x.m ∧ x.m ≤ 4096 ∧ x.t + x.m ≤ 1073741825 ∧ 0 ≤ x.r ∧ x.r < 256

theorem runB.ok {x : Run} (h : runB x) : x.ok := by
  obtain ⟨h1, h2, h3, h4, h5, h6⟩ := h
  unfold Run.ok i64ok
  omega

theorem runB.cut {x : Run} {n : Int} (h : runB x) (h0 : 0 ≤ n) (h1 : n < x.m) : runB ⟨x.t + n, x.r, x.m - n⟩ := by
  obtain ⟨h1, h2, h3, h4, h5, h6⟩ := h
  unfold runB
  dsimp only
  omega

/-- How the world stands at the label. -/
structure PartSt (w w' : World) (RES : List Run × List Run) (A B : Option Addr) (na c nb d : Nat) (a b : List Run) (k gA gB : Nat) : Prop where
  la : na = a.length
  lb : nb = b.length
  fuel : na + nb ≤ k
  res : partF k a b = RES
  ra : ∀ x ∈ a, runB x
  rb : ∀ x ∈ b, runB x
  ca : na ≤ c
  cm : c ≤ maxLen
  cb : nb ≤ d
  dm : d ≤ maxLen
  ne : a ≠ [] → b ≠ [] → gA ≠ gB
  ha : HalfAt w' w.heap.size A a gA
  hb : HalfAt w' w.heap.size B b gB
  bd : Bd w w'

def PartEx (w w' : World) (RES : List Run × List Run) (A B : Option Addr) (na c nb d : Nat) : Prop := ∃ a b k gA gB, PartSt w w' RES A B na c nb d a b k gA gB

def PartJ (w : World) (RES : List Run × List Run) (a' : Act) (w' : World) : Prop := ∃ (A B : Option Addr) (na c nb d : Nat) (u : Nat → Value), a' = { tmps := #[.slice A na c, .slice B nb d, u 2, u 3, u 4, u 5, u 6, u 7, u 8, u 9, u 10, u 11, u 12, u 13, u 14, u 15, u 16, u 17, u 18, u 19, u 20, u 21, u 22, u 23, u 24, u 25, u 26, u 27, u 28, u 29, u 30, u 31, u 32, u 33, u 34, u 35, u 36, u 37, u 38, u 39, u 40, u 41, u 42, u 43, u 44, u 45, u 46, u 47, u 48, u 49, u 50, u 51, u 52, u 53, u 54, u 55, u 56, u 57, u 58, u 59, u 60, u 61, u 62, u 63, u 64, u 65, u 66, u 67, u 68, u 69, u 70, u 71, u 72, u 73, u 74], defers := [] } ∧ PartEx w w' RES A B na c nb d

theorem PartJ.of {w w' : World} {RES : List Run × List Run} {a' : Act} (A B : Option Addr) (na c nb d : Nat) (e : a' = { tmps := #[.slice A na c, .slice B nb d, a'.tmps.getD 2 undef, a'.tmps.getD 3 undef, a'.tmps.getD 4 undef, a'.tmps.getD 5 undef, a'.tmps.getD 6 undef, a'.tmps.getD 7 undef, a'.tmps.getD 8 undef, a'.tmps.getD 9 undef, a'.tmps.getD 10 undef, a'.tmps.getD 11 undef, a'.tmps.getD 12 undef, a'.tmps.getD 13 undef, a'.tmps.getD 14 undef, a'.tmps.getD 15 undef, a'.tmps.getD 16 undef, a'.tmps.getD 17 undef, a'.tmps.getD 18 undef, a'.tmps.getD 19 undef, a'.tmps.getD 20 undef, a'.tmps.getD 21 undef, a'.tmps.getD 22 undef, a'.tmps.getD 23 undef, a'.tmps.getD 24 undef, a'.tmps.getD 25 undef, a'.tmps.getD 26 undef, a'.tmps.getD 27 undef, a'.tmps.getD 28 undef, a'.tmps.getD 29 undef, a'.tmps.getD 30 undef, a'.tmps.getD 31 undef, a'.tmps.getD 32 undef, a'.tmps.getD 33 undef, a'.tmps.getD 34 undef, a'.tmps.getD 35 undef, a'.tmps.getD 36 undef, a'.tmps.getD 37 undef, a'.tmps.getD 38 undef, a'.tmps.getD 39 undef, a'.tmps.getD 40 undef, a'.tmps.getD 41 undef, a'.tmps.getD 42 undef, a'.tmps.getD 43 undef, a'.tmps.getD 44 undef, a'.tmps.getD 45 undef, a'.tmps.getD 46 undef, a'.tmps.getD 47 undef, a'.tmps.getD 48 undef, a'.tmps.getD 49 undef, a'.tmps.getD 50 undef, a'.tmps.getD 51 undef, a'.tmps.getD 52 undef, a'.tmps.getD 53 undef, a'.tmps.getD 54 undef, a'.tmps.getD 55 undef, a'.tmps.getD 56 undef, a'.tmps.getD 57 undef, a'.tmps.getD 58 undef, a'.tmps.getD 59 undef, a'.tmps.getD 60 undef, a'.tmps.getD 61 undef, a'.tmps.getD 62 undef, a'.tmps.getD 63 undef, a'.tmps.getD 64 undef, a'.tmps.getD 65 undef, a'.tmps.getD 66 undef, a'.tmps.getD 67 undef, a'.tmps.getD 68 undef, a'.tmps.getD 69 undef, a'.tmps.getD 70 undef, a'.tmps.getD 71 undef, a'.tmps.getD 72 undef, a'.tmps.getD 73 undef, a'.tmps.getD 74 undef], defers := [] }) (h : PartEx w w' RES A B na c nb d) : PartJ w RES a' w' := ⟨A, B, na, c, nb, d, fun i => a'.tmps.getD i undef, e, h⟩

/-- What place.part hands back. -/
def PartP (RES : List Run × List Run) (w : World) (e : Ending) (w' : World) : Prop := ∃ A c B d, e = .returned (.tuple #[.slice A RES.1.length c, .slice B RES.2.length d]) ∧ R cRun w.heap.size w' A RES.1 ∧ R cRun w.heap.size w' B RES.2 ∧ Bd w w'

theorem PartSt.done {w w' : World} {RES : List Run × List Run} {A B : Option Addr} {na c nb d k gA gB : Nat} {a b : List Run} (h : PartSt w w' RES A B na c nb d a b k gA gB) (hd : partF k a b = (a, b)) {w'' : World} (hb : Bd w' w'') : PartP RES w (.returned (.tuple #[.slice A na c, .slice B nb d])) w'' := by
  have e : RES = (a, b) := h.res.symm.trans hd
  rw [e]
  exact ⟨A, c, B, d, by rw [h.la, h.lb], h.ha.R.bl hb.bl, h.hb.R.bl hb.bl, h.bd.trans hb⟩

theorem partF_nil {k : Nat} {b : List Run} : partF k [] b = ([], b) := by cases k <;> rfl

theorem partF_nil2 {k : Nat} {a : List Run} : partF k a [] = (a, []) := by
  cases k
  · rfl
  · cases a <;> rfl

theorem partF_ne {k : Nat} {x y : Run} {a b : List Run} (h : ¬ (x.t = y.t ∧ x.r = y.r)) : partF k (x :: a) (y :: b) = (x :: a, y :: b) := by
  cases k
  · rfl
  · show (if _ then _ else _) = _
    rw [if_neg h]

theorem cut_is {x : Run} {l : List Run} {n : Int} (h : x.m = n) : cutF (x :: l) n = l := by
  unfold cutF
  simp only [if_pos h]

theorem cut_not {x : Run} {l : List Run} {n : Int} (h : ¬ x.m = n) : cutF (x :: l) n = ⟨x.t + n, x.r, x.m - n⟩ :: l := by
  unfold cutF
  simp only [if_neg h]

theorem cut_runB {x : Run} {l : List Run} {n : Int} (h : ∀ z ∈ x :: l, runB z) (h0 : 1 ≤ n) (h1 : n ≤ x.m) : ∀ z ∈ cutF (x :: l) n, runB z := fun z hz => by
  by_cases e : x.m = n
  · rw [cut_is e] at hz
    exact h z (List.mem_cons_of_mem _ hz)
  · rw [cut_not e] at hz
    rcases List.mem_cons.1 hz with rfl | hz
    · exact (h x (List.mem_cons_self ..)).cut (by omega) (by omega)
    · exact h z (List.mem_cons_of_mem _ hz)

theorem PartSt.next {w w' W : World} {RES : List Run × List Run} {A B A2 B2 : Option Addr} {na c nb d na2 c2 nb2 d2 k gA gB : Nat} {x y : Run} {t s : List Run} {n : Int} (h : PartSt w w' RES A B na c nb d (x :: t) (y :: s) k gA gB) (hxy : x.t = y.t ∧ x.r = y.r) (n1 : 1 ≤ n) (n2 : n ≤ x.m) (n3 : n ≤ y.m) (n4 : n = x.m ∨ n = y.m)
    (la : na2 = (cutF (x :: t) n).length) (lb : nb2 = (cutF (y :: s) n).length) (ca : na2 ≤ c2) (cm : c2 ≤ maxLen) (cb : nb2 ≤ d2) (dm : d2 ≤ maxLen) (hA : HalfAt W w.heap.size A2 (cutF (x :: t) n) gA) (hB : HalfAt W w.heap.size B2 (cutF (y :: s) n) gB) (bd : Bd w W) :
    PartEx w W RES A2 B2 na2 c2 nb2 d2 ∧ na2 + nb2 < na + nb := by
  have e1 := cutF_len x t n
  have e2 := cutF_len y s n
  have l1 := h.la
  have l2 := h.lb
  rw [List.length_cons] at l1 l2
  have hlt : na2 + nb2 < na + nb := by
    rcases n4 with e | e
    · have := e1.2 e.symm
      omega
    · have := e2.2 e.symm
      omega
  have hf := h.fuel
  obtain ⟨k', rfl⟩ : ∃ k', k = k' + 1 := ⟨k - 1, by omega⟩
  have hm : min x.m y.m = n := by omega
  have hr := h.res
  unfold partF at hr
  rw [if_pos hxy, hm] at hr
  exact ⟨⟨_, _, k', gA, gB, la, lb, by omega, hr, cut_runB h.ra n1 n2, cut_runB h.rb n1 n3, ca, cm, cb, dm, fun _ _ => h.ne (by simp) (by simp), hA, hB, bd⟩, hlt⟩

set_option maxRecDepth 100000 in
set_option maxHeartbeats 4000000 in
theorem placePartD (A0 B0 : Option Addr) (c0 d0 : Nat) (a0 b0 : List Run) (w : World) (hla : a0.length ≤ 64) (hlb : b0.length ≤ 64) (hra : ∀ x ∈ a0, runB x) (hrb : ∀ x ∈ b0, runB x) (hA : R cRun 0 w A0 a0) (hB : R cRun 0 w B0 b0) :
    Calls Tryz.prog 65 #[.slice A0 a0.length c0, .slice B0 b0.length d0] w (PartP (partF (a0.length + b0.length) a0 b0) w) := by
  have hca := hide fun V (hv : Bd w V) => runCloneD A0 c0 a0 V (by omega) (hA.bd hv)
  have hcb := hide fun V (hv : Bd w V) => runCloneD B0 d0 b0 V (by omega) (hB.bd hv)
  obtain ⟨RES, hRES⟩ : ∃ RES, RES = partF (a0.length + b0.length) a0 b0 := ⟨_, rfl⟩
  rw [← hRES]
  replace hRES := hide hRES
  replace hra := hide hra
  replace hrb := hide hrb
  go_enter Tryz.func65, Tryz.ntmps65
  go_wp2_with fail
  refine wp_scope_jumps2 0 (PartJ w RES) (fun a' _ => partLen (a'.tmps.getD 0 undef) + partLen (a'.tmps.getD 1 undef)) rfl ?_ ?_
  · rintro K a' w' ⟨A, B, na, c, nb, d, u, rfl, a, b, k, gA, gB, hst⟩ hK
    have hsth := hide hst
    by_cases hn1 : a = []
    · have la := hst.la
      subst hn1
      have e1 : ((na : Int) == 0) = true := by
        have h1 : na = 0 := la
        simp [h1]
      clear la
      have hfin := hide fun V (hv : Bd w' V) => hst.done partF_nil hv
      clear hst hsth
      go_wp2_with fail
      (refine wp_region_wdd (by kernel_rfl) (by kernel_rfl) ?_
       repeat (go_big_quiet_step ((fail)))
       refine wpQuiet_nil ?_
       intro w2 hw'
       obtain ⟨⟨wx, hb2⟩, hw''⟩ := hw'
       subst hw'')
      go_wp2_with fail
      change bodyPost Tryz.prog Tryz.f65 (PartP RES w) Exit.ret _ _
      go_ret2
      exact hfin.out _ hb2
    by_cases hn2 : b = []
    · have lb := hst.lb
      subst hn2
      have e2 : ((nb : Int) == 0) = true := by
        have h1 : nb = 0 := lb
        simp [h1]
      clear lb
      have e1 : ((na : Int) == 0) = false := by
        have h1 := hst.la
        have h2 := List.length_pos_iff.2 hn1
        simp
        omega
      have hfin := hide fun V (hv : Bd w' V) => hst.done partF_nil2 hv
      clear hst hsth hn1
      go_wp2_with fail
      (refine wp_region_wdd (by kernel_rfl) (by kernel_rfl) ?_
       repeat (go_big_quiet_step ((fail)))
       refine wpQuiet_nil ?_
       intro w2 hw'
       obtain ⟨⟨wx, hb2⟩, hw''⟩ := hw'
       subst hw'')
      go_wp2_with fail
      change bodyPost Tryz.prog Tryz.f65 (PartP RES w) Exit.ret _ _
      go_ret2
      exact hfin.out _ hb2
    obtain ⟨x, t, rfl⟩ : ∃ x t, a = x :: t := by
      cases a with
      | nil => exact absurd rfl hn1
      | cons x t => exact ⟨x, t, rfl⟩
    obtain ⟨y, s, rfl⟩ : ∃ y s, b = y :: s := by
      cases b with
      | nil => exact absurd rfl hn2
      | cons y s => exact ⟨y, s, rfl⟩
    clear hn1 hn2
    have la := hst.la
    have lb := hst.lb
    have hgab := hst.ne (by simp) (by simp)
    obtain ⟨offA, rfl, hgA, hxo, atA⟩ := hst.ha.open
    obtain ⟨offB, rfl, hgB, hyo, atB⟩ := hst.hb.open
    have hrx := hst.ra x (List.mem_cons_self ..)
    have hry := hst.rb y (List.mem_cons_self ..)
    rw [List.length_cons] at la lb
    have e1 : ((na : Int) == 0) = false := by simp; omega
    have e2 : ((nb : Int) == 0) = false := by simp; omega
    have i1 : (0 : Int) < (na : Int) := by omega
    have i2 : (0 : Int) < (nb : Int) := by omega
    replace la := hide la
    replace lb := hide lb
    have X0 := fun p : Wdd w' => Wdd.cell (by have := (atA 0 _ rfl).1; rwa [Nat.add_zero] at this) hgA.2 p
    have X1 := fun p : Wdd w' => Wdd.cell (atA 1 _ rfl).1 hgA.2 p
    have X2 := fun p : Wdd w' => Wdd.cell (atA 2 _ rfl).1 hgA.2 p
    have Y0 := fun p : Wdd w' => Wdd.cell (by have := (atB 0 _ rfl).1; rwa [Nat.add_zero] at this) hgB.2 p
    have Y1 := fun p : Wdd w' => Wdd.cell (atB 1 _ rfl).1 hgB.2 p
    have Y2 := fun p : Wdd w' => Wdd.cell (atB 2 _ rfl).1 hgB.2 p
    have hneq := run_neqId ⟨x.t, x.r⟩ ⟨y.t, y.r⟩
    by_cases hxy : x.t = y.t ∧ x.r = y.r
    rotate_left
    · have hq : neqId ⟨x.t, x.r⟩ ⟨y.t, y.r⟩ = true := neqId_ne fun h => hxy ⟨congrArg Id.t h, congrArg Id.r h⟩
      rw [hq] at hneq
      have hfin := hide fun V (hv : Bd w' V) => hst.done (partF_ne hxy) hv
      clear hst hsth hxy hq la lb hxo hyo hrx hry atA atB
      go_wp2_with fail
      (refine wp_region_wdd (by kernel_rfl) (by kernel_rfl) ?_
       repeat (go_big_quiet_step ((first | (go_at_call 67; first | with_reducible exact Calls.wdd (placeFirstD x _) | with_reducible exact Calls.wdd (placeFirstD y _)))))
       refine wpQuiet_nil ?_
       intro w2 hw'
       obtain ⟨⟨wx, hb2⟩, hw''⟩ := hw'
       subst hw'')
      go_wp2_with fail
      change bodyPost Tryz.prog Tryz.f65 (PartP RES w) Exit.ret _ _
      go_ret2
      exact hfin.out _ hb2
    have hq : neqId ⟨x.t, x.r⟩ ⟨y.t, y.r⟩ = false := by rw [show (⟨x.t, x.r⟩ : Id) = ⟨y.t, y.r⟩ from Id.ext' hxy.1 hxy.2]; exact neqId_self _
    rw [hq] at hneq
    replace hxy := hide hxy
    clear hq hst
    go_wp2_with fail
    (refine wp_region_wdd (by kernel_rfl) (by kernel_rfl) ?_
     repeat (go_big_quiet_step ((first | (go_at_call 67; first | with_reducible exact Calls.wdd (placeFirstD x _) | with_reducible exact Calls.wdd (placeFirstD y _)))))
     refine wpQuiet_nil ?_
     intro w2 hw'
     obtain ⟨⟨wx, hb2⟩, hw''⟩ := hw'
     subst hw'')
    clear X0 X1 X2 Y0 Y1 Y2
    have X2 := fun p : Wdd w2 => Wdd.cell (atA.bd hb2 (by simp) 2 _ rfl).1 (Nat.lt_of_lt_of_le hgA.2 hb2.size) p
    have Y2 := fun p : Wdd w2 => Wdd.cell (atB.bd hb2 (by simp) 2 _ rfl).1 (Nat.lt_of_lt_of_le hgB.2 hb2.size) p
    go_upto_region 4 with fail
    (refine wp_region_wdd (by kernel_rfl) (by kernel_rfl) ?_
     repeat (go_big_quiet_step ((fail)))
     refine wpQuiet_nil ?_
     intro w4 hw'
     obtain ⟨⟨wx, hb4⟩, hw''⟩ := hw'
     subst hw'')
    go_upto_region 5 with fail
    obtain ⟨n, hn⟩ : ∃ n, n = if y.m < x.m then y.m else x.m := ⟨_, rfl⟩
    rw [← hn]
    have hb04 := hb2.trans hb4
    obtain ⟨x1, x2, x3, x4, x5, x6⟩ := hrx
    obtain ⟨y1, y2, y3, y4, y5, y6⟩ := hry
    have hnb : 1 ≤ n ∧ n ≤ x.m ∧ n ≤ y.m ∧ (n = x.m ∨ n = y.m) := by
      rw [hn]
      split <;> omega
    obtain ⟨n1, n2, n3, n4⟩ := hnb
    replace hn := hide hn
    replace n4 := hide n4
    have atA4 := atA.bd hb04 (by simp)
    have atB4 := atB.bd hb04 (by simp)
    have p0 := (atA4 0 _ rfl).1
    have p1 := (atA4 1 _ rfl).1
    have p2 := (atA4 2 _ rfl).1
    rw [Nat.add_zero] at p0
    clear X2 Y2
    have hsA := hide (placeSplitD x n)
    have hsB := hide (placeSplitD y n)
    go_wp2_with fail
    refine (hsA.out _ (by omega) (by omega) (by omega) n2 x3).mono ?_
    rintro e w5 ⟨rfl, hb5⟩
    have hb05 := hb04.trans hb5
    have atA5 := atA4.bd hb5 (by simp)
    clear p0 p1 p2
    have p0 := (atA5 0 _ rfl).1
    have p1 := (atA5 1 _ rfl).1
    have p2 := (atA5 2 _ rfl).1
    have f0 := (atA5 0 _ rfl).2
    have f1 := (atA5 1 _ rfl).2
    have f2 := (atA5 2 _ rfl).2
    rw [Nat.add_zero] at p0 f0
    go_upto_region 6 with fail
    have hz5 := Nat.lt_of_lt_of_le hgA.2 hb05.size
    have hA5 := (hsth.out.ha.bl hb05.bl).set (y := ⟨x.t + n, x.r, x.m - n⟩) (by unfold Run.ok i64ok; dsimp only; omega)
    have hB5 := (((hsth.out.hb.bl hb05.bl).other (k := gA) (o := offA) (u := .int .u32 (x.t + n)) hgab).other (k := gA) (o := offA + 1) (u := .int .u8 x.r) hgab).other (k := gA) (o := offA + 2) (u := .int .i64 (x.m - n)) hgab
    have bd5 := (((hsth.out.bd.trans hb05).setCell (p := ⟨gA, offA, none⟩) hgA.1 (.int .u32 (x.t + n))).setCell (p := ⟨gA, offA + 1, none⟩) hgA.1 (.int .u8 x.r)).setCell (p := ⟨gA, offA + 2, none⟩) hgA.1 (.int .i64 (x.m - n))
    generalize ((w5.setCell ⟨gA, offA, none⟩ (.int .u32 (x.t + n))).setCell ⟨gA, offA + 1, none⟩ (.int .u8 x.r)).setCell ⟨gA, offA + 2, none⟩ (.int .i64 (x.m - n)) = W5 at *
    obtain ⟨_, hoe, hgA5, _, atA6⟩ := hA5.open
    cases hoe
    obtain ⟨_, hoe, hgB5, _, atB6⟩ := hB5.open
    cases hoe
    have hA5 := hide hA5
    have hB5 := hide hB5
    clear p0 p1 p2 f0 f1 f2 atA5 atA4 atB4 atA atB hb2 hb4 hb5 hb04 hb05 hz5
    have q2 := (atA6 2 _ rfl).1
    have b0 := (atB6 0 _ rfl).1
    have b1 := (atB6 1 _ rfl).1
    have b2 := (atB6 2 _ rfl).1
    rw [Nat.add_zero] at b0
    by_cases hxm : x.m = n
    · have e3 : ((x.m - n) == 0) = true := by simp; omega
      have ea := cut_is (l := t) hxm
      have hA2 := hide (hA5.out.tail (c := c) (by have := la.out; have := hsth.out.ca; omega))
      replace hxm := hide hxm
      replace ea := hide ea
      clear hA5 atA6
      go_upto_region 8 with fail
      clear q2
      generalize (if c = 1 then some (⟨gA, offA, none⟩ : Addr) else some ⟨gA, offA + 3, none⟩) = A2 at *
      go_wp2_with fail
      refine (hsB.out _ (by omega) (by omega) (by omega) n3 y3).mono ?_
      rintro e w7 ⟨rfl, hb7⟩
      have atB7 := atB6.bd hb7 (by simp)
      clear b0 b1 b2
      have b0 := (atB7 0 _ rfl).1
      have b1 := (atB7 1 _ rfl).1
      have b2 := (atB7 2 _ rfl).1
      have g0 := (atB7 0 _ rfl).2
      have g1 := (atB7 1 _ rfl).2
      have g2 := (atB7 2 _ rfl).2
      rw [Nat.add_zero] at b0 g0
      go_upto_region 9 with fail
      have hB7 := (hB5.out.bl hb7.bl).set (y := ⟨y.t + n, y.r, y.m - n⟩) (by unfold Run.ok i64ok; dsimp only; omega)
      have hA7 := (((hA2.out.bl hb7.bl).other (k := gB) (o := offB) (u := .int .u32 (y.t + n)) hgab.symm).other (k := gB) (o := offB + 1) (u := .int .u8 y.r) hgab.symm).other (k := gB) (o := offB + 2) (u := .int .i64 (y.m - n)) hgab.symm
      have bd7 := (((bd5.trans hb7).setCell (p := ⟨gB, offB, none⟩) hgB5.1 (.int .u32 (y.t + n))).setCell (p := ⟨gB, offB + 1, none⟩) hgB5.1 (.int .u8 y.r)).setCell (p := ⟨gB, offB + 2, none⟩) hgB5.1 (.int .i64 (y.m - n))
      generalize ((w7.setCell ⟨gB, offB, none⟩ (.int .u32 (y.t + n))).setCell ⟨gB, offB + 1, none⟩ (.int .u8 y.r)).setCell ⟨gB, offB + 2, none⟩ (.int .i64 (y.m - n)) = W7 at *
      obtain ⟨_, hoe, hgB7, _, atB8⟩ := hB7.open
      cases hoe
      have hB7 := hide hB7
      have hA7 := hide hA7
      clear b0 b1 b2 g0 g1 g2 atB7 hb7 hA2 hB5 atB6
      have b2 := (atB8 2 _ rfl).1
      by_cases hym : y.m = n
      · have e4 : ((y.m - n) == 0) = true := by simp; omega
        have eb := cut_is (l := s) hym
        replace hym := hide hym
        replace eb := hide eb
        have hB8 := hB7.out.tail (c := d) (by have := lb.out; have := hsth.out.cb; omega)
        by_cases hd : d = 1
        · rw [if_pos hd] at hB8
          have hnx := hide (hsth.out.next (A2 := A2) (na2 := na - 1) (c2 := c - 1) (B2 := some ⟨gB, offB, none⟩) (nb2 := nb - 1) (d2 := 0) hxy.out n1 n2 n3 n4.out (by rw [ea.out]; have := la.out; omega) (by rw [eb.out]; have := lb.out; omega) (by have := hsth.out.ca; omega) (by have := hsth.out.cm; omega) (by have := hsth.out.cb; omega) (Nat.zero_le _)
            (by rw [ea.out]; exact hA7.out) (by rw [eb.out]; exact hB8) bd7)
          clear hB7 hA7 bd7 hB8
          replace hsth := hide hsth
          subst hd
          go_wp2_with fail
          go_step3
          exact ⟨rfl, hK _ _ (PartJ.of _ _ _ _ _ _ rfl hnx.out.1) hnx.out.2⟩
        · rw [if_neg hd] at hB8
          have hnx := hide (hsth.out.next (A2 := A2) (na2 := na - 1) (c2 := c - 1) (B2 := some ⟨gB, offB + 3, none⟩) (nb2 := nb - 1) (d2 := d - 1) hxy.out n1 n2 n3 n4.out (by rw [ea.out]; have := la.out; omega) (by rw [eb.out]; have := lb.out; omega) (by have := hsth.out.ca; omega) (by have := hsth.out.cm; omega) (by have := hsth.out.cb; omega) (by have := hsth.out.dm; omega)
            (by rw [ea.out]; exact hA7.out) (by rw [eb.out]; exact hB8) bd7)
          clear hB7 hA7 bd7 hB8
          go_wp2_with fail
          go_step3
          exact ⟨rfl, hK _ _ (PartJ.of _ _ _ _ _ _ rfl hnx.out.1) hnx.out.2⟩
      · have e4 : ((y.m - n) == 0) = false := by simp; omega
        have eb := cut_not (l := s) hym
        have hnx := hide (hsth.out.next (A2 := A2) (na2 := na - 1) (c2 := c - 1) (B2 := some ⟨gB, offB, none⟩) (nb2 := nb) (d2 := d) hxy.out n1 n2 n3 n4.out (by rw [ea.out]; have := la.out; omega) (by rw [eb, List.length_cons]; have := lb.out; omega) (by have := hsth.out.ca; omega) (by have := hsth.out.cm; omega) (by have := hsth.out.cb; omega) (by have := hsth.out.dm; omega)
          (by rw [ea.out]; exact hA7.out) (by rw [eb]; exact hB7.out) bd7)
        replace hym := hide hym
        replace eb := hide eb
        clear hB7 hA7 bd7
        go_wp2_with fail
        go_step3
        exact ⟨rfl, hK _ _ (PartJ.of _ _ _ _ _ _ rfl hnx.out.1) hnx.out.2⟩
    · have e3 : ((x.m - n) == 0) = false := by simp; omega
      have ea := cut_not (l := t) hxm
      have hA2 := hide hA5.out
      replace hxm := hide hxm
      replace ea := hide ea
      clear hA5 atA6
      go_upto_region 8 with fail
      clear q2
      go_wp2_with fail
      refine (hsB.out _ (by omega) (by omega) (by omega) n3 y3).mono ?_
      rintro e w7 ⟨rfl, hb7⟩
      have atB7 := atB6.bd hb7 (by simp)
      clear b0 b1 b2
      have b0 := (atB7 0 _ rfl).1
      have b1 := (atB7 1 _ rfl).1
      have b2 := (atB7 2 _ rfl).1
      have g0 := (atB7 0 _ rfl).2
      have g1 := (atB7 1 _ rfl).2
      have g2 := (atB7 2 _ rfl).2
      rw [Nat.add_zero] at b0 g0
      go_upto_region 9 with fail
      have hB7 := (hB5.out.bl hb7.bl).set (y := ⟨y.t + n, y.r, y.m - n⟩) (by unfold Run.ok i64ok; dsimp only; omega)
      have hA7 := (((hA2.out.bl hb7.bl).other (k := gB) (o := offB) (u := .int .u32 (y.t + n)) hgab.symm).other (k := gB) (o := offB + 1) (u := .int .u8 y.r) hgab.symm).other (k := gB) (o := offB + 2) (u := .int .i64 (y.m - n)) hgab.symm
      have bd7 := (((bd5.trans hb7).setCell (p := ⟨gB, offB, none⟩) hgB5.1 (.int .u32 (y.t + n))).setCell (p := ⟨gB, offB + 1, none⟩) hgB5.1 (.int .u8 y.r)).setCell (p := ⟨gB, offB + 2, none⟩) hgB5.1 (.int .i64 (y.m - n))
      generalize ((w7.setCell ⟨gB, offB, none⟩ (.int .u32 (y.t + n))).setCell ⟨gB, offB + 1, none⟩ (.int .u8 y.r)).setCell ⟨gB, offB + 2, none⟩ (.int .i64 (y.m - n)) = W7 at *
      obtain ⟨_, hoe, hgB7, _, atB8⟩ := hB7.open
      cases hoe
      have hB7 := hide hB7
      have hA7 := hide hA7
      clear b0 b1 b2 g0 g1 g2 atB7 hb7 hA2 hB5 atB6
      have b2 := (atB8 2 _ rfl).1
      by_cases hym : y.m = n
      · have e4 : ((y.m - n) == 0) = true := by simp; omega
        have eb := cut_is (l := s) hym
        replace hym := hide hym
        replace eb := hide eb
        have hB8 := hB7.out.tail (c := d) (by have := lb.out; have := hsth.out.cb; omega)
        by_cases hd : d = 1
        · rw [if_pos hd] at hB8
          have hnx := hide (hsth.out.next (A2 := some ⟨gA, offA, none⟩) (na2 := na) (c2 := c) (B2 := some ⟨gB, offB, none⟩) (nb2 := nb - 1) (d2 := 0) hxy.out n1 n2 n3 n4.out (by rw [ea.out, List.length_cons]; have := la.out; omega) (by rw [eb.out]; have := lb.out; omega) (by have := hsth.out.ca; omega) (by have := hsth.out.cm; omega) (by have := hsth.out.cb; omega) (Nat.zero_le _)
            (by rw [ea.out]; exact hA7.out) (by rw [eb.out]; exact hB8) bd7)
          clear hB7 hA7 bd7 hB8
          replace hsth := hide hsth
          subst hd
          go_wp2_with fail
          go_step3
          exact ⟨rfl, hK _ _ (PartJ.of _ _ _ _ _ _ rfl hnx.out.1) hnx.out.2⟩
        · rw [if_neg hd] at hB8
          have hnx := hide (hsth.out.next (A2 := some ⟨gA, offA, none⟩) (na2 := na) (c2 := c) (B2 := some ⟨gB, offB + 3, none⟩) (nb2 := nb - 1) (d2 := d - 1) hxy.out n1 n2 n3 n4.out (by rw [ea.out, List.length_cons]; have := la.out; omega) (by rw [eb.out]; have := lb.out; omega) (by have := hsth.out.ca; omega) (by have := hsth.out.cm; omega) (by have := hsth.out.cb; omega) (by have := hsth.out.dm; omega)
            (by rw [ea.out]; exact hA7.out) (by rw [eb.out]; exact hB8) bd7)
          clear hB7 hA7 bd7 hB8
          go_wp2_with fail
          go_step3
          exact ⟨rfl, hK _ _ (PartJ.of _ _ _ _ _ _ rfl hnx.out.1) hnx.out.2⟩
      · have e4 : ((y.m - n) == 0) = false := by simp; omega
        have eb := cut_not (l := s) hym
        have hnx := hide (hsth.out.next (A2 := some ⟨gA, offA, none⟩) (na2 := na) (c2 := c) (B2 := some ⟨gB, offB, none⟩) (nb2 := nb) (d2 := d) hxy.out n1 n2 n3 n4.out (by rw [ea.out, List.length_cons]; have := la.out; omega) (by rw [eb, List.length_cons]; have := lb.out; omega) (by have := hsth.out.ca; omega) (by have := hsth.out.cm; omega) (by have := hsth.out.cb; omega) (by have := hsth.out.dm; omega)
          (by rw [ea.out]; exact hA7.out) (by rw [eb]; exact hB7.out) bd7)
        replace hym := hide hym
        replace eb := hide eb
        clear hB7 hA7 bd7
        go_wp2_with fail
        go_step3
        exact ⟨rfl, hK _ _ (PartJ.of _ _ _ _ _ _ rfl hnx.out.1) hnx.out.2⟩
  · intro hp
    go_wp2_with fail
    refine (hca.out _ (Bd.refl _)).mono ?_
    rintro e w1 ⟨A1, c1, rfl, p1, p2, hR1, hb1⟩
    go_wp2_with fail
    refine (hcb.out _ hb1).mono ?_
    rintro e w2 ⟨B1, d1, rfl, q1, q2, hR2, hb2⟩
    obtain ⟨gA, hgA⟩ := HalfAt.of hR1
    obtain ⟨gB, hgB⟩ := HalfAt.of hR2
    have hst : PartSt w w2 RES A1 B1 a0.length c1 b0.length d1 a0 b0 (a0.length + b0.length) gA gB :=
      ⟨rfl, rfl, Nat.le_refl _, hRES.out.symm, hra.out, hrb.out, p1, p2, q1, q2, fun h1 h2 => by
        have h3 := (hgA h1).1
        have h4 := (hgB h2).1
        omega, hgA.bl hb2.bl, fun hn => ⟨⟨Nat.le_trans hb1.size (hgB hn).1.1, (hgB hn).1.2⟩, (hgB hn).2⟩, hb1.trans hb2⟩
    clear hR1 hR2 hgA hgB
    replace hst := hide hst
    go_wp2_with fail
    go_step3
    rename_i hk
    exact hk _ _ (hp _ _ (PartJ.of A1 B1 a0.length c1 b0.length d1 rfl ⟨a0, b0, _, gA, gB, hst.out⟩))

theorem any_runB {w : World} {A : Option Addr} {a : List Run} {lo : Nat} (h : plAny a = true) (hA : R cRun lo w A a) : a.length ≤ 64 ∧ ∀ x ∈ a, runB x := by
  unfold plAny at h
  rw [Bool.or_eq_true, decide_eq_true_eq] at h
  rcases h with h | h
  · refine ⟨by omega, fun x hx => ?_⟩
    rw [List.eq_nil_of_length_eq_zero h] at hx
    cases hx
  · obtain ⟨h1, h2, h3, h4⟩ := placeMay_parts h
    refine ⟨h2, fun x hx => ?_⟩
    have hb := runOne_bd (runsFrom_all a _ _ h3 x hx)
    obtain ⟨k, hk⟩ := List.getElem?_of_mem hx
    obtain ⟨b, off, rfl, _, _⟩ := hA.addr (by have := (List.getElem?_eq_some_iff.1 hk).1; omega)
    obtain ⟨_, ⟨o0, o1, o2, o3, o4⟩, _⟩ := hA.run hk
    unfold runB
    omega

set_option maxRecDepth 100000 in
set_option maxHeartbeats 4000000 in
theorem placeCompareD (A B : Option Addr) (c d : Nat) (a b : List Run) (w : World) (hla : a.length ≤ maxLen) (hlb : b.length ≤ maxLen) (hA : R cRun 0 w A a) (hB : R cRun 0 w B b) :
    Calls Tryz.prog 20 #[.slice A a.length c, .slice B b.length d] w fun e w' => e = .returned (.int .i64 (plCmp a b)) ∧ Bd w w' := by
  have hma := fun V (hv : Bd w V) => placeMayD A c a V hla (hA.bd hv)
  have hmb := fun V (hv : Bd w V) => placeMayD B d b V hlb (hB.bd hv)
  cases ha : plAny a
  · have e1 : plCmp a b = 0 := by unfold plCmp; rw [ha]; rfl
    rw [e1]
    rw [ha] at hma
    replace hma := hide hma
    clear hmb ha e1
    go_enter Tryz.func20, Tryz.ntmps20
    go_wp2_with fail
    refine (hma.out _ (Bd.refl _)).mono ?_
    rintro e w1 ⟨rfl, hb1⟩
    go_wp2_with fail
    go_ret
    exact ⟨rfl, hb1⟩
  cases hb : plAny b
  · have e1 : plCmp a b = 0 := by unfold plCmp; rw [ha, hb]; rfl
    rw [e1]
    rw [ha] at hma
    rw [hb] at hmb
    replace hma := hide hma
    replace hmb := hide hmb
    clear ha hb e1
    go_enter Tryz.func20, Tryz.ntmps20
    go_wp2_with fail
    refine (hma.out _ (Bd.refl _)).mono ?_
    rintro e w1 ⟨rfl, hb1⟩
    go_wp2_with fail
    refine (hmb.out _ hb1).mono ?_
    rintro e w2 ⟨rfl, hb2⟩
    go_wp2_with fail
    go_ret
    exact ⟨rfl, hb1.trans hb2⟩
  obtain ⟨n1, r1⟩ := any_runB ha hA
  obtain ⟨n2, r2⟩ := any_runB hb hB
  have e1 : plCmp a b = sideF (partF (a.length + b.length) a b) := by unfold plCmp; rw [ha, hb]; rfl
  rw [e1]
  rw [ha] at hma
  rw [hb] at hmb
  replace hma := hide hma
  replace hmb := hide hmb
  have hpt := hide fun V (hv : Bd w V) => placePartD A B c d a b V n1 n2 r1 r2 (hA.bd hv) (hB.bd hv)
  generalize partF (a.length + b.length) a b = RES at *
  clear ha hb e1 n1 n2 r1 r2
  obtain ⟨l, m⟩ := RES
  cases l with
  | nil =>
    cases m with
    | nil =>
      show Calls _ _ _ _ fun e w' => e = .returned (.int .i64 0) ∧ _
      go_enter Tryz.func20, Tryz.ntmps20
      go_wp2_with fail
      refine (hma.out _ (Bd.refl _)).mono ?_
      rintro e w1 ⟨rfl, hb1⟩
      go_wp2_with fail
      refine (hmb.out _ hb1).mono ?_
      rintro e w2 ⟨rfl, hb2⟩
      have hb02 := hb1.trans hb2
      go_wp2_with fail
      refine (hpt.out _ hb02).mono ?_
      rintro e w3 ⟨X, x, Y, y, rfl, hX, hY, hb3⟩
      go_wp2_with fail
      go_ret
      exact ⟨rfl, hb02.trans hb3⟩
    | cons q m =>
      show Calls _ _ _ _ fun e w' => e = .returned (.int .i64 (-1)) ∧ _
      go_enter Tryz.func20, Tryz.ntmps20
      go_wp2_with fail
      refine (hma.out _ (Bd.refl _)).mono ?_
      rintro e w1 ⟨rfl, hb1⟩
      go_wp2_with fail
      refine (hmb.out _ hb1).mono ?_
      rintro e w2 ⟨rfl, hb2⟩
      have hb02 := hb1.trans hb2
      go_wp2_with fail
      refine (hpt.out _ hb02).mono ?_
      rintro e w3 ⟨X, x, Y, y, rfl, hX, hY, hb3⟩
      have e2 : (((q :: m).length : Int) == 0) = false := by simp; omega
      generalize (q :: m).length = n at *
      go_wp2_with fail
      go_ret
      exact ⟨rfl, hb02.trans hb3⟩
  | cons p l =>
    cases m with
    | nil =>
      show Calls _ _ _ _ fun e w' => e = .returned (.int .i64 1) ∧ _
      go_enter Tryz.func20, Tryz.ntmps20
      go_wp2_with fail
      refine (hma.out _ (Bd.refl _)).mono ?_
      rintro e w1 ⟨rfl, hb1⟩
      go_wp2_with fail
      refine (hmb.out _ hb1).mono ?_
      rintro e w2 ⟨rfl, hb2⟩
      have hb02 := hb1.trans hb2
      go_wp2_with fail
      refine (hpt.out _ hb02).mono ?_
      rintro e w3 ⟨X, x, Y, y, rfl, hX, hY, hb3⟩
      have e2 : (((p :: l).length : Int) == 0) = false := by simp; omega
      generalize (p :: l).length = n at *
      go_wp2_with fail
      (refine wp_region_wdd (by kernel_rfl) (by kernel_rfl) ?_
       repeat (go_big_quiet_step ((fail)))
       refine wpQuiet_nil ?_
       intro w4 hw'
       obtain ⟨⟨wx, hb4⟩, hw''⟩ := hw'
       subst hw'')
      go_wp2_with fail
      go_ret
      exact ⟨rfl, (hb02.trans hb3).trans hb4⟩
    | cons q m =>
      obtain ⟨N, hN⟩ : ∃ N : Int, sideF (p :: l, q :: m) = N ∧ ∀ v, idLess ⟨q.t, q.r⟩ ⟨p.t, p.r⟩ = v → (v = true → N = -1) ∧ (v = false → N = 1) := ⟨_, rfl, fun v hv => ⟨fun h => by
        show (if idLess ⟨q.t, q.r⟩ ⟨p.t, p.r⟩ then (-1 : Int) else 1) = -1
        rw [hv, h]
        rfl, fun h => by
        show (if idLess ⟨q.t, q.r⟩ ⟨p.t, p.r⟩ then (-1 : Int) else 1) = 1
        rw [hv, h]
        rfl⟩⟩
      rw [hN.1]
      replace hN := hide hN.2
      go_enter Tryz.func20, Tryz.ntmps20
      go_wp2_with fail
      refine (hma.out _ (Bd.refl _)).mono ?_
      rintro e w1 ⟨rfl, hb1⟩
      go_wp2_with fail
      refine (hmb.out _ hb1).mono ?_
      rintro e w2 ⟨rfl, hb2⟩
      have hb02 := hb1.trans hb2
      go_wp2_with fail
      refine (hpt.out _ hb02).mono ?_
      rintro e w3 ⟨X, x, Y, y, rfl, hX, hY, hb3⟩
      have e2 : (((p :: l).length : Int) == 0) = false := by simp; omega
      have e3 : (((q :: m).length : Int) == 0) = false := by simp; omega
      have i1 : (0 : Int) < ((p :: l).length : Int) := by simp
      have i2 : (0 : Int) < ((q :: m).length : Int) := by simp
      have e4 : decide ((0 : Int) < ((q :: m).length : Int)) = true := decide_eq_true i2
      have e5 : decide (0 < (q :: m).length) = true := by simp
      have e6 : 0 < (q :: m).length := by simp
      obtain ⟨gA, offA, rfl, _, hgA⟩ := hX.addr (by simp)
      obtain ⟨gB, offB, rfl, _, hgB⟩ := hY.addr (by simp)
      obtain ⟨_, hpo, a0, a1, a2⟩ := hX.run (k := 0) (x := p) rfl
      obtain ⟨_, hqo, b0, b1, b2⟩ := hY.run (k := 0) (x := q) rfl
      simp only [Nat.zero_mul, Nat.add_zero] at a0 a1 a2 b0 b1 b2
      have X0 := fun p : Wdd w3 => Wdd.cell a0 hgA p
      have X1 := fun p : Wdd w3 => Wdd.cell a1 hgA p
      have X2 := fun p : Wdd w3 => Wdd.cell a2 hgA p
      have Y0 := fun p : Wdd w3 => Wdd.cell b0 hgB p
      have Y1 := fun p : Wdd w3 => Wdd.cell b1 hgB p
      have Y2 := fun p : Wdd w3 => Wdd.cell b2 hgB p
      have hsl := hide fun V => stampLessD ⟨q.t, q.r⟩ ⟨p.t, p.r⟩ V ⟨hqo.1, hqo.2.1, hqo.2.2.1, hqo.2.2.2.1⟩ ⟨hpo.1, hpo.2.1, hpo.2.2.1, hpo.2.2.2.1⟩
      clear a0 a1 a2 b0 b1 b2 hX hY hpo hqo
      generalize (p :: l).length = n at *
      generalize (q :: m).length = k at *
      obtain ⟨v, hv⟩ : ∃ v, idLess ⟨q.t, q.r⟩ ⟨p.t, p.r⟩ = v := ⟨_, rfl⟩
      have hNv := hN.out v hv
      rw [hv] at hsl
      clear hv hN
      cases v
      all_goals
        replace hNv := hide hNv
        go_wp2_with fail
        (refine wp_region_wdd (by kernel_rfl) (by kernel_rfl) ?_
         repeat (go_big_quiet_step ((first | (go_at_call 67; first | with_reducible exact Calls.wdd (placeFirstD p _) | with_reducible exact Calls.wdd (placeFirstD q _)) | (go_at_call 66; exact Calls.wdd (hsl.out _)))))
         refine wpQuiet_nil ?_
         intro w4 hw'
         obtain ⟨⟨wx, hb4⟩, hw''⟩ := hw'
         subst hw'')
        go_wp2_with fail
        go_ret
        exact ⟨ret_int (by first | exact (hNv.out.1 rfl).symm | exact (hNv.out.1 trivial).symm | exact (hNv.out.2 rfl).symm | exact (hNv.out.2 trivial).symm), (hb02.trans hb3).trans hb4⟩

end Go.Proofs.YteoodmilcpmmpaaGreat
