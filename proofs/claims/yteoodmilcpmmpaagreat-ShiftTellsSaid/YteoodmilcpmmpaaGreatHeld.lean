/-
  The walks of the references of layer 6: Any, cut, Held.
-/
import Derived.Test.YteoodmilcpmmpaaGreatRefA
import Derived.Test.YteoodmilcpmmpaaGreatCmpPlain
import Derived.Test.YteoodmilcpmmpaaGreatPart
import Derived.BigRegion
import Derived.Deep.Cut
namespace Go.Proofs.YteoodmilcpmmpaaGreat

open Go.RowKit

/-- The first one cut off. -/
theorem R.tailR {lo : Nat} {w : World} {blk off d : Nat} {x : Run} {t : List Run} (h : R cRun lo w (some ⟨blk, off, none⟩) (x :: t)) (hd : t.length + 1 ≤ d) : R cRun lo w (if d = 1 then some ⟨blk, off, none⟩ else some ⟨blk, off + 3, none⟩) t := by
  by_cases hn : t = []
  · rw [hn]; exact R.nil
  · obtain ⟨cells, hr, hs⟩ := h
    obtain ⟨a, b, rfl, ⟨ho, rfl⟩, hb⟩ := hr
    obtain ⟨b', off', e, hfr, ha⟩ := hs (by simp)
    cases e
    have hlen : 0 < t.length := List.length_pos_iff.2 hn
    rw [if_neg (by omega)]
    exact ⟨b, hb, fun _ => ⟨blk, off + 3, rfl, hfr, ha.right (cs := [.int .u32 x.t, .int .u8 x.r, .int .i64 x.m])⟩⟩

/-- What hands back a list that may lie where it lay. -/
def NewO {α : Type} (C : Codec α) (l : List α) (w : World) (e : Ending) (w' : World) : Prop := ∃ A c, e = .returned (.slice A l.length c) ∧ l.length ≤ c ∧ c ≤ maxLen ∧ R C 0 w' A l ∧ Bl w w'

set_option maxRecDepth 100000 in
set_option maxHeartbeats 2000000 in
theorem refCut06 (A : Option Addr) (c : Nat) (x : Run) (t : List Run) (n : Int) (w : World) (hc : t.length + 1 ≤ c) (hcm : c ≤ maxLen) (hl : t.length ≤ 64) (h1 : 1 ≤ x.t) (hm : x.m ≤ 4096) (he : x.t + x.m ≤ 1073741825) (n1 : 1 ≤ n) (n2 : n ≤ x.m) (hA : R cRun 0 w A (x :: t)) :
    Calls Tryz.prog 152 #[.slice A (x :: t).length c, .int .i64 n] w (NewO cRun (cutF (x :: t) n) w) := by
  obtain ⟨i0, hi, hz0, hz1, hz2⟩ := info_parts Tryz.infoRun
  obtain ⟨b, off, rfl, -, hb⟩ := hA.addr (by simp)
  obtain ⟨-, hxo, c0, c1, c2⟩ := hA.run (k := 0) (x := x) rfl
  simp only [Nat.zero_mul, Nat.add_zero] at c0 c1 c2
  have htl := hA.tailR hc
  obtain ⟨k, hk⟩ : ∃ k, k = (x :: t).length := ⟨_, rfl⟩
  rw [← hk]
  rw [List.length_cons] at hk
  have i1 : (0 : Int) < (k : Int) := by omega
  have i2 : (1 : Int) ≤ (k : Int) := by omega
  have i3 : 1 ≤ k := by omega
  have i4 : k ≤ c := by omega
  have hkt : k - 1 = t.length := by omega
  by_cases hx : x.m = n
  · have e1 : cutF (x :: t) n = t := by unfold cutF; simp only [if_pos hx]
    have e2 : (x.m == n) = true := by simp [hx]
    rw [e1]
    replace hx := hide hx
    replace hk := hide hk
    replace hkt := hide hkt
    clear e1 hA
    by_cases hd : c = 1
    · rw [if_pos hd] at htl
      subst hd
      have ht0 := hide (show t.length = 0 by omega)
      go_enter Tryz.func152, Tryz.ntmps152
      go_wp2_with fail
      go_ret
      exact ⟨some ⟨b, off, none⟩, 0, by rw [ht0.out]; rfl, by have := ht0.out; omega, Nat.zero_le _, htl, Bl.refl _⟩
    · rw [if_neg hd] at htl
      go_enter Tryz.func152, Tryz.ntmps152
      go_wp2_with fail
      go_ret
      exact ⟨some ⟨b, off + 3, none⟩, c - 1, by first | rfl | (rw [← hkt.out]; rfl), by have := hkt.out; omega, by omega, htl, Bl.refl _⟩
  · have e1 : cutF (x :: t) n = ⟨x.t + n, x.r, x.m - n⟩ :: t := by unfold cutF; simp only [if_neg hx]
    have e2 : (x.m == n) = false := by simp [hx]
    have e3 : IntKind.u32.wrap (x.t + IntKind.u32.wrap n) = x.t + n := by rw [IntWalk.u32_in n (by omega), IntWalk.u32_in _ (by omega)]
    have e4 : IntKind.i64.wrap (x.m - n) = x.m - n := IntWalk.i64_in _ (by omega)
    obtain ⟨L, hL⟩ : ∃ L, L = cutF (x :: t) n := ⟨_, rfl⟩
    rw [← hL]
    rw [e1] at hL
    replace hL := hide hL
    replace hx := hide hx
    replace hk := hide hk
    replace hkt := hide hkt
    clear e1 hA
    have hyo : (⟨x.t + n, x.r, x.m - n⟩ : Run).ok := by
      obtain ⟨o0, o1, o2, o3, o4⟩ := hxo
      unfold Run.ok i64ok
      dsimp only
      omega
    replace hyo := hide hyo
    clear hxo
    go_enter Tryz.func152, Tryz.ntmps152
    go_upto_region 3 with fail
    go_region
    obtain ⟨V, hV⟩ : ∃ V, V = (w.alloc (.cells #[Value.int IntKind.u32 (x.t + n), Value.int IntKind.u8 x.r, Value.int IntKind.i64 (x.m - n)] 40)).drew := ⟨_, rfl⟩
    rw [← hV]
    have hbV : Bl w V := by rw [hV]; exact ((Bl.refl _).alloc _).drew
    have hrow : RowAt V w.heap.size 40 [Value.int IntKind.u32 (x.t + n), Value.int IntKind.u8 x.r, Value.int IntKind.i64 (x.m - n)] := by
      rw [hV]
      exact (RowAt.new w #[Value.int IntKind.u32 (x.t + n), Value.int IntKind.u8 x.r, Value.int IntKind.i64 (x.m - n)] 40).bl (Bl.refl _).drew
    have hown : Own cRun 40 w.heap.size V (.slice (some ⟨w.heap.size, 0, none⟩) 1 1) [⟨x.t + n, x.r, x.m - n⟩] :=
      ⟨_, hrow.own (n := 1) (size := 3) rfl (Nat.le_refl _) (by decide), RdL.one1 (C := cRun) ⟨hyo.out, rfl⟩⟩
    clear hV hrow c0 c1 c2
    have hsz := hbV.size
    have q1 : [(⟨x.t + n, x.r, x.m - n⟩ : Run)].length + t.length ≤ maxLen := by rw [List.length_singleton]; unfold maxLen; omega
    have q2 : ([(⟨x.t + n, x.r, x.m - n⟩ : Run)].length + t.length) * 16 ≤ 140737488355328 := by rw [List.length_singleton]; omega
    replace hown := hide hown
    by_cases hd : c = 1
    · rw [if_pos hd] at htl
      have hsrc := hide (htl.bl hbV)
      subst hd
      have ht0 := hide (show t.length = 0 by have := hkt.out; omega)
      go_wp2_with (at_builtin; refine Hid.out ?_)
      refine hide ?_
      refine wpList_append_any2 (C := cRun) (xs := [⟨x.t + n, x.r, x.m - n⟩]) (ys := t) rfl (.tmp 33) (.tmp 35) _ rfl 40 i0 _ 16 Tryz.underlying26 hi hz0 hz1 hz2 rfl (.slice (some ⟨w.heap.size, 0, none⟩) 1 1) w.heap.size rfl hown.out (some ⟨b, off, none⟩) 0 0 rfl ht0.out.symm (hsrc.out.source flatRun) q1 q2 hsz ?_
      intro v9 w9 hown9 hg9 hf9
      have hb9 : Bl w w9 := hbV.app hown.out (Nat.le_refl _) hg9
      obtain ⟨X, xc, hvx, hX, x1, x2⟩ := hown9.reads
      subst hvx
      clear hown hown9 hg9 hf9
      go_wp2_with fail
      go_ret
      rw [hL.out]
      exact ⟨X, xc, rfl, x1, x2, hX.zero, hb9⟩
    · rw [if_neg hd] at htl
      have hsrc := hide (htl.bl hbV)
      go_wp2_with (at_builtin; refine Hid.out ?_)
      refine hide ?_
      refine wpList_append_any2 (C := cRun) (xs := [⟨x.t + n, x.r, x.m - n⟩]) (ys := t) rfl (.tmp 33) (.tmp 35) _ rfl 40 i0 _ 16 Tryz.underlying26 hi hz0 hz1 hz2 rfl (.slice (some ⟨w.heap.size, 0, none⟩) 1 1) w.heap.size rfl hown.out (some ⟨b, off + 3, none⟩) _ (c - 1) rfl (by first | rfl | exact hkt.out) (hsrc.out.source flatRun) q1 q2 hsz ?_
      intro v9 w9 hown9 hg9 hf9
      have hb9 : Bl w w9 := hbV.app hown.out (Nat.le_refl _) hg9
      obtain ⟨X, xc, hvx, hX, x1, x2⟩ := hown9.reads
      subst hvx
      clear hown hown9 hg9 hf9
      go_wp2_with fail
      go_ret
      rw [hL.out]
      exact ⟨X, xc, rfl, x1, x2, hX.zero, hb9⟩

/-- How the world stands as the loop of Held goes on. -/
structure HeldSt (N : Int) (wr : World) (A B : Option Addr) (na c nb d : Nat) (a b : List Run) (k : Nat) : Prop where
  la : na = a.length
  lb : nb = b.length
  fuel : na + nb ≤ k
  res : sideF (partF k a b) = N
  sa : a.length ≤ 64
  sb : b.length ≤ 64
  ra : ∀ x ∈ a, runB x
  rb : ∀ x ∈ b, runB x
  ca : na ≤ c
  cm : c ≤ maxLen
  cb : nb ≤ d
  dm : d ≤ maxLen
  ha : R cRun 0 wr A a
  hb : R cRun 0 wr B b

def HeldRel (N : Int) (wr : World) (va vb : Value) : Prop := ∃ (A B : Option Addr) (na c nb d : Nat), va = .slice A na c ∧ vb = .slice B nb d ∧ ∃ a b k, HeldSt N wr A B na c nb d a b k

theorem HeldSt.next {N : Int} {wr W : World} {A B A2 B2 : Option Addr} {na c nb d c2 d2 k : Nat} {x y : Run} {t s : List Run} {n : Int} (h : HeldSt N wr A B na c nb d (x :: t) (y :: s) k) (hxy : x.t = y.t ∧ x.r = y.r) (n1 : 1 ≤ n) (n2 : n ≤ x.m) (n3 : n ≤ y.m) (n4 : n = x.m ∨ n = y.m)
    (ca : (cutF (x :: t) n).length ≤ c2) (cm : c2 ≤ maxLen) (cb : (cutF (y :: s) n).length ≤ d2) (dm : d2 ≤ maxLen) (hA : R cRun 0 W A2 (cutF (x :: t) n)) (hB : R cRun 0 W B2 (cutF (y :: s) n)) :
    HeldRel N W (.slice A2 (cutF (x :: t) n).length c2) (.slice B2 (cutF (y :: s) n).length d2) ∧ (cutF (x :: t) n).length + (cutF (y :: s) n).length < na + nb := by
  have e1 := cutF_len x t n
  have e2 := cutF_len y s n
  have l1 := h.la
  have l2 := h.lb
  have s1 := h.sa
  have s2 := h.sb
  rw [List.length_cons] at l1 l2 s1 s2
  have hlt : (cutF (x :: t) n).length + (cutF (y :: s) n).length < na + nb := by
    rcases n4 with e | e
    · have := e1.2 e.symm
      omega
    · have := e2.2 e.symm
      omega
  have hf := h.fuel
  obtain ⟨k', rfl⟩ : ∃ k', k = k' + 1 := ⟨k - 1, by omega⟩
  have hm : min x.m y.m = n := by omega
  have hr := h.res
  unfold partF at hr
  rw [if_pos hxy, hm] at hr
  exact ⟨⟨A2, B2, _, c2, _, d2, rfl, rfl, _, _, k', rfl, rfl, by omega, hr, by omega, by omega, cut_runB h.ra n1 n2, cut_runB h.rb n1 n3, ca, cm, cb, dm, hA, hB⟩, hlt⟩

set_option maxRecDepth 100000 in
set_option maxHeartbeats 4000000 in
theorem refHeld06 (A B : Option Addr) (c d : Nat) (a b : List Run) (w : World) (hla : a.length ≤ 64) (hlb : b.length ≤ 64) (hra : ∀ x ∈ a, runB x) (hrb : ∀ x ∈ b, runB x) (hca : a.length ≤ c) (hcm : c ≤ maxLen) (hcb : b.length ≤ d) (hdm : d ≤ maxLen) (hA : R cRun 0 w A a) (hB : R cRun 0 w B b) :
    Calls Tryz.prog 105 #[.slice A a.length c, .slice B b.length d] w fun e w' => e = .returned (.int .i64 (heldF a b)) ∧ Bl w w' := by
  obtain ⟨N, hN⟩ : ∃ N, N = heldF a b := ⟨_, rfl⟩
  rw [← hN]
  have hst0 : HeldSt N w A B a.length c b.length d a b (a.length + b.length) := ⟨rfl, rfl, Nat.le_refl _, hN.symm, hla, hlb, hra, hrb, hca, hcm, hcb, hdm, hA, hB⟩
  have hrel0 := hide (show HeldRel N w (.slice A a.length c) (.slice B b.length d) from ⟨A, B, _, c, _, d, rfl, rfl, a, b, _, hst0⟩)
  clear hst0 hN hla hlb hra hrb hca hcm hcb hdm hA hB
  generalize a.length = na0 at *
  generalize b.length = nb0 at *
  go_enter Tryz.func105, Tryz.ntmps105
  go_wp2_with fail
  go_loopw [0, 1] (fun va vb wr => Bl w wr ∧ HeldRel N wr va vb) (fun va vb _ => partLen va + partLen vb)
  case atStart => exact ⟨Bl.refl _, hrel0.out⟩
  case round =>
    obtain ⟨hbl, A, B, na, c, nb, d, rfl, rfl, a, b, k, hst⟩ := hrel
    by_cases hn1 : a = []
    · have la := hst.la
      have hr := hst.res
      subst hn1
      have la : na = 0 := la
      have e1 : decide (0 < na) = false := by simp [la]
      have e1' : decide ((0 : Int) < (na : Int)) = false := by simp [la]
      rw [partF_nil] at hr
      by_cases hn2 : b = []
      · have lb := hst.lb
        subst hn2
        have lb : nb = 0 := lb
        have e2 : decide (0 < nb) = false := by simp [lb]
        have e2' : decide ((0 : Int) < (nb : Int)) = false := by simp [lb]
        have hr := hide (show 0 = N from hr)
        clear hst la lb hrel0
        go_wp2_with fail
        go_ret
        exact ⟨ret_int hr.out, hbl⟩
      · have lb := hst.lb
        have hp := List.length_pos_iff.2 hn2
        have e2 : decide (0 < nb) = true := by simp; omega
        have e2' : decide ((0 : Int) < (nb : Int)) = true := by simp; omega
        have hr := hide (show -1 = N by
          cases b with
          | nil => exact absurd rfl hn2
          | cons y s => exact hr)
        clear hst la lb hrel0 hp hn2
        go_wp2_with fail
        go_ret
        exact ⟨ret_int hr.out, hbl⟩
    by_cases hn2 : b = []
    · have la := hst.la
      have lb := hst.lb
      have hr := hst.res
      have hp := List.length_pos_iff.2 hn1
      subst hn2
      have lb : nb = 0 := lb
      have e1 : decide (0 < na) = true := by simp; omega
      have e1' : decide ((0 : Int) < (na : Int)) = true := by simp; omega
      have e2 : decide (0 < nb) = false := by simp [lb]
      have e2' : decide ((0 : Int) < (nb : Int)) = false := by simp [lb]
      rw [partF_nil2] at hr
      have hr := hide (show 1 = N by
        cases a with
        | nil => exact absurd rfl hn1
        | cons y s => exact hr)
      clear hst la lb hrel0 hp hn1
      go_wp2_with fail
      go_ret
      exact ⟨ret_int hr.out, hbl⟩
    obtain ⟨x, t, rfl⟩ : ∃ x t, a = x :: t := by
      cases a with
      | nil => exact absurd rfl hn1
      | cons x t => exact ⟨x, t, rfl⟩
    obtain ⟨y, s, rfl⟩ : ∃ y s, b = y :: s := by
      cases b with
      | nil => exact absurd rfl hn2
      | cons y s => exact ⟨y, s, rfl⟩
    clear hn1 hn2 hrel0
    have la := hst.la
    have lb := hst.lb
    rw [List.length_cons] at la lb
    obtain ⟨bA, offA, rfl, -, hgA⟩ := hst.ha.addr (by simp)
    obtain ⟨bB, offB, rfl, -, hgB⟩ := hst.hb.addr (by simp)
    obtain ⟨-, hxo, a0, a1, a2⟩ := hst.ha.run (k := 0) (x := x) rfl
    obtain ⟨-, hyo, b0, b1, b2⟩ := hst.hb.run (k := 0) (x := y) rfl
    simp only [Nat.zero_mul, Nat.add_zero] at a0 a1 a2 b0 b1 b2
    have e1 : decide (0 < na) = true := by simp; omega
    have e1' : decide ((0 : Int) < (na : Int)) = true := by simp; omega
    have e2 : decide (0 < nb) = true := by simp; omega
    have e2' : decide ((0 : Int) < (nb : Int)) = true := by simp; omega
    have i1 : (0 : Int) < (na : Int) := by omega
    have i2 : (0 : Int) < (nb : Int) := by omega
    have i3 : 0 < na := by omega
    have i4 : 0 < nb := by omega
    have hsth := hide hst
    clear hst
    replace la := hide la
    replace lb := hide lb
    obtain ⟨wo, rfl⟩ : ∃ wo, wo = wr := ⟨_, rfl⟩
    go_upto_region 2 with fail
    go_region
    obtain ⟨V1, hV1⟩ : ∃ V1, V1 = (wo.alloc (.cells #[Value.int IntKind.u32 x.t, Value.int IntKind.u8 x.r] 25)).drew := ⟨_, rfl⟩
    rw [← hV1]
    have hb1 : Bl wo V1 := by rw [hV1]; exact ((Bl.refl _).alloc _).drew
    have at0 : IdBox V1 wo.heap.size ⟨x.t, x.r⟩ := by rw [hV1]; exact (IdBox.new wo ⟨x.t, x.r⟩ _).bl (Bl.refl _).drew
    clear hV1
    replace a2 := (hb1.cell hgA).trans a2
    replace b0 := (hb1.cell hgB).trans b0
    replace b1 := (hb1.cell hgB).trans b1
    replace b2 := (hb1.cell hgB).trans b2
    clear a0 a1
    have hgA1 := Nat.lt_of_lt_of_le hgA hb1.size
    have hgB1 := Nat.lt_of_lt_of_le hgB hb1.size
    go_upto_region 3 with fail
    go_region
    obtain ⟨V2, hV2⟩ : ∃ V2, V2 = (V1.alloc (.cells #[Value.int IntKind.u32 y.t, Value.int IntKind.u8 y.r] 25)).drew := ⟨_, rfl⟩
    rw [← hV2]
    have hb12 : Bl V1 V2 := by rw [hV2]; exact ((Bl.refl _).alloc _).drew
    have at1 : IdBox V2 V1.heap.size ⟨y.t, y.r⟩ := by rw [hV2]; exact (IdBox.new V1 ⟨y.t, y.r⟩ _).bl (Bl.refl _).drew
    clear hV2
    have hb2 := hb1.trans hb12
    replace at0 := at0.bl hb12
    have A2 := fun p : Wd V2 => Wd.cell ((hb12.cell (Nat.lt_of_lt_of_le hgA hb1.size)).trans a2) (Nat.lt_of_lt_of_le hgA hb2.size) p
    have B2 := fun p : Wd V2 => Wd.cell ((hb12.cell (Nat.lt_of_lt_of_le hgB hb1.size)).trans b2) (Nat.lt_of_lt_of_le hgB hb2.size) p
    clear a2 b0 b1 b2
    obtain ⟨x0, x1, -, -⟩ := at0
    obtain ⟨y0, y1, -, -⟩ := at1
    have hneq := run_neqId ⟨x.t, x.r⟩ ⟨y.t, y.r⟩
    by_cases hxy : x.t = y.t ∧ x.r = y.r
    rotate_left
    · have hq : neqId ⟨x.t, x.r⟩ ⟨y.t, y.r⟩ = true := neqId_ne fun h => hxy ⟨congrArg Id.t h, congrArg Id.r h⟩
      rw [hq] at hneq
      have hr := hsth.out.res
      rw [partF_ne hxy] at hr
      have hr : (if idLess ⟨y.t, y.r⟩ ⟨x.t, x.r⟩ then (-1 : Int) else 1) = N := hr
      have hls := refLess05 ⟨y.t, y.r⟩ ⟨x.t, x.r⟩ V2
      obtain ⟨v, hv⟩ : ∃ v, idLess ⟨y.t, y.r⟩ ⟨x.t, x.r⟩ = v := ⟨_, rfl⟩
      rw [hv] at hr hls
      clear hq hxy hsth hv
      cases v
      · replace hr := hide (show 1 = N from hr)
        go_wp2_with fail
        refine hls.mono ?_
        rintro e w3 ⟨rfl, hb3⟩
        go_wp2_with fail
        go_ret
        exact ⟨ret_int hr.out, hbl.trans (hb2.trans hb3)⟩
      · replace hr := hide (show -1 = N from hr)
        go_wp2_with fail
        refine hls.mono ?_
        rintro e w3 ⟨rfl, hb3⟩
        go_wp2_with fail
        go_ret
        exact ⟨ret_int hr.out, hbl.trans (hb2.trans hb3)⟩
    have hq : neqId ⟨x.t, x.r⟩ ⟨y.t, y.r⟩ = false := by rw [show (⟨x.t, x.r⟩ : Id) = ⟨y.t, y.r⟩ from Id.ext' hxy.1 hxy.2]; exact neqId_self _
    rw [hq] at hneq
    replace hxy := hide hxy
    clear hq
    go_upto_region 8 with fail
    (refine wp_region_wd (by kernel_rfl) (by kernel_rfl) ?_
     repeat (go_big_quiet_step ((fail)))
     refine wpQuiet_nil ?_
     intro V3 hw'
     obtain ⟨⟨wx, hb3⟩, hw''⟩ := hw'
     subst hw'')
    go_upto_region 9 with fail
    obtain ⟨x1', x2', x3', x4', x5', x6'⟩ := hsth.out.ra x (List.mem_cons_self ..)
    obtain ⟨y1', y2', y3', y4', y5', y6'⟩ := hsth.out.rb y (List.mem_cons_self ..)
    obtain ⟨n, hn⟩ : ∃ n, n = min x.m y.m := ⟨_, rfl⟩
    rw [← hn]
    have hnb : 1 ≤ n ∧ n ≤ x.m ∧ n ≤ y.m ∧ (n = x.m ∨ n = y.m) := by
      rw [hn]
      omega
    obtain ⟨n1, n2, n3, n4⟩ := hnb
    replace hn := hide hn
    replace n4 := hide n4
    have hb03 := hb2.trans hb3
    have s1 := hsth.out.sa
    have s2 := hsth.out.sb
    have l1 := hsth.out.la
    have l2 := hsth.out.lb
    have c1 := hsth.out.ca
    have c2 := hsth.out.cb
    rw [List.length_cons] at s1 s2
    have hcA := fun V (hv : Bl wo V) => refCut06 (some ⟨bA, offA, none⟩) c x t n V (by rw [List.length_cons] at l1; omega) hsth.out.cm (by omega) x1' x3' x4' n1 n2 (hsth.out.ha.bl hv)
    have hcB := fun V (hv : Bl wo V) => refCut06 (some ⟨bB, offB, none⟩) d y s n V (by rw [List.length_cons] at l2; omega) hsth.out.dm (by omega) y1' y3' y4' n1 n3 (hsth.out.hb.bl hv)
    rw [← l1] at hcA
    rw [← l2] at hcB
    clear s1 s2 l1 l2 c1 c2
    obtain ⟨P, hP⟩ : ∃ P, P = cutF (x :: t) n := ⟨_, rfl⟩
    obtain ⟨Q, hQ⟩ : ∃ Q, Q = cutF (y :: s) n := ⟨_, rfl⟩
    rw [← hP] at hcA
    rw [← hQ] at hcB
    replace hP := hide hP
    replace hQ := hide hQ
    replace hcA := hide hcA
    replace hcB := hide hcB
    clear x0 x1 y0 y1 A2 B2
    go_wp2_with fail
    refine (hcA.out _ hb03).mono ?_
    rintro e w4 ⟨X, xc, rfl, p1, p2, hX, hb4⟩
    go_wp2_with fail
    refine (hcB.out _ (hb03.trans hb4)).mono ?_
    rintro e w5 ⟨Y, yc, rfl, q1, q2, hY, hb5⟩
    have hnx := hsth.out.next (c2 := xc) (d2 := yc) hxy.out n1 n2 n3 n4.out (by rw [← hP.out]; exact p1) p2 (by rw [← hQ.out]; exact q1) q2 (by rw [← hP.out]; exact hX.bl hb5) (by rw [← hQ.out]; exact hY)
    rw [← hP.out, ← hQ.out] at hnx
    have hnx := hide hnx
    go_wp2_with fail
    go_roundw
    case rel => exact ⟨hbl.trans (hb03.trans (hb4.trans hb5)), hnx.out.1⟩
    case measure => exact hnx.out.2

end Go.Proofs.YteoodmilcpmmpaaGreat
