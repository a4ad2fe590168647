/-
  The walk of BagLess.
-/
import Derived.Test.YtedcopjpgijpjaaLessA
import Derived.Test.YtedcopjpgijpjaaBagAlive
import Derived.Test.YtedcopjpgijpjaaRefClock
namespace Go.Proofs.Ytedcopjpgijpjaa
open Go.RowKit

/-! ### Plain -/
theorem srt_uniq {l : List Op} (hs : Srt l) {x y : Op} (hx : x ∈ l) (hy : y ∈ l) (e : x.id = y.id) : x = y := by
  obtain ⟨i, hi⟩ := List.getElem?_of_mem hx
  obtain ⟨k, hk⟩ := List.getElem?_of_mem hy
  rcases Nat.lt_trichotomy i k with h1 | h1 | h1
  · have := hs.get hi hk h1
    rw [e, idLess_irr] at this
    cases this
  · subst h1
    rw [hi] at hk
    cases hk
    rfl
  · have := hs.get hk hi h1
    rw [e, idLess_irr] at this
    cases this
theorem hasId_iff {l : List Op} {s : Id} : hasId l s = true ↔ ∃ x ∈ l, x.id = s := by
  unfold hasId
  rw [List.any_eq_true]
  constructor
  · rintro ⟨x, hx, e⟩; exact ⟨x, hx, by simpa using e⟩
  · rintro ⟨x, hx, e⟩; exact ⟨x, hx, by simpa using e⟩
theorem less_may {l : List Op} (p : Op → Bool) (h : bagMay l = true) : bagMay (l.filter p) = true := by
  obtain ⟨h1, h2, h3⟩ := bagMay_parts h
  exact bagMay_of (Nat.le_trans (List.length_filter_le _ _) h1) (List.Pairwise.filter _ h2) fun x hx => h3 x ((List.mem_filter.1 hx).1)
theorem find_some11 {l : List Op} {s : Id} (h : findB11 l s = true) : findO l s ∈ l ∧ (findO l s).id = s := by
  have h1 := h
  unfold findB11 at h1
  rw [Bool.and_eq_true] at h1
  obtain ⟨x, hx, e⟩ := has_pos (bagMay_parts h1.1).2.1 h1.2
  unfold findO
  rw [if_pos h, hx]
  exact ⟨List.mem_of_getElem? hx, e⟩
/-- What BagLess says. -/
theorem less_law {l : List Op} {m : List Times} (s : Id) (h : lessN l m = 0) :
    bagMay (lessL l m) = true ∧ findB11 (lessL l m) s = (findB11 l s && !clockHas m s) ∧ (findB11 (lessL l m) s = true → eqOp (findO l s) (findO (lessL l m) s) = true) := by
  have hL : lessL l m = l.filter fun x => !clockHas m x.id := by unfold lessL; rw [if_pos h]
  have hm : bagMay l = true := by
    unfold lessN at h
    cases h1 : bagMay l
    · rw [h1] at h; cases h
    · rfl
  have hmL := less_may (fun x => !clockHas m x.id) hm
  rw [hL]
  refine ⟨hmL, ?_, fun hnow => ?_⟩
  · unfold findB11
    rw [hm, hmL, Bool.true_and, Bool.true_and, Bool.eq_iff_iff, Bool.and_eq_true, hasId_iff, hasId_iff]
    constructor
    · rintro ⟨x, hx, e⟩
      rw [List.mem_filter] at hx
      exact ⟨⟨x, hx.1, e⟩, by rw [← e]; exact hx.2⟩
    · rintro ⟨⟨x, hx, e⟩, hq⟩
      exact ⟨x, List.mem_filter.2 ⟨hx, by rw [e]; exact hq⟩, e⟩
  · obtain ⟨h1, h2⟩ := find_some11 hnow
    have hfl : findB11 l s = true := by
      unfold findB11
      rw [hm, Bool.true_and, hasId_iff]
      exact ⟨_, (List.mem_filter.1 h1).1, h2⟩
    obtain ⟨h3, h4⟩ := find_some11 hfl
    unfold eqOp
    rw [decide_eq_true_eq]
    exact srt_uniq (bagMay_parts hm).2.1 h3 ((List.mem_filter.1 h1).1) (by rw [h4, h2])

theorem findO_ok {l : List Op} {s : Id} (h : ∀ x ∈ l, x.ok) : (findO l s).ok := by
  have hz : zeroOp.ok := by unfold zeroOp Op.ok Id.ok u8ok i64ok; decide
  cases hb : findB11 l s
  · unfold findO
    rw [hb]
    exact hz
  · exact h _ (find_some11 hb).1
theorem R.oks {w : World} {A : Option Addr} {l : List Op} {lo : Nat} (h : R cOp lo w A l) : ∀ x ∈ l, x.ok := by
  intro x hx
  obtain ⟨k, hk⟩ := List.getElem?_of_mem hx
  obtain ⟨b, off, rfl, _, _⟩ := h.addr (by have := (List.getElem?_eq_some_iff.1 hk).1; omega)
  exact (h.op hk).2.1

set_option maxRecDepth 100000 in
set_option maxHeartbeats 4000000 in
theorem lawBagLess11 (A C : Option Addr) (c d : Nat) (l : List Op) (m : List Times) (s : Id) (w : World) (hl : l.length ≤ 140737488355328) (hm : m.length ≤ 140737488355328) (hq : ∀ x ∈ m, x.s.length ≤ 140737488355328) (hA : R cOp 0 w A l) (hC : R cTimes 0 w C m) (hs : s.ok) :
    Calls Try.prog 4 #[.slice A l.length c, .slice C m.length d, .agg #[.int .u32 s.t, .int .u8 s.r]] w fun e w' => e = .returned (.bool true) ∧ Bl w w' := by
  have hlm : l.length ≤ maxLen := by unfold maxLen; omega
  have hgr := hide (fun W (hb : Bl w W) => refGreat10 A c l 60 W hl (hA.bl hb))
  have hgc := hide (fun W (hb : Bl w W) => refGreat08 C d m W hm hq (hC.bl hb))
  have hoks := hide hA.oks
  obtain ⟨W, hW⟩ : ∃ W, W = w.alloc (.cells #[Value.int IntKind.u32 s.t, Value.int IntKind.u8 s.r] 30) := ⟨_, rfl⟩
  have hbW : Bl w W := by rw [hW]; exact (Bl.refl _).alloc _
  have at0 : IdBox W w.heap.size s := by rw [hW]; exact IdBox.new w s _
  replace hq := hide hq
  go_enter Try.func4, Try.ntmps4
  go_wp2_with fail
  rw [← hW]
  clear hW
  refine (lawAlive11 _).mono ?_
  rintro e w1 ⟨rfl, hb1⟩
  have hbw1 := hbW.trans hb1
  go_wp2_with fail
  refine (hgr.out _ hbw1).mono ?_
  rintro e w2 ⟨bg, rfl, -, hb2⟩
  have hbw2 := hbw1.trans hb2
  cases bg
  rotate_left
  · go_wp2_with fail
    go_ret
    exact ⟨rfl, hbw2⟩
  go_wp2_with fail
  refine (hgc.out _ hbw2).mono ?_
  rintro e w3 ⟨bc, rfl, -, hb3⟩
  have hbw3 := hbw2.trans hb3
  cases bc
  rotate_left
  · go_wp2_with fail
    go_ret
    exact ⟨rfl, hbw3⟩
  go_wp2_with fail
  refine (bagLess A C c d l m _ hlm hm (hA.bl hbw3) (hC.bl hbw3)).mono ?_
  rintro e w4 ⟨A4, c4, rfl, h41, h42, hr4, hb4⟩
  have hbw4 := hbw3.trans hb4
  by_cases hN : lessN l m = 0
  rotate_left
  · have hL : lessL l m = [] := by unfold lessL; rw [if_neg hN]
    have hne : (lessN l m != 0) = true := by simp [hN]
    rw [hL]
    clear hr4 h41
    generalize lessN l m = N at hne
    go_wp2_with fail
    go_ret
    exact ⟨rfl, hbw4⟩
  obtain ⟨k1, k2, k3⟩ := less_law s hN
  rw [hN]
  have hok1 := hide (findO_ok (s := s) hoks.out)
  have hok2 := hide (findO_ok (s := s) hr4.oks)
  have hf1 := fun V (hb : Bl w V) => bagFind A c l s V hlm hs (hA.bl hb)
  have hf2 := fun V (hb : Bl w4 V) => bagFind A4 c4 (lessL l m) s V (Nat.le_trans h41 h42) hs (hr4.zero.bl hb)
  have hcl := hide (fun V (hb : Bl w V) => clockHasC C d m s V hm hs (hC.bl hb))
  have hck := fun V (hb : Bl w4 V) => bagCheck A4 c4 (lessL l m) V (Nat.le_trans h41 h42) (hr4.zero.bl hb)
  rw [k1, okOr_true] at hck
  replace hck := hide hck
  generalize lessL l m = L at hok2 hf2 hck hr4 h41 k2 k3 ⊢
  generalize findO l s = P at hok1 hf1 k3
  generalize findO L s = Q at hok2 hf2 k3
  generalize findB11 l s = is at hf1 k2
  generalize findB11 L s = now at hf2 k2 k3
  generalize clockHas m s = h at hcl k2
  replace hf1 := hide hf1
  replace hf2 := hide hf2
  clear k1 hN hgr hgc
  have hbW4 : Bl W w4 := hb1.trans (hb2.trans (hb3.trans hb4))
  obtain ⟨x0, x1, -, -⟩ := at0.bl hbW4
  have hxl := (at0.bl hbW4).lt
  replace k2 := hide k2
  cases is
  · obtain rfl : now = false := k2.out
    clear k2 k3
    go_wp2_with fail
    refine (hf1.out _ hbw4).mono ?_
    rintro e w5 ⟨A5, c5, rfl, p51, p52, hr5, hb5⟩
    have atp := OpBox.new w5 P A5 c5 33
    have hV5 : Bl w4 (w5.alloc (.cells #[Value.int IntKind.u8 P.kind, Value.int IntKind.u32 P.id.t, Value.int IntKind.u8 P.id.r, Value.slice A5 P.pl.length c5, Value.int IntKind.i64 P.pt] 33)) := hb5.alloc _
    clear x0 x1 hxl
    obtain ⟨x0, x1, -, -⟩ := at0.bl (hbW4.trans hV5)
    have hxl := (at0.bl (hbW4.trans hb5)).lt
    have hxl2 := (at0.bl (hbW4.trans hV5)).lt
    have hne1 : w.heap.size ≠ w5.heap.size := by omega
    go_wp2_with fail
    refine (hf2.out _ hV5).mono ?_
    rintro e w6 ⟨A6, c6, rfl, p61, p62, hr6, hb6⟩
    have hb46 := hV5.trans hb6
    go_wp2_with fail
    refine (hck.out _ (hb46.alloc _)).mono ?_
    rintro e w7 ⟨rfl, hb7⟩
    go_wp2_with fail
    go_ret
    exact ⟨rfl, hbw4.trans ((hb46.alloc _).trans hb7)⟩
  · cases h
    · obtain rfl : now = true := k2.out
      have hPQ := k3 rfl
      clear k2 k3
      go_wp2_with fail
      refine (hf1.out _ hbw4).mono ?_
      rintro e w5 ⟨A5, c5, rfl, p51, p52, hr5, hb5⟩
      have atp := OpBox.new w5 P A5 c5 33
      have hV5 : Bl w4 (w5.alloc (.cells #[Value.int IntKind.u8 P.kind, Value.int IntKind.u32 P.id.t, Value.int IntKind.u8 P.id.r, Value.slice A5 P.pl.length c5, Value.int IntKind.i64 P.pt] 33)) := hb5.alloc _
      clear x0 x1 hxl
      obtain ⟨x0, x1, -, -⟩ := at0.bl (hbW4.trans hV5)
      have hxl := (at0.bl (hbW4.trans hb5)).lt
      have hxl2 := (at0.bl (hbW4.trans hV5)).lt
      have hne1 : w.heap.size ≠ w5.heap.size := by omega
      go_wp2_with fail
      refine (hf2.out _ hV5).mono ?_
      rintro e w6 ⟨A6, c6, rfl, p61, p62, hr6, hb6⟩
      have hb46 := hV5.trans hb6
      have atq := OpBox.new w6 Q A6 c6 33
      have hV6 : Bl w4 (w6.alloc (.cells #[Value.int IntKind.u8 Q.kind, Value.int IntKind.u32 Q.id.t, Value.int IntKind.u8 Q.id.r, Value.slice A6 Q.pl.length c6, Value.int IntKind.i64 Q.pt] 33)) := hb46.alloc _
      have hV56 : Bl (w5.alloc (.cells #[Value.int IntKind.u8 P.kind, Value.int IntKind.u32 P.id.t, Value.int IntKind.u8 P.id.r, Value.slice A5 P.pl.length c5, Value.int IntKind.i64 P.pt] 33)) (w6.alloc (.cells #[Value.int IntKind.u8 Q.kind, Value.int IntKind.u32 Q.id.t, Value.int IntKind.u8 Q.id.r, Value.slice A6 Q.pl.length c6, Value.int IntKind.i64 Q.pt] 33)) := hb6.alloc _
      clear x0 x1 hxl hxl2
      obtain ⟨x0, x1, -, -⟩ := at0.bl (hbW4.trans hV6)
      have hxl := (at0.bl (hbW4.trans hb46)).lt
      have hxl2 := (at0.bl (hbW4.trans hV6)).lt
      have hne2 : w.heap.size ≠ w6.heap.size := by omega
      go_wp2_with fail
      refine (hcl.out _ (hbw4.trans hV6)).mono ?_
      rintro e w7 ⟨rfl, hb7⟩
      have hb47 := hV6.trans hb7
      obtain ⟨y0, y1, y2, y3, y4⟩ := (atp.bl (hV56.trans hb7)).cells
      obtain ⟨z0, z1, z2, z3, z4⟩ := (atq.bl hb7).cells
      have hyl := (atp.bl (hV56.trans hb7)).lt
      have hzl := (atq.bl hb7).lt
      clear x0 x1 hxl hxl2
      go_wp2_with fail
      refine (opSame P Q A5 A6 c5 c6 _ ⟨hok1.out, p51, p52, hr5.zero.bl (((Bl.refl w5).alloc _).trans (hV56.trans hb7))⟩ ⟨hok2.out, p61, p62, hr6.zero.bl (((Bl.refl w6).alloc _).trans hb7)⟩).mono ?_
      rintro e w8 ⟨rfl, hb8⟩
      rw [hPQ]
      have hb48 := hb47.trans hb8
      go_wp2_with fail
      refine (hck.out _ hb48).mono ?_
      rintro e w9 ⟨rfl, hb9⟩
      go_wp2_with fail
      go_ret
      exact ⟨rfl, hbw4.trans (hb48.trans hb9)⟩
    · obtain rfl : now = false := k2.out
      clear k2 k3
      go_wp2_with fail
      refine (hf1.out _ hbw4).mono ?_
      rintro e w5 ⟨A5, c5, rfl, p51, p52, hr5, hb5⟩
      have hV5 : Bl w4 (w5.alloc (.cells #[Value.int IntKind.u8 P.kind, Value.int IntKind.u32 P.id.t, Value.int IntKind.u8 P.id.r, Value.slice A5 P.pl.length c5, Value.int IntKind.i64 P.pt] 33)) := hb5.alloc _
      clear x0 x1 hxl
      obtain ⟨x0, x1, -, -⟩ := at0.bl (hbW4.trans hV5)
      have hxl := (at0.bl (hbW4.trans hb5)).lt
      have hxl2 := (at0.bl (hbW4.trans hV5)).lt
      have hne1 : w.heap.size ≠ w5.heap.size := by omega
      go_wp2_with fail
      refine (hf2.out _ hV5).mono ?_
      rintro e w6 ⟨A6, c6, rfl, p61, p62, hr6, hb6⟩
      have hb46 := hV5.trans hb6
      have hV6 : Bl w4 (w6.alloc (.cells #[Value.int IntKind.u8 Q.kind, Value.int IntKind.u32 Q.id.t, Value.int IntKind.u8 Q.id.r, Value.slice A6 Q.pl.length c6, Value.int IntKind.i64 Q.pt] 33)) := hb46.alloc _
      clear x0 x1 hxl hxl2
      obtain ⟨x0, x1, -, -⟩ := at0.bl (hbW4.trans hV6)
      have hxl := (at0.bl (hbW4.trans hb46)).lt
      have hxl2 := (at0.bl (hbW4.trans hV6)).lt
      have hne2 : w.heap.size ≠ w6.heap.size := by omega
      go_wp2_with fail
      refine (hcl.out _ (hbw4.trans hV6)).mono ?_
      rintro e w7 ⟨rfl, hb7⟩
      have hb47 := hV6.trans hb7
      clear x0 x1 hxl hxl2
      go_wp2_with fail
      refine (hck.out _ hb47).mono ?_
      rintro e w8 ⟨rfl, hb8⟩
      go_wp2_with fail
      go_ret
      exact ⟨rfl, hbw4.trans (hb47.trans hb8)⟩
end Go.Proofs.Ytedcopjpgijpjaa
