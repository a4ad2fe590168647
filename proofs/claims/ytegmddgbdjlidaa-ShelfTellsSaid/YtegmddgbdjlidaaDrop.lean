/-
  The walk of shelf.Drop.
-/
import Derived.Test.YtegmddgbdjlidaaDelete
namespace Go.Proofs.Ytegmddgbdjlidaa
open Go.RowKit

def dropN (l : List Entry) (s : Id) : Int := if shelfMay l then (if (atOf l s).2 then 0 else 190) else 8
def dropL (l : List Entry) (s : Id) : List Entry := if dropN l s = 0 then l.take (atOf l s).1.toNat ++ l.drop ((atOf l s).1.toNat + 1) else []

/-- Found: there it is. -/
theorem at_true {l : List Entry} {s : Id} (hm : shelfMay l = true) (h : (atOf l s).2 = true) : ∃ k : Nat, (atOf l s).1 = (k : Int) ∧ ∃ x, l[k]? = some x ∧ x.id = s := by
  obtain ⟨y, hy, e⟩ := scan_true s _ h
  rw [List.mem_reverse] at hy
  obtain ⟨k, hk⟩ := List.getElem?_of_mem hy
  refine ⟨k, ?_, y, hk, e⟩
  rw [at_found hm hk e]

set_option maxRecDepth 100000 in
set_option maxHeartbeats 2000000 in
theorem shelfDrop (A : Option Addr) (c : Nat) (l : List Entry) (s : Id) (w : World) (hl : l.length ≤ 1099511627776) (hs : s.ok) (hA : R cEntry 0 w A l) :
    Calls Try.prog 39 #[.slice A l.length c, .agg #[.int .u32 s.t, .int .u8 s.r]] w (New2 cEntry (dropL l s) (dropN l s) w) := by
  have hchk := fun W (hb : Bl w W) => shelfCheck A c l W (by unfold maxLen; omega) (hA.bl hb)
  obtain ⟨L, hL⟩ : ∃ L, L = dropL l s := ⟨_, rfl⟩
  obtain ⟨N, hN⟩ : ∃ N, N = dropN l s := ⟨_, rfl⟩
  rw [← hL, ← hN]
  have hV0 : Bl w (w.alloc (.cells #[Value.int IntKind.u32 s.t, Value.int IntKind.u8 s.r] 25)) := (Bl.refl _).alloc _
  have at0 := IdAt.new w s
  cases hm : shelfMay l
  · have e2 : N = 8 := by rw [hN]; unfold dropN; rw [hm]; rfl
    have e1 : L = [] := by rw [hL]; unfold dropL; rw [← hN, e2]; rfl
    subst e1 e2
    rw [hm, okOr_false] at hchk
    replace hchk := hide hchk
    clear hL hN hm at0
    go_enter Try.func39, Try.ntmps39
    go_wp2_with fail
    refine (hchk.out _ hV0).mono ?_
    rintro e w1 ⟨rfl, hb1⟩
    go_wp2_with fail
    go_ret2
    exact ⟨none, 0, rfl, Nat.le_refl _, Nat.zero_le _, R.nil, hV0.trans hb1⟩
  rw [hm, okOr_true] at hchk
  replace hchk := hide hchk
  have hsml := hide (may_small hm)
  have hat := fun W (hb : Bl w W) => shelfAt A c l s W hl hs (hA.bl hb)
  cases hb2 : (atOf l s).2
  · have e2 : N = 190 := by rw [hN]; unfold dropN; rw [hm, hb2]; rfl
    have e1 : L = [] := by rw [hL]; unfold dropL; rw [← hN, e2]; rfl
    subst e1 e2
    rw [hb2] at hat
    generalize (atOf l s).1 = n at hat
    replace hat := hide hat
    clear hL hN hm hb2
    go_enter Try.func39, Try.ntmps39
    go_wp2_with fail
    refine (hchk.out _ hV0).mono ?_
    rintro e w1 ⟨rfl, hb1⟩
    obtain ⟨y0, y1, -, -⟩ := at0.bl hb1
    go_wp2_with fail
    refine (hat.out _ (hV0.trans hb1)).mono ?_
    rintro e w2 ⟨rfl, hb2⟩
    go_wp2_with fail
    go_ret2
    exact ⟨none, 0, rfl, Nat.le_refl _, Nat.zero_le _, R.nil, (hV0.trans hb1).trans hb2⟩
  · obtain ⟨k, hk, x, hx, -⟩ := at_true hm hb2
    have hkl : k < l.length := (List.getElem?_eq_some_iff.1 hx).1
    clear hx
    have e2 : N = 0 := by rw [hN]; unfold dropN; rw [hm, hb2]; rfl
    have e1 : L = l.take k ++ l.drop (k + 1) := by rw [hL]; unfold dropL; rw [← hN, e2, if_pos rfl, hk, Int.toNat_natCast]
    replace e1 := hide e1
    subst e2
    rw [hb2, hk] at hat
    replace hat := hide hat
    clear hL hN hm hb2 hk
    go_enter Try.func39, Try.ntmps39
    go_wp2_with fail
    refine (hchk.out _ hV0).mono ?_
    rintro e w1 ⟨rfl, hb1⟩
    obtain ⟨y0, y1, -, -⟩ := at0.bl hb1
    go_wp2_with fail
    refine (hat.out _ (hV0.trans hb1)).mono ?_
    rintro e w2 ⟨rfl, hb2⟩
    have hw2 := (hV0.trans hb1).trans hb2
    clear y0 y1
    go_wp2_with fail
    refine (shelfTwinO A c l _ hsml.out (hA.bl hw2)).mono ?_
    rintro e w3 ⟨v, rfl, hown, hb3⟩
    have hw3 := hw2.trans hb3
    have hdel := deleteC _ v l k w3 hown hkl
    rw [← e1.out] at hdel
    have hwz := hw2.size
    rcases hown.form with ⟨rfl, hl0⟩ | ⟨g, cap, rfl, hg1, hg2, hg3, hg4⟩
    · exact absurd (congrArg List.length hl0) (by rw [List.length_nil]; omega)
    · have hw1 : IntKind.i64.wrap ((k : Int) + 1) = (k : Int) + 1 := by rw [IntKind.wrap_i64]; omega
      go_wp2_with fail
      refine hdel.mono ?_
      rintro e w4 ⟨A4, c4, rfl, j1, j2, hr4, hb4⟩
      go_wp2_with fail
      go_ret2
      exact ⟨A4, c4, rfl, j1, j2, hr4.more hwz, Below.trans (B := w.heap.size) hw3 (Below.mono hb4 hwz)⟩
end Go.Proofs.Ytegmddgbdjlidaa
