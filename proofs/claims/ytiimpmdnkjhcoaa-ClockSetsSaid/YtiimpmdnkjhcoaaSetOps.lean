/-
  The walks of span.Join, span.Less, span.Add.
-/
import Derived.Test.YtiimpmdnkjhcoaaSetPlain
import Derived.Test.YtiimpmdnkjhcoaaBox
namespace Go.Proofs.Ytiimpmdnkjhcoaa
open Go.RowKit

theorem joinWant (p q : Bool) (w : World) : Calls Try.prog 63 #[.agg #[.bool p, .bool q]] w fun e w' => e = .returned (.bool (orB p q)) ∧ Bl w w' := by
  cases p
  · go_enter Try.func63, Try.ntmps63
    go_wp2
    go_ret
    exact ⟨ret_bool rfl, (Bl.refl _).alloc _⟩
  · go_enter Try.func63, Try.ntmps63
    go_wp2
    go_ret
    exact ⟨rfl, (Bl.refl _).alloc _⟩

theorem lessWant (p q : Bool) (w : World) : Calls Try.prog 64 #[.agg #[.bool p, .bool q]] w fun e w' => e = .returned (.bool (lessB p q)) ∧ Bl w w' := by
  cases p
  · go_enter Try.func64, Try.ntmps64
    go_wp2
    go_ret
    exact ⟨rfl, (Bl.refl _).alloc _⟩
  · go_enter Try.func64, Try.ntmps64
    go_wp2
    go_ret
    exact ⟨ret_bool rfl, (Bl.refl _).alloc _⟩

theorem spanJoin (A B : Option Addr) (c d : Nat) (a b : List Span) (w : World) (hl : a.length ≤ maxLen) (hm : b.length ≤ maxLen) (hA : R cSpan 0 w A a) (hB : R cSpan 0 w B b) :
    Calls Try.prog 15 #[.slice A a.length c, .slice B b.length d] w (New2 cSpan (setL orB a b) (setN orB a b) w) := by
  have hs := spanSet 63 orB (enters_of Try.func63 (by kernel_rfl) rfl) joinWant A B c d a b w hl hm hA hB
  generalize setL orB a b = L at *
  generalize setN orB a b = N at *
  replace hs := hide hs
  go_enter Try.func15, Try.ntmps15
  go_wp2_with fail
  refine hs.out.mono ?_
  rintro e w1 ⟨A1, c1, rfl, h1, h2, h3, h4⟩
  go_wp2
  go_ret2
  exact ⟨A1, c1, rfl, h1, h2, h3, h4⟩

theorem spanLess (A B : Option Addr) (c d : Nat) (a b : List Span) (w : World) (hl : a.length ≤ maxLen) (hm : b.length ≤ maxLen) (hA : R cSpan 0 w A a) (hB : R cSpan 0 w B b) :
    Calls Try.prog 16 #[.slice A a.length c, .slice B b.length d] w (New2 cSpan (setL lessB a b) (setN lessB a b) w) := by
  have hs := spanSet 64 lessB (enters_of Try.func64 (by kernel_rfl) rfl) lessWant A B c d a b w hl hm hA hB
  generalize setL lessB a b = L at *
  generalize setN lessB a b = N at *
  replace hs := hide hs
  go_enter Try.func16, Try.ntmps16
  go_wp2_with fail
  refine hs.out.mono ?_
  rintro e w1 ⟨A1, c1, rfl, h1, h2, h3, h4⟩
  go_wp2
  go_ret2
  exact ⟨A1, c1, rfl, h1, h2, h3, h4⟩

/-- A new block with one span, read as a list. -/
theorem R.oneSpan {w : World} {x : Span} {t : TypeId} {lo : Nat} (hx : x.ok) (hlo : lo ≤ w.heap.size) : R cSpan lo (w.alloc (.cells #[.int .u32 x.f, .int .u32 x.t] t)) (some ⟨w.heap.size, 0, none⟩) [x] := by
  refine ⟨[.int .u32 x.f, .int .u32 x.t], RdL.one1 ⟨hx, rfl⟩, fun _ => ⟨w.heap.size, 0, rfl, ⟨hlo, by rw [World.size_alloc]; omega⟩, fun j u hu => ⟨?_, ?_⟩⟩⟩
  · rw [Nat.zero_add, cell_of_row _ w.heap.size j _ t (0, 0) (heap_alloc_new w _)]
    simpa using hu
  · rw [Nat.zero_add]
    exact frozen_new w _ t j

set_option maxHeartbeats 400000 in
theorem spanAdd (A : Option Addr) (c : Nat) (l : List Span) (x : Span) (w : World) (hl : l.length ≤ maxLen) (hx : x.ok) (hA : R cSpan 0 w A l) :
    Calls Try.prog 22 #[.slice A l.length c, .int .u32 x.f, .int .u32 x.t] w (New2 cSpan (sAddL l x) (sAddN l x) w) := by
  obtain ⟨L, hL⟩ : ∃ L, L = sAddL l x := ⟨_, rfl⟩
  obtain ⟨N, hN⟩ : ∃ N, N = sAddN l x := ⟨_, rfl⟩
  rw [← hL, ← hN]
  replace hL := hide hL
  replace hN := hide hN
  have h1 := hide (spanCheck A c l w hl hA)
  have h2 := hide (fun (V : World) (hV : Bl w V) => spanCheck (some ⟨V.heap.size, 0, none⟩) 1 [x] _ (by simp [maxLen]) (R.oneSpan (t := 36) (w := V) hx (Nat.zero_le _)))
  have h3 := hide (fun (V W : World) (hV : Bl w V) (hW : Bl (V.alloc (.cells #[.int .u32 x.f, .int .u32 x.t] 36)) W) => spanJoin A (some ⟨V.heap.size, 0, none⟩) c 1 l [x] W hl (by simp [maxLen]) (hA.bl ((hV.alloc _).trans hW)) ((R.oneSpan (t := 36) (w := V) hx (Nat.zero_le _)).bl hW))
  cases hm : spansMay l
  · have e1 : sAddL l x = [] := by unfold sAddL; rw [hm]; rfl
    have e2 : sAddN l x = 8 := by unfold sAddN; rw [hm]; rfl
    obtain rfl : L = [] := by rw [hL.out, e1]
    obtain rfl : N = 8 := by rw [hN.out, e2]
    clear e1 e2
    go_enter Try.func22, Try.ntmps22
    go_wp2_with fail
    refine h1.out.mono ?_
    rintro e w1 ⟨rfl, hb1⟩
    rw [hm, okOr_false]
    go_wp2
    go_ret2
    exact ⟨none, 0, rfl, Nat.le_refl _, Nat.zero_le _, R.nil, hb1⟩
  · cases ho : okX x
    · have e1 : sAddL l x = [] := by unfold sAddL; rw [hm, ho]; rfl
      have e2 : sAddN l x = 2 := by unfold sAddN; rw [hm, ho]; rfl
      obtain rfl : L = [] := by rw [hL.out, e1]
      obtain rfl : N = 2 := by rw [hN.out, e2]
      clear e1 e2
      go_enter Try.func22, Try.ntmps22
      go_wp2_with fail
      refine h1.out.mono ?_
      rintro e w1 ⟨rfl, hb1⟩
      rw [hm, okOr_true]
      replace hm := hide hm
      go_wp2_with fail
      refine (h2.out w1 hb1).mono ?_
      rintro e w2 ⟨rfl, hb2⟩
      rw [may_one, ho, okOr_false]
      go_wp2
      go_ret2
      exact ⟨none, 0, rfl, Nat.le_refl _, Nat.zero_le _, R.nil, (hb1.alloc _).trans hb2⟩
    · have e1 : sAddL l x = setL orB l [x] := by unfold sAddL; rw [hm, ho]; rfl
      have e2 : sAddN l x = setN orB l [x] := by unfold sAddN; rw [hm, ho]; rfl
      replace e1 := hL.out.trans e1
      replace e2 := hN.out.trans e2
      rw [← e1, ← e2] at h3
      clear e1 e2
      go_enter Try.func22, Try.ntmps22
      go_wp2_with fail
      refine h1.out.mono ?_
      rintro e w1 ⟨rfl, hb1⟩
      rw [hm, okOr_true]
      replace hm := hide hm
      go_wp2_with fail
      refine (h2.out w1 hb1).mono ?_
      rintro e w2 ⟨rfl, hb2⟩
      rw [may_one, ho, okOr_true]
      replace ho := hide ho
      go_wp2_with fail
      refine (h3.out w1 w2 hb1 hb2).mono ?_
      rintro e w3 ⟨A3, c3, rfl, g1, g2, g3, g4⟩
      go_wp2
      go_ret2
      have hb := (hb1.alloc _).trans hb2
      exact ⟨A3, c3, rfl, g1, g2, g3.more hb.size, hb.trans g4⟩

end Go.Proofs.Ytiimpmdnkjhcoaa
