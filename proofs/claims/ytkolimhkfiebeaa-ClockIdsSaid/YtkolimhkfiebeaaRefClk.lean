/-
  The walks of the references of layer 8: put, Both, Left, One, told, Join, Less, Add.
-/
import Derived.Test.YtkolimhkfiebeaaClockOps
import Derived.Test.YtkolimhkfiebeaaRefSets
import Derived.Test.YtkolimhkfiebeaaRefIn
namespace Go.Proofs.Ytkolimhkfiebeaa
open Go.RowKit

def plusT (F : List Times) (k : Int) (S : List Span) : List Times := F ++ if S.length = 0 then [] else [⟨k, S⟩]

set_option maxRecDepth 100000 in
set_option maxHeartbeats 1000000 in
theorem refPut08 (base : Nat) (v : Value) (F : List Times) (k : Int) (S : List Span) (A1 : Option Addr) (c1 : Nat) (W w : World) (hk : 0 ≤ k ∧ k < 256) (hF : F.length ≤ 8) (hW : Own cTimes 96 base W v F) (ho : Own cTimes 96 base w v F) (hbase : base ≤ W.heap.size) (hWw : W.heap.size ≤ w.heap.size)
    (h1 : S.length ≤ c1) (h2 : c1 ≤ maxLen) (hS : R cSpan W.heap.size w A1 S) :
    Calls Try.prog 180 #[v, .int .u8 k, .slice A1 S.length c1] w fun e w' => ∃ v', e = .returned (.tuple #[v', .bool (decide (S.length ≤ 1024))]) ∧ Own cTimes 96 base w' v' (plusT F k S) ∧ Below base w w' := by
  obtain ⟨i0, hi, hz0, hz1, hz2⟩ := info_parts Try.infoTimes
  have hsz1 : base ≤ w.heap.size := Nat.le_trans hbase hWw
  have hdec : ((S.length : Int) ≤ 1024) = (S.length ≤ 1024) := propext (by omega)
  by_cases hS0 : S.length = 0
  · have hSi : ¬ (0 : Int) < (S.length : Int) := by omega
    have hp : plusT F k S = F := by unfold plusT; rw [if_pos hS0, List.append_nil]
    rw [hp]
    clear hp hS0 hdec
    have hdd : (decide ((S.length : Int) ≤ 1024)) = decide (S.length ≤ 1024) := by congr 1; exact propext (by omega)
    go_enter Try.func180, Try.ntmps180
    go_wp2_with fail
    go_ret2
    exact ⟨v, by first | rfl | (rw [hdd]), ho, Below.refl _ _⟩
  · have hSi : (0 : Int) < (S.length : Int) := by omega
    have hp : plusT F k S = F ++ [⟨k, S⟩] := by unfold plusT; rw [if_neg hS0]
    rw [hp]
    clear hp hdec
    have hdd : (decide ((S.length : Int) ≤ 1024)) = decide (S.length ≤ 1024) := by congr 1; exact propext (by omega)
    have hsrc := hide (Own.src2 (C := cTimes) (w1 := w) (t := 96) (cs := [.int .u8 k, .slice A1 S.length c1]) (x := ⟨k, S⟩) hW hbase ⟨hk, A1, c1, h1, h2, rfl, hS⟩)
    have hown2 := ho.bl ((Bl.refl w).alloc (.cells #[.int .u8 k, .slice A1 S.length c1] 96))
    have qa1 : F.length + [(⟨k, S⟩ : Times)].length ≤ maxLen := by rw [List.length_singleton]; unfold maxLen; omega
    have qa2 : (F.length + [(⟨k, S⟩ : Times)].length) * 32 ≤ 140737488355328 := by rw [List.length_singleton]; omega
    have qa3 : base ≤ (w.alloc (.cells #[.int .u8 k, .slice A1 S.length c1] 96)).heap.size := by rw [World.size_alloc]; omega
    replace hown2 := hide hown2
    go_enter Try.func180, Try.ntmps180
    go_wp2_with (at_builtin; refine Hid.out ?_)
    refine hide ?_
    refine wpList_append_any2 (C := cTimes) (xs := F) (ys := [⟨k, S⟩]) rfl (.tmp 11) (.tmp 15) _ rfl 96 i0 _ 32 Try.underlying22 hi hz0 hz1 hz2 rfl v base rfl hown2.out (some ⟨w.heap.size, 0, none⟩) 1 1 rfl rfl hsrc.out qa1 qa2 qa3 ?_
    intro v9 w9 hown9 hg9 hf9
    have hB9 : Below base w w9 := ((Below.refl _ _).alloc hsz1 _).grown hg9 qa3 (fun j hj => (hown2.out.lt hj).1)
    clear hown2 hsrc qa1 qa2 qa3 hg9 hf9
    go_wp2_with fail
    go_ret2
    exact ⟨v9, by first | rfl | (rw [hdd]), hown9, hB9⟩

/-- Has no replica too many? -/
def eachOk (Ls : Nat → List Span) : Nat → Bool
  | 0 => true
  | k + 1 => eachOk Ls k && decide ((Ls k).length ≤ 1024)

def NewB (l : List Times) (b : Bool) (w : World) (e : Ending) (w' : World) : Prop := ∃ A c, e = .returned (.tuple #[.slice A l.length c, .bool b]) ∧ l.length ≤ c ∧ c ≤ maxLen ∧ R cTimes w.heap.size w' A l ∧ Bl w w'

/-- What each replica's spans must be, for Both and Left. -/
def EachFit (a b : List Times) : Prop := ∀ r : Int, 0 ≤ r → r < 8 → (firstOf a r).length ≤ 1048576 ∧ spansFrom 1 (firstOf a r) = true ∧ ∀ y ∈ firstOf b r, okS y

theorem fit_may {a b : List Times} (ha : clockMay a = true) (hb : clockMay b = true) : EachFit a b := fun r _ _ => by
  obtain ⟨h1, h2⟩ := may_from (first_may ha r)
  exact ⟨by omega, h1, from_ok (may_from (first_may hb r)).1⟩

set_option maxRecDepth 100000 in
set_option maxHeartbeats 4000000 in
theorem refBoth08 (A B : Option Addr) (c d : Nat) (a b : List Times) (w : World) (hl : a.length ≤ maxLen) (hm : b.length ≤ maxLen) (hfit : EachFit a b) (hA : R cTimes 0 w A a) (hB : R cTimes 0 w B b) :
    Calls Try.prog 147 #[.slice A a.length c, .slice B b.length d] w (NewB (eachL (fun r => bothF (firstOf a r) (firstOf b r)) 8) (eachOk (fun r => bothF (firstOf a r) (firstOf b r)) 8) w) := by
  have hsa := hide fun r => refSpans08 A c a r w hl hA
  have hsb := hide fun r => refSpans08 B d b r w hm hB
  have hbo := hide fun (k : Nat) (hk : k < 8) X x Y y V (h1 : (firstOf b k).length ≤ maxLen) (hX : R cSpan 0 V X (firstOf a k)) (hY : R cSpan 0 V Y (firstOf b k)) => refBoth07 X Y x y (firstOf a k) (firstOf b k) V (hfit k (by omega) (by omega)).1 h1 (hfit k (by omega) (by omega)).2.1 (hfit k (by omega) (by omega)).2.2 hX hY
  obtain ⟨Ls, hLs⟩ : ∃ Ls : Nat → List Span, Ls = fun (r : Nat) => bothF (firstOf a r) (firstOf b r) := ⟨_, rfl⟩
  rw [← hLs]
  have hbo' : Hid (∀ (k : Nat) (hk : k < 8) X x Y y V (h1 : (firstOf b k).length ≤ maxLen) (hX : R cSpan 0 V X (firstOf a k)) (hY : R cSpan 0 V Y (firstOf b k)), Calls Try.prog 181 #[.slice X (firstOf a k).length x, .slice Y (firstOf b k).length y] V (New cSpan (Ls k) V)) := by
    rw [hLs]
    exact hbo
  clear hbo hLs hfit
  go_enter Try.func147, Try.ntmps147
  go_wp2_with fail
  go_loopw [6, 7, 8] (fun v6 v7 v8 wr => Bl w wr ∧ ∃ k : Nat, k ≤ 8 ∧ v8 = .int .u8 k ∧ Own cTimes 96 w.heap.size wr v6 (eachL Ls k) ∧ v7 = .bool (eachOk Ls k)) (fun _ _ v8 _ => 8 - (intOf v8).toNat)
  case atStart => exact ⟨Bl.refl _, 0, Nat.zero_le _, rfl, Own.nil, rfl⟩
  case round =>
    obtain ⟨hbl, k, hk, rfl, hown, rfl⟩ := hrel
    by_cases hlt : k < 8
    · have hki : (k : Int) < 8 := by omega
      obtain ⟨X, x, hx1, hx2, hXr, hxc⟩ := hsa.out k
      obtain ⟨Y, y, hy1, hy2, hYr, hyc⟩ := hsb.out k
      have hcb := hbo'.out k hlt
      have hel := hide (show eachL Ls (k + 1) = plusT (eachL Ls k) k (Ls k) from rfl)
      have heo := hide (show eachOk Ls (k + 1) = (eachOk Ls k && decide ((Ls k).length ≤ 1024)) from rfl)
      have hFl := eachL_len Ls k
      replace hxc := hide hxc
      replace hyc := hide hyc
      generalize firstOf a k = Xs at *
      generalize firstOf b k = Ys at *
      generalize eachL Ls k = F at *
      generalize eachOk Ls k = q at *
      generalize Ls k = S at *
      replace hcb := hide hcb
      go_wp2_with fail
      refine (hxc.out _ hbl).mono ?_
      rintro e w1 ⟨rfl, hb1⟩
      have hb01 := hbl.trans hb1
      go_wp2_with fail
      refine (hyc.out _ hb01).mono ?_
      rintro e w2 ⟨rfl, hb2⟩
      have hb02 := hb01.trans hb2
      go_wp2_with fail
      refine (hcb.out X x Y y _ (Nat.le_trans hy1 hy2) (hXr.bl hb02) (hYr.bl hb02)).mono ?_
      rintro e w3 ⟨A3, c3, rfl, h31, h32, hS, hb3⟩
      have hb03 := hb02.trans hb3
      go_wp2_with fail
      refine (refPut08 w.heap.size u6 F k S A3 c3 w2 w3 (by omega) (by omega) (hown.bl (hb1.trans hb2)) (hown.bl ((hb1.trans hb2).trans hb3)) hb02.size hb3.size h31 h32 hS).mono ?_
      rintro e w4 ⟨v4, rfl, hown4, hB4⟩
      have hb04 := hb03.step hB4
      cases q
      all_goals
        go_wp2_with fail
        go_roundw
        case rel => exact ⟨hb04, k + 1, by omega, by go_num, by rw [hel.out]; exact hown4, by rw [heo.out]; rfl⟩
        case measure => simp [intOf]; omega
    · have hk8 : k = 8 := by omega
      subst hk8
      generalize eachL Ls 8 = F at *
      generalize eachOk Ls 8 = q at *
      obtain ⟨A', c', rfl, hr, q1, q2⟩ := hown.reads
      go_wp2_with fail
      go_ret2
      exact ⟨A', c', rfl, q1, q2, hr, hbl⟩

end Go.Proofs.Ytkolimhkfiebeaa
