/-
  The walk of ClockIs; what the references of layer 8 say: Check, Has, Count.
-/
import Derived.Test.YtiimpmdnkjhcoaaOfB
import Derived.Test.YtiimpmdnkjhcoaaEntry
import Derived.Test.YtiimpmdnkjhcoaaClockTells
namespace Go.Proofs.Ytiimpmdnkjhcoaa
open Go.RowKit

theorem refCheck08 (A : Option Addr) (c : Nat) (l : List Times) (w : World) (hl : l.length ≤ maxLen) (hA : R cTimes 0 w A l) :
    Calls Try.prog 52 #[.slice A l.length c] w fun e w' => e = .returned (.int .i64 (okOr 8 (clockMay l))) ∧ Bl w w' := by
  have hm := hide (refMay08 A c l w hl hA)
  cases q : clockMay l
  all_goals
    rw [q] at hm
    first | rw [okOr_true] | rw [okOr_false]
    clear q
    go_enter Try.func52, Try.ntmps52
    go_wp2_with fail
    refine (hm.out).mono ?_
    rintro e w1 ⟨rfl, hb1⟩
    go_wp2_with fail
    go_ret
    exact ⟨rfl, hb1⟩

set_option maxRecDepth 100000 in
theorem refCount08 (A : Option Addr) (c : Nat) (l : List Times) (w : World) (hl : l.length ≤ maxLen) (hA : R cTimes 0 w A l) :
    Calls Try.prog 55 #[.slice A l.length c] w fun e w' => e = .returned (.int .i64 (clockCount l)) ∧ Bl w w' := by
  have hm := hide (refMay08 A c l w hl hA)
  cases q : clockMay l
  · have e1 : clockCount l = 0 := by unfold clockCount; rw [q]; rfl
    rw [e1]
    rw [q] at hm
    clear e1 q
    go_enter Try.func55, Try.ntmps55
    go_wp2_with fail
    refine (hm.out).mono ?_
    rintro e w1 ⟨rfl, hb1⟩
    go_wp2_with fail
    go_ret
    exact ⟨rfl, hb1⟩
  · have e1 : clockCount l = clockMany l := by unfold clockCount; rw [q]; rfl
    rw [e1]
    have hmy := hide fun V (hV : Bl w V) => refMany08 A c l V q (hA.bl hV)
    rw [q] at hm
    clear e1 q
    go_enter Try.func55, Try.ntmps55
    go_wp2_with fail
    refine (hm.out).mono ?_
    rintro e w1 ⟨rfl, hb1⟩
    go_wp2_with fail
    refine (hmy.out _ hb1).mono ?_
    rintro e w2 ⟨rfl, hb2⟩
    go_wp2_with fail
    go_ret
    exact ⟨rfl, hb1.trans hb2⟩

set_option maxRecDepth 100000 in
theorem refHas08 (A : Option Addr) (c : Nat) (l : List Times) (x : Id) (w : World) (hl : l.length ≤ maxLen) (hA : R cTimes 0 w A l) :
    Calls Try.prog 53 #[.slice A l.length c, .agg #[.int .u32 x.t, .int .u8 x.r]] w fun e w' => e = .returned (.bool (clockHas l x)) ∧ Bl w w' := by
  have hm := hide fun V (hV : Bl w V) => refMay08 A c l V hl (hA.bl hV)
  cases q : clockMay l
  · have e1 : clockHas l x = false := by unfold clockHas; rw [q]; rfl
    rw [e1]
    rw [q] at hm
    clear e1 q
    go_enter Try.func53, Try.ntmps53
    go_wp2_with fail
    refine (hm.out _ (by repeat first | assumption | exact Bl.refl _ | refine Bl.alloc ?_ _ | refine Bl.trans ?_ (by assumption))).mono ?_
    rintro e w1 ⟨rfl, hb1⟩
    go_wp2_with fail
    go_ret
    exact ⟨rfl, ((Bl.refl _).alloc _).trans hb1⟩
  · have hi := hide fun V (hV : Bl w V) => refIn08 A c l x V hl (hA.bl hV)
    rw [clock_in q] at hi
    rw [q] at hm
    have at0 := IdBox.new w x 39
    clear q
    go_enter Try.func53, Try.ntmps53
    go_wp2_with fail
    refine (hm.out _ (by repeat first | assumption | exact Bl.refl _ | refine Bl.alloc ?_ _ | refine Bl.trans ?_ (by assumption))).mono ?_
    rintro e w1 ⟨rfl, hb1⟩
    obtain ⟨X0, X1, -, -⟩ := at0.bl hb1
    go_wp2_with fail
    refine (hi.out _ (by repeat first | assumption | exact Bl.refl _ | refine Bl.alloc ?_ _ | refine Bl.trans ?_ (by assumption))).mono ?_
    rintro e w2 ⟨rfl, hb2⟩
    go_wp2_with fail
    go_ret
    exact ⟨rfl, (((Bl.refl _).alloc _).trans hb1).trans hb2⟩

theorem ofL_len (l : List Id) : (ofL l).length ≤ 8 := by
  unfold ofL
  split
  · exact Nat.zero_le _
  · split
    · exact eachL_len _ 8
    · exact Nat.zero_le _

theorem clockIds_len (l : List Times) : (clockIds l).length ≤ 1024 := by
  unfold clockIds
  split
  · rename_i h
    split
    · rename_i h2
      have := clockAll_length l (clockFrom_all _ (show clockFrom (-1) l = true from h))
      omega
    · exact Nat.zero_le _
  · exact Nat.zero_le _

theorem sameIdsSelf (l : List Id) {A B : Option Addr} {c d : Nat} {w : World} (hl : l.length ≤ maxLen) (hA : R cId 0 w A l) (hB : R cId 0 w B l) :
    Calls Try.prog 51 #[.slice A l.length c, .slice B l.length d] w fun e w' => e = .returned (.bool true) ∧ Bl w w' := by
  have h := refSameIds A B c d l l w hl hl hA hB
  rw [show same l l = true by unfold same; simp] at h
  exact h

theorem clockSameSelf (l : List Times) {A B : Option Addr} {c d : Nat} {w : World} (hl : l.length ≤ maxLen) (hA : R cTimes 0 w A l) (hB : R cTimes 0 w B l) :
    Calls Try.prog 58 #[.slice A l.length c, .slice B l.length d] w fun e w' => e = .returned (.bool true) ∧ Bl w w' := by
  have h := clockSame A B c d l l w hl hl hA hB
  rw [show same l l = true by unfold same; simp] at h
  exact h

set_option maxRecDepth 100000 in
set_option maxHeartbeats 8000000 in
theorem lawClockIs08 (A B D : Option Addr) (c d f : Nat) (a b : List Times) (x : Id) (l : List Id) (w : World) (hla : a.length ≤ 140737488355328) (hlb : b.length ≤ 140737488355328) (hsa : ∀ y ∈ a, y.s.length ≤ 140737488355328) (hsb : ∀ y ∈ b, y.s.length ≤ 140737488355328)
    (hx : x.ok) (hll : l.length ≤ maxLen) (hA : R cTimes 0 w A a) (hB : R cTimes 0 w B b) (hD : R cId 0 w D l) :
    Calls Try.prog 10 #[.slice A a.length c, .slice B b.length d, .agg #[.int .u32 x.t, .int .u8 x.r], .slice D l.length f] w fun e w' => e = .returned (.bool true) ∧ Bl w w' := by
  have ham : a.length ≤ maxLen := by unfold maxLen; omega
  have hbm : b.length ≤ maxLen := by unfold maxLen; omega
  have hga := hide fun V (hv : Bl w V) => refGreat08 A c a V hla hsa (hA.bl hv)
  have hgb := hide fun V (hv : Bl w V) => refGreat08 B d b V hlb hsb (hB.bl hv)
  have pids := fun X k V (hX : R cTimes 0 V X a) => clockIdsC X k a V ham hX
  have rids := fun V (hv : Bl w V) => refIds08 A c a V ham (hA.bl hv)
  have pof := fun V (hv : Bl w V) => clockOf D f l V hll (hD.bl hv)
  have rof := fun V (hv : Bl w V) => refOf08 D f l V hll (hD.bl hv)
  have hat : ∀ V : World, IdBox (V.alloc (.cells #[Value.int IntKind.u32 x.t, Value.int IntKind.u8 x.r] 39)) V.heap.size x := fun V => IdBox.new V x _
  have l1 := clockIds_len a
  have l2 := ofL_len l
  generalize clockIds a = L1 at *
  generalize clockIdsErr a = N1 at *
  generalize ofL l = L2 at *
  generalize ofN l = N2 at *
  replace pids := hide pids
  replace rids := hide rids
  replace pof := hide pof
  replace rof := hide rof
  have hl1 : L1.length ≤ maxLen := by unfold maxLen; omega
  have hl2 : L2.length ≤ maxLen := by unfold maxLen; omega
  have e1 : (N1 == N1) = true := beq_self_eq_true _
  have e2 : (N2 == N2) = true := beq_self_eq_true _
  obtain ⟨W, hW⟩ : ∃ W, W = w.alloc (.cells #[Value.int IntKind.u32 x.t, Value.int IntKind.u8 x.r] 39) := ⟨_, rfl⟩
  have hb0 : Bl w W := by rw [hW]; exact (Bl.refl _).alloc _
  have at0 : IdBox W w.heap.size x := by rw [hW]; exact hat w
  clear hat
  go_enter Try.func10, Try.ntmps10
  go_wp2_with fail
  rw [← hW]
  clear hW
  refine (hga.out _ (by repeat first | assumption | exact Bl.refl _ | refine Bl.alloc ?_ _ | refine Bl.trans ?_ (by assumption))).mono ?_
  rintro e w1 ⟨q1, rfl, hfa, hb1⟩
  cases q1
  rotate_left
  · clear hfa
    go_wp2_with fail
    go_ret
    exact ⟨rfl, (by repeat first | assumption | exact Bl.refl _ | refine Bl.alloc ?_ _ | refine Bl.trans ?_ (by assumption))⟩
  replace hfa := hide (few.small (hfa rfl))
  go_wp2_with fail
  refine (hgb.out _ (by repeat first | assumption | exact Bl.refl _ | refine Bl.alloc ?_ _ | refine Bl.trans ?_ (by assumption))).mono ?_
  rintro e w2 ⟨q2, rfl, hfb, hb2⟩
  cases q2
  rotate_left
  · clear hfb
    go_wp2_with fail
    go_ret
    exact ⟨rfl, (by repeat first | assumption | exact Bl.refl _ | refine Bl.alloc ?_ _ | refine Bl.trans ?_ (by assumption))⟩
  clear hfb
  by_cases hbig : 2000 < l.length
  · have hbi : (2000 : Int) < (l.length : Int) := by omega
    clear hbig
    go_wp2_with fail
    go_ret
    exact ⟨rfl, (by repeat first | assumption | exact Bl.refl _ | refine Bl.alloc ?_ _ | refine Bl.trans ?_ (by assumption))⟩
  have hbi : ¬ (2000 : Int) < (l.length : Int) := by omega
  clear hbig
  go_wp2_with fail
  refine (refTwin08 A c a _ hfa.out (hA.bl (by repeat first | assumption | exact Bl.refl _ | refine Bl.alloc ?_ _ | refine Bl.trans ?_ (by assumption)))).mono ?_
  rintro e w3 ⟨X, k, rfl, x1, x2, hX, hb3⟩
  go_wp2_with fail
  refine (clockTwin X k a _ hfa.out hX.zero).mono ?_
  rintro e w4 ⟨T, t, rfl, t1, t2, hT, hb4⟩
  go_wp2_with fail
  refine (pids.out X k _ (hX.zero.bl (by repeat first | assumption | exact Bl.refl _ | refine Bl.alloc ?_ _ | refine Bl.trans ?_ (by assumption)))).mono ?_
  rintro e w5 ⟨M, m, rfl, m1, m2, hM, hb5⟩
  go_wp2_with fail
  refine (rids.out _ (by repeat first | assumption | exact Bl.refl _ | refine Bl.alloc ?_ _ | refine Bl.trans ?_ (by assumption))).mono ?_
  rintro e w6 ⟨N, n, rfl, n1, n2, hN, hb6⟩
  go_wp2_with fail
  refine (pof.out _ (by repeat first | assumption | exact Bl.refl _ | refine Bl.alloc ?_ _ | refine Bl.trans ?_ (by assumption))).mono ?_
  rintro e w7 ⟨P, p, rfl, p1, p2, hP, hb7⟩
  go_wp2_with fail
  refine (rof.out _ (by repeat first | assumption | exact Bl.refl _ | refine Bl.alloc ?_ _ | refine Bl.trans ?_ (by assumption))).mono ?_
  rintro e w8 ⟨Q, q, rfl, q1, q2, hQ, hb8⟩
  go_wp2_with fail
  refine (sameIdsSelf L1 hl1 (hM.zero.bl (by repeat first | assumption | exact Bl.refl _ | refine Bl.alloc ?_ _ | refine Bl.trans ?_ (by assumption))) (hN.zero.bl (by repeat first | assumption | exact Bl.refl _ | refine Bl.alloc ?_ _ | refine Bl.trans ?_ (by assumption)))).mono ?_
  rintro e w9 ⟨rfl, hb9⟩
  go_wp2_with fail
  refine (sameSelf08 L2 hl2 (hP.zero.bl (by repeat first | assumption | exact Bl.refl _ | refine Bl.alloc ?_ _ | refine Bl.trans ?_ (by assumption))) (hQ.zero.bl (by repeat first | assumption | exact Bl.refl _ | refine Bl.alloc ?_ _ | refine Bl.trans ?_ (by assumption)))).mono ?_
  rintro e w10 ⟨rfl, hb10⟩
  go_wp2_with fail
  refine (sameSelf08 a ham (hT.zero.bl (by repeat first | assumption | exact Bl.refl _ | refine Bl.alloc ?_ _ | refine Bl.trans ?_ (by assumption))) (hA.bl (by repeat first | assumption | exact Bl.refl _ | refine Bl.alloc ?_ _ | refine Bl.trans ?_ (by assumption)))).mono ?_
  rintro e w11 ⟨rfl, hb11⟩
  have hbX : Bl w3 w11 := (by repeat first | assumption | exact Bl.refl _ | refine Bl.alloc ?_ _ | refine Bl.trans ?_ (by assumption))
  have hbI : Bl W w11 := (by repeat first | assumption | exact Bl.refl _ | refine Bl.alloc ?_ _ | refine Bl.trans ?_ (by assumption))
  have hbA : Bl w w11 := (by repeat first | assumption | exact Bl.refl _ | refine Bl.alloc ?_ _ | refine Bl.trans ?_ (by assumption))
  have hA11 := hA.bl hbA
  have hB11 := hB.bl hbA
  have hX11 := hX.zero.bl hbX
  have at1 := at0.bl hbI
  clear hbX hbI hbA
  have S0 := fun p : Wd w11 => Wd.cell at1.c0 at1.lt p
  have S1 := fun p : Wd w11 => Wd.cell at1.c1 at1.lt p
  have k1 := hide fun p : Wd w11 => clockCheck X k a p.v ham (hX11.bl p.h)
  have k2 := hide fun p : Wd w11 => refCheck08 A c a p.v ham (hA11.bl p.h)
  have k3 := hide fun p : Wd w11 => clockHasC X k a x p.v hla hx (hX11.bl p.h)
  have k4 := hide fun p : Wd w11 => refHas08 A c a x p.v ham (hA11.bl p.h)
  have k5 := hide fun p : Wd w11 => clockCountC X k a p.v ham (hX11.bl p.h)
  have k6 := hide fun p : Wd w11 => refCount08 A c a p.v ham (hA11.bl p.h)
  have k7 := hide fun p : Wd w11 => clockTop X k a p.v ham (hX11.bl p.h)
  have k8 := hide fun p : Wd w11 => refTop08 A c a p.v ham (hA11.bl p.h)
  have k9 := hide fun p : Wd w11 => clockSame X B k d a b p.v ham hbm (hX11.bl p.h) (hB11.bl p.h)
  have k10 := hide fun p : Wd w11 => refSame08 A B c d a b p.v ham hbm (hA11.bl p.h) (hB11.bl p.h)
  have k11 := hide fun p : Wd w11 => clockSameSelf a (c := k) (d := c) (w := p.v) ham (hX11.bl p.h) (hA11.bl p.h)
  generalize okOr 8 (clockMay a) = r1 at k1 k2
  generalize clockHas a x = r2 at k3 k4
  generalize clockCount a = r3 at k5 k6
  generalize clockTopF a = r4 at k7 k8
  generalize same a b = r5 at k9 k10
  have f1 : (r1 == r1) = true := beq_self_eq_true _
  have f2 : (r2 == r2) = true := beq_self_eq_true _
  have f3 : (r3 == r3) = true := beq_self_eq_true _
  have f4 : (r4 == r4) = true := beq_self_eq_true _
  have f5 : (r5 == r5) = true := beq_self_eq_true _
  go_upto_region 10 with fail
  (refine wp_region_wd (by kernel_rfl) (by kernel_rfl) ?_
   repeat (go_big_quiet_step ((first | (go_at_call 45; exact Calls.wd (k1.out _)) | (go_at_call 52; exact Calls.wd (k2.out _)) | (go_at_call 44; exact Calls.wd (k3.out _)) | (go_at_call 53; exact Calls.wd (k4.out _)) | (go_at_call 54; exact Calls.wd (k5.out _)) | (go_at_call 55; exact Calls.wd (k6.out _)) | (go_at_call 56; exact Calls.wd (k7.out _)) | (go_at_call 57; exact Calls.wd (k8.out _)) | (go_at_call 58; first | exact Calls.wd (k9.out _) | exact Calls.wd (k11.out _)) | (go_at_call 32; exact Calls.wd (k10.out _)))))
   refine wpQuiet_nil ?_
   intro w12 hw'
   obtain ⟨⟨wx, hb12⟩, hw''⟩ := hw'
   subst hw'')
  have hT12 : R cTimes w3.heap.size w12 T a := hT.bl (by repeat first | assumption | exact Bl.refl _ | refine Bl.alloc ?_ _ | refine Bl.trans ?_ (by assumption))
  have hb312 : Bl w3 w12 := (by repeat first | assumption | exact Bl.refl _ | refine Bl.alloc ?_ _ | refine Bl.trans ?_ (by assumption))
  have hb012 : Bl w w3 := (by repeat first | assumption | exact Bl.refl _ | refine Bl.alloc ?_ _ | refine Bl.trans ?_ (by assumption))
  go_wp2_with fail
  refine (lawSpoil08 w3.heap.size T t a w12 _ (SmI.refl _) (by have := hfa.out.1; omega) hT12).mono ?_
  rintro e w13 ⟨⟨v1, rfl⟩, hB13, -⟩
  have hb313 : Bl w3 w13 := hb312.step hB13
  go_wp2_with fail
  refine (sameSelf08 a ham (hX.zero.bl hb313) (hA.bl (hb012.trans hb313))).mono ?_
  rintro e w14 ⟨rfl, hb14⟩
  go_wp2_with fail
  go_ret
  exact ⟨rfl, hb012.trans (hb313.trans hb14)⟩
end Go.Proofs.Ytiimpmdnkjhcoaa
