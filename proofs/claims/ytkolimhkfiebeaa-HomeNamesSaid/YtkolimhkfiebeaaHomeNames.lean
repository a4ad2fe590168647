/-
  The walk of HomeNames.
-/
import Derived.Test.YtkolimhkfiebeaaHomeAlive
namespace Go.Proofs.Ytkolimhkfiebeaa
open Go.RowKit

set_option maxRecDepth 100000 in
theorem plainNames13 : (aheadS L13 ⟨2, 0⟩ = ⟨5, 1⟩ ∧ whereN L13 ⟨2, 0⟩ 1 = 0) ∧ (aheadS L13 ⟨0, 0⟩ = ⟨0, 0⟩ ∧ whereN L13 ⟨0, 0⟩ 1 = 130) ∧ (aheadS L13 ⟨9, 0⟩ = ⟨0, 0⟩ ∧ whereN L13 ⟨9, 0⟩ 1 = 130) ∧ (spanA L13 ⟨5, 1⟩ = mk5.pl ∧ spanB L13 ⟨5, 1⟩ = mk2.pl ∧ whereN L13 ⟨5, 1⟩ 0 = 0) ∧ (ofN L13 [⟨0, 0, 0⟩] = 8 ∧ ofS L13 [⟨0, 0, 0⟩] = ⟨0, 0⟩) := by decide

theorem ahead13 (A : Option Addr) (c : Nat) (w : World) (hA : R cOp 0 w A L13) (s q : Id) (n : Int) (h1 : aheadS L13 s = q) (h2 : whereN L13 s 1 = n) :
    Calls Try.prog 27 #[.slice A 2 c, .agg #[.int .u32 s.t, .int .u8 s.r]] w fun e w' => e = .returned (.tuple #[.agg #[.int .u32 q.t, .int .u8 q.r], .int .i64 n]) ∧ Bl w w' := by
  have h := homeAhead A c L13 s w (by decide) hA
  rw [h1, h2] at h
  exact h

theorem aheadA13 (A : Option Addr) (c : Nat) (w : World) (hA : R cOp 0 w A L13) : Calls Try.prog 27 #[.slice A 2 c, .agg #[.int .u32 2, .int .u8 0]] w fun e w' => e = .returned (.tuple #[.agg #[.int .u32 5, .int .u8 1], .int .i64 0]) ∧ Bl w w' :=
  ahead13 A c w hA ⟨2, 0⟩ ⟨5, 1⟩ 0 plainNames13.1.1 plainNames13.1.2

theorem aheadB13 (A : Option Addr) (c : Nat) (w : World) (hA : R cOp 0 w A L13) : Calls Try.prog 27 #[.slice A 2 c, .agg #[.int .u32 0, .int .u8 0]] w fun e w' => e = .returned (.tuple #[.agg #[.int .u32 0, .int .u8 0], .int .i64 130]) ∧ Bl w w' :=
  ahead13 A c w hA ⟨0, 0⟩ ⟨0, 0⟩ 130 plainNames13.2.1.1 plainNames13.2.1.2

theorem aheadC13 (A : Option Addr) (c : Nat) (w : World) (hA : R cOp 0 w A L13) : Calls Try.prog 27 #[.slice A 2 c, .agg #[.int .u32 9, .int .u8 0]] w fun e w' => e = .returned (.tuple #[.agg #[.int .u32 0, .int .u8 0], .int .i64 130]) ∧ Bl w w' :=
  ahead13 A c w hA ⟨9, 0⟩ ⟨0, 0⟩ 130 plainNames13.2.2.1.1 plainNames13.2.2.1.2

theorem span13 (A : Option Addr) (c : Nat) (w : World) (hA : R cOp 0 w A L13) : Calls Try.prog 29 #[.slice A 2 c, .agg #[.int .u32 5, .int .u8 1]] w fun e w' => ∃ X Y x y, e = .returned (.tuple #[.slice X 2 x, .slice Y 1 y, .int .i64 0]) ∧ R cRun 0 w' X mk5.pl ∧ R cRun 0 w' Y mk2.pl ∧ Bl w w' := by
  have h := homeSpan A c L13 ⟨5, 1⟩ w (by decide) hA
  rw [plainNames13.2.2.2.1.1, plainNames13.2.2.2.1.2.1, plainNames13.2.2.2.1.2.2] at h
  exact h.mono fun e w' ⟨X, Y, x, y, he, _, _, _, _, hX, hY, hb⟩ => ⟨X, Y, x, y, he, hX.zero, hY.zero, hb⟩

theorem ofBad13 (A B : Option Addr) (c d : Nat) (w : World) (hA : R cOp 0 w A L13) (hB : R cRun 0 w B [⟨0, 0, 0⟩]) : Calls Try.prog 25 #[.slice A 2 c, .slice B 1 d] w fun e w' => e = .returned (.tuple #[.agg #[.int .u32 0, .int .u8 0], .int .i64 8]) ∧ Bl w w' := by
  have h := homeOf A B c d L13 [⟨0, 0, 0⟩] w (by decide) (by decide) hA hB
  rw [plainNames13.2.2.2.2.1, plainNames13.2.2.2.2.2] at h
  exact h

theorem sameP13 (l : List Run) {A B : Option Addr} {c d : Nat} {w : World} (hl : l.length ≤ maxLen) (hA : R cRun 0 w A l) (hB : R cRun 0 w B l) :
    Calls Try.prog 38 #[.slice A l.length c, .slice B l.length d] w fun e w' => e = .returned (.bool true) ∧ Bl w w' := by
  have h := placeSame A B c d l l w hl hl hA hB
  rw [show same l l = true by unfold same; simp] at h
  exact h

theorem sameP5 {A B : Option Addr} {c d : Nat} {w : World} (hA : R cRun 0 w A mk5.pl) (hB : R cRun 0 w B mk5.pl) :
    Calls Try.prog 38 #[.slice A 2 c, .slice B 2 d] w fun e w' => e = .returned (.bool true) ∧ Bl w w' := sameP13 mk5.pl (by decide) hA hB

theorem sameP2 {A B : Option Addr} {c d : Nat} {w : World} (hA : R cRun 0 w A mk2.pl) (hB : R cRun 0 w B mk2.pl) :
    Calls Try.prog 38 #[.slice A 1 c, .slice B 1 d] w fun e w' => e = .returned (.bool true) ∧ Bl w w' := sameP13 mk2.pl (by decide) hA hB

set_option maxRecDepth 100000 in
set_option maxHeartbeats 4000000 in
theorem homeNames13 (w : World) : Calls Try.prog 7 #[] w fun e w' => e = .returned (.bool true) ∧ Bl w w' := by
  have heq : ∀ V, (binOp .eql 36 (.agg #[.int .u32 5, .int .u8 1]) (.agg #[.int .u32 5, .int .u8 1])).run Try.prog V = .ok (.bool true) V := fun V => eqSelfId ⟨5, 1⟩ V
  go_enter Try.func7, Try.ntmps7
  go_wp2_with fail
  refine (lawTwo13 _).mono ?_
  rintro e w1 ⟨A1, rfl, hr1, hb1⟩
  go_wp2_with fail
  refine (aheadA13 _ _ _ hr1.zero).mono ?_
  rintro e w2 ⟨rfl, hb2⟩
  obtain ⟨V2, hV2⟩ : ∃ V2, V2 = w2.alloc (.cells #[Value.int IntKind.u32 5, Value.int IntKind.u8 1] 36) := ⟨_, rfl⟩
  have at2 : IdBox V2 w2.heap.size ⟨5, 1⟩ := by rw [hV2]; exact IdBox.new w2 ⟨5, 1⟩ _
  have hbV2 : Bl w V2 := by rw [hV2]; exact (hb1.trans hb2).alloc _
  go_wp2_with fail
  rw [← hV2]
  clear hV2 hr1
  refine (lawTwo13 _).mono ?_
  rintro e w3 ⟨A3, rfl, hr3, hb3⟩
  go_wp2_with fail
  refine (aheadB13 _ _ _ hr3.zero).mono ?_
  rintro e w4 ⟨rfl, hb4⟩
  have hV24 : Bl V2 w4 := hb3.trans hb4
  clear hr3
  go_wp2_with fail
  refine (lawTwo13 _).mono ?_
  rintro e w5 ⟨A5, rfl, hr5, hb5⟩
  go_wp2_with fail
  refine (aheadC13 _ _ _ hr5.zero).mono ?_
  rintro e w6 ⟨rfl, hb6⟩
  have hV26 : Bl V2 w6 := hV24.trans (((Bl.refl _).alloc _).trans (hb5.trans hb6))
  clear hr5
  go_wp2_with fail
  refine (lawTwo13 _).mono ?_
  rintro e w7 ⟨A7, rfl, hr7, hb7⟩
  go_wp2_with fail
  refine (span13 _ _ _ hr7.zero).mono ?_
  rintro e w8 ⟨X, Y, x, y, rfl, hX, hY, hb8⟩
  have hV28 : Bl V2 w8 := hV26.trans (((Bl.refl _).alloc _).trans (hb7.trans hb8))
  clear hr7
  go_wp2_with fail
  refine (lawTwo13 _).mono ?_
  rintro e w9 ⟨A9, rfl, hr9, hb9⟩
  have hrn := runs1 w9 ⟨0, 0, 0⟩ (by unfold Run.ok i64ok; decide)
  go_wp2_with fail
  refine (ofBad13 _ _ _ _ _ (hr9.zero.bl ((Bl.refl _).alloc _)) hrn).mono ?_
  rintro e w10 ⟨rfl, hb10⟩
  have hb810 : Bl w8 w10 := hb9.trans (((Bl.refl _).alloc _).trans hb10)
  clear hr9 hrn
  go_wp2_with fail
  refine (lawAlive13 _).mono ?_
  rintro e w11 ⟨rfl, hb11⟩
  have hb811 : Bl w8 w11 := hb810.trans (((Bl.refl _).alloc _).trans hb11)
  obtain ⟨x0, x1, -, -⟩ := at2.bl (hV28.trans hb811)
  go_wp2_with fail
  refine (lawTwo13 _).mono ?_
  rintro e w12 ⟨A12, rfl, hr12, hb12⟩
  clear x0 x1
  obtain ⟨b, off, rfl, _, hb⟩ := hr12.addr (by decide)
  obtain ⟨_, ho, S, sc, s1, s2, hS, c0, c1, c2, c3, c4⟩ := hr12.op (k := 1) (x := mk5) rfl
  have hSz := hS.zero
  clear c0 c1 c2 c4
  have hX12 := hX.bl (hb811.trans hb12)
  simp only [Nat.one_mul] at c3
  go_wp2_with fail
  refine (sameP5 hX12 hSz).mono ?_
  rintro e w13 ⟨rfl, hb13⟩
  clear c3 hSz hS hr12
  go_wp2_with fail
  refine (lawTwo13 _).mono ?_
  rintro e w14 ⟨A14, rfl, hr14, hb14⟩
  obtain ⟨b', off', rfl, _, hb'⟩ := hr14.addr (by decide)
  obtain ⟨_, ho', S', sc', s1', s2', hS', c0, c1, c2, c3, c4⟩ := hr14.op (k := 0) (x := mk2) rfl
  have hSz := hS'.zero
  have hb1214 := hb12.trans (hb13.trans hb14)
  have hY14 := hY.bl (hb811.trans hb1214)
  clear c0 c1 c2 c4
  simp only [Nat.zero_mul, Nat.add_zero] at c3
  go_wp2_with fail
  refine (sameP2 hY14 hSz).mono ?_
  rintro e w15 ⟨rfl, hb15⟩
  go_wp2_with fail
  go_ret
  exact ⟨rfl, hbV2.trans (hV28.trans (hb811.trans (hb1214.trans hb15)))⟩
end Go.Proofs.Ytkolimhkfiebeaa
