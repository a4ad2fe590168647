/-
  The walk of ShiftNames.
-/
import Derived.Test.YteoodmilcpmmpaaGreatShiftT
namespace Go.Proofs.YteoodmilcpmmpaaGreat
open Go.RowKit

set_option maxRecDepth 100000 in
theorem plainN20 : (turnN [] [rdyE 5] markO = 8 ∧ turnL [] [rdyE 5] markO = []) ∧ (turnN [] [] insO = 8 ∧ turnL [] [] insO = []) ∧ (turnN [markO] [rdyE 0] joinO = 0 ∧ turnL [markO] [rdyE 0] joinO = [zeroE]) ∧ (turnN [markO] [rdyE 0] markO = 0 ∧ turnL [markO] [rdyE 0] markO = [rdyE 0]) ∧ fitsB [markO] [rdyE 5] = true ∧ fitsB [] [rdyE 5] = false := by decide +kernel

theorem zeroE_one (w : World) : R cEntry 0 (w.alloc (.cells #[.int .u32 0, .int .u8 0, .bool false, .bool false, .int .i64 0, .bool false, .slice none 0 0, .slice none 0 0] 62)) (some ⟨w.heap.size, 0, none⟩) [zeroE] :=
  R.rows (C := cEntry) (lo := 0) (w := w) (t := 62) (RdL.one1 (x := zeroE) ⟨zeroE_ok, none, 0, none, 0, Nat.le_refl _, Nat.zero_le _, Nat.le_refl _, Nat.zero_le _, rfl, RS.nil, RS.nil⟩) (Nat.zero_le _)

set_option maxRecDepth 100000 in
set_option maxHeartbeats 8000000 in
theorem shiftNames20 (w : World) : Calls Tryz.prog 5 #[] w fun e w' => e = .returned (.bool true) ∧ Bl w w' := by
  go_enter Tryz.func5, Tryz.ntmps5
  go_wp2_with fail
  refine (lawMark20 _).mono ?_
  rintro e w1 ⟨S1, c1, rfl, m1, m2, hS1, hb1⟩
  obtain ⟨V1, hV1⟩ : ∃ V1, V1 = w1.alloc (.cells #[Value.int IntKind.u8 markO.kind, Value.int IntKind.u32 markO.id.t, Value.int IntKind.u8 markO.id.r, Value.slice S1 markO.pl.length c1, Value.int IntKind.i64 markO.pt] 47) := ⟨_, rfl⟩
  have hl1 : R cOp 0 V1 (some ⟨w1.heap.size, 0, none⟩) [markO] := by rw [hV1]; exact rd_ops1 (w := w1) markO_ok m1 m2 hS1.zero 47
  have hb1V : Bl w1 V1 := by rw [hV1]; exact (Bl.refl _).alloc _
  have hb01 := hb1.trans hb1V
  clear hS1 hb1 hb1V
  go_wp2_with fail
  rw [← hV1]
  refine (lawReady20 5 _ (by decide) (by decide)).mono ?_
  rintro e w2 ⟨rfl, hb2⟩
  clear hV1
  have hr2 := rdy_one 5 (by decide) (by decide) w2
  have hb2V : Bl V1 (w2.alloc (.cells #[.int .u32 5, .int .u8 0, .bool true, .bool false, .int .i64 0, .bool false, .slice none 0 0, .slice none 0 0] 62)) := hb2.alloc _
  go_wp2_with fail
  refine (lawMark20 _).mono ?_
  rintro e w3 ⟨S3, c3, rfl, m3, m4, hS3, hb3⟩
  have ht3 := hide (shiftTurn none _ S3 0 1 c3 [] [rdyE 5] markO w3 (by decide) (by decide) R.nil (hr2.bl hb3) ⟨markO_ok, m3, m4, hS3.zero⟩)
  rw [plainN20.1.1, plainN20.1.2] at ht3
  have hb13 := hb2V.trans hb3
  clear hr2 hb2 hb2V hb3 hS3
  go_wp2_with fail
  refine ht3.out.mono ?_
  rintro e w4 ⟨X4, x4, rfl, -, -, -, hb4⟩
  have hb14 := hb13.trans hb4
  clear ht3 hb13 hb4
  go_wp2_with fail
  refine (lawMark20 _).mono ?_
  rintro e w5 ⟨S5, c5, rfl, m5, m6, hS5, hb5⟩
  have hfd : ∀ V : World, (Instr.field 47 (.agg #[.int .u8 markO.kind, .int .u32 markO.id.t, .int .u8 markO.id.r, .slice S5 markO.pl.length c5, .int .i64 markO.pt]) 2).run Tryz.prog V = .ok (.slice S5 markO.pl.length c5) V := by
    intro V
    kernel_rfl
  have ht5 := hide (shiftTurn none none S5 0 0 c5 [] [] insO w5 (by decide) (by decide) R.nil R.nil ⟨insO_ok, m5, m6, hS5.zero⟩)
  rw [plainN20.2.1.1, plainN20.2.1.2] at ht5
  have hb15 := hb14.trans hb5
  clear hb14 hb5 hS5
  go_wp2_with fail
  refine ht5.out.mono ?_
  rintro e w6 ⟨X6, x6, rfl, -, -, -, hb6⟩
  have hb16 := hb15.trans hb6
  clear ht5 hb15 hb6 hfd
  go_wp2_with fail
  refine (lawAlive20 _).mono ?_
  rintro e w7 ⟨rfl, hb7⟩
  have hb17 := hb16.trans hb7
  clear hb16 hb7
  go_wp2_with fail
  refine (lawReady20 0 _ (by decide) (by decide)).mono ?_
  rintro e w8 ⟨rfl, hb8⟩
  have hr8 := rdy_one 0 (by decide) (by decide) w8
  have hb8V : Bl w7 (w8.alloc (.cells #[.int .u32 0, .int .u8 0, .bool true, .bool false, .int .i64 0, .bool false, .slice none 0 0, .slice none 0 0] 62)) := hb8.alloc _
  go_wp2_with fail
  refine (lawJoin20 _).mono ?_
  rintro e w9 ⟨S9, c9, rfl, m7, m8, hS9, hb9⟩
  have hz9 := zeroE_one w9
  have hb9V : Bl w9 (w9.alloc (.cells #[.int .u32 0, .int .u8 0, .bool false, .bool false, .int .i64 0, .bool false, .slice none 0 0, .slice none 0 0] 62)) := (Bl.refl _).alloc _
  have hb19 := hb17.trans (hb8V.trans (hb9.trans hb9V))
  have ht9 := hide (lawTurns20 _ _ S9 _ 1 1 c9 1 [markO] [rdyE 0] joinO [zeroE] _ (by decide) (by decide) (by decide) (hl1.bl hb19) (hr8.bl (hb9.trans hb9V)) ⟨joinO_ok, m7, m8, hS9.zero.bl hb9V⟩ hz9 plainN20.2.2.1)
  clear hr8 hb8 hb8V hb9 hb9V hb17 hS9 hz9
  go_wp2_with fail
  refine ht9.out.mono ?_
  rintro e w10 ⟨rfl, hb10⟩
  have hb110 := hb19.trans hb10
  clear ht9 hb19 hb10
  go_wp2_with fail
  refine (lawReady20 0 _ (by decide) (by decide)).mono ?_
  rintro e w11 ⟨rfl, hb11⟩
  have hr11 := rdy_one 0 (by decide) (by decide) w11
  have hb11V : Bl w10 (w11.alloc (.cells #[.int .u32 0, .int .u8 0, .bool true, .bool false, .int .i64 0, .bool false, .slice none 0 0, .slice none 0 0] 62)) := hb11.alloc _
  go_wp2_with fail
  refine (lawMark20 _).mono ?_
  rintro e w12 ⟨S12, c12, rfl, m9, m10, hS12, hb12⟩
  go_wp2_with fail
  refine (lawReady20 0 _ (by decide) (by decide)).mono ?_
  rintro e w13 ⟨rfl, hb13⟩
  have hr13 := rdy_one 0 (by decide) (by decide) w13
  have hb13V : Bl w12 (w13.alloc (.cells #[.int .u32 0, .int .u8 0, .bool true, .bool false, .int .i64 0, .bool false, .slice none 0 0, .slice none 0 0] 62)) := hb13.alloc _
  have hb113 := hb110.trans (hb11V.trans (hb12.trans hb13V))
  have ht13 := hide (lawTurns20 _ _ S12 _ 1 1 c12 1 [markO] [rdyE 0] markO [rdyE 0] _ (by decide) (by decide) (by decide) (hl1.bl hb113) (hr11.bl (hb12.trans hb13V)) ⟨markO_ok, m9, m10, hS12.zero.bl hb13V⟩ hr13 plainN20.2.2.2.1)
  clear hr11 hb11 hb11V hb12 hb13 hb13V hb110 hS12 hr13
  go_wp2_with fail
  refine ht13.out.mono ?_
  rintro e w14 ⟨rfl, hb14⟩
  have hb114 := hb113.trans hb14
  clear ht13 hb113 hb14
  go_wp2_with fail
  refine (lawReady20 5 _ (by decide) (by decide)).mono ?_
  rintro e w15 ⟨rfl, hb15⟩
  have hr15 := rdy_one 5 (by decide) (by decide) w15
  have hb15V : Bl w14 (w15.alloc (.cells #[.int .u32 5, .int .u8 0, .bool true, .bool false, .int .i64 0, .bool false, .slice none 0 0, .slice none 0 0] 62)) := hb15.alloc _
  have hb115 := hb114.trans hb15V
  have hc15 := hide (shiftCheck _ _ 1 1 [markO] [rdyE 5] _ (by decide) (by decide) (hl1.bl hb115) hr15)
  rw [plainN20.2.2.2.2.1, okOr_true] at hc15
  clear hr15 hb15 hb15V hb114
  go_wp2_with fail
  refine hc15.out.mono ?_
  rintro e w16 ⟨rfl, hb16⟩
  have hb116 := hb115.trans hb16
  clear hc15 hb115 hb16
  go_wp2_with fail
  refine (lawReady20 5 _ (by decide) (by decide)).mono ?_
  rintro e w17 ⟨rfl, hb17⟩
  have hr17 := rdy_one 5 (by decide) (by decide) w17
  have hb17V : Bl w16 (w17.alloc (.cells #[.int .u32 5, .int .u8 0, .bool true, .bool false, .int .i64 0, .bool false, .slice none 0 0, .slice none 0 0] 62)) := hb17.alloc _
  have hc17 := hide (shiftCheck none _ 0 1 [] [rdyE 5] _ (by decide) (by decide) R.nil hr17)
  rw [plainN20.2.2.2.2.2, okOr_false] at hc17
  have hb117 := hb01.trans (hb116.trans hb17V)
  clear hr17 hb17 hb17V hb116
  go_wp2_with fail
  refine hc17.out.mono ?_
  rintro e w18 ⟨rfl, hb18⟩
  go_wp2_with fail
  go_ret
  exact ⟨rfl, hb117.trans hb18⟩
end Go.Proofs.YteoodmilcpmmpaaGreat
