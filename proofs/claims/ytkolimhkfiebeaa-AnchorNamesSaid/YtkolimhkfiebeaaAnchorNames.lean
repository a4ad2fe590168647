/-
  The walk of AnchorNames.
-/
import Derived.Test.YtkolimhkfiebeaaAncAlive
namespace Go.Proofs.Ytkolimhkfiebeaa
open Go.RowKit

theorem makeB17 (A : Option Addr) (c : Nat) (w : World) (hA : R cOp 0 w A L17) : Calls Try.prog 55 #[.slice A 2 c, .agg #[.int .u32 0, .int .u8 0], .int .i64 2] w fun e w' => ∃ P pc, e = .returned (.tuple #[.slice P 0 pc, .int .i64 2]) ∧ Bl w w' := by
  have h := anchorMake A c L17 ⟨0, 0⟩ 2 w (by decide) hA
  rw [plainA17.2.1.1, plainA17.2.1.2] at h
  exact h.mono fun e w' ⟨P, pc, he, _, _, _, hb⟩ => ⟨P, pc, he, hb⟩

theorem makeC17 (A : Option Addr) (c : Nat) (w : World) (hA : R cOp 0 w A L17) : Calls Try.prog 55 #[.slice A 2 c, .agg #[.int .u32 2, .int .u8 0], .int .i64 0] w fun e w' => ∃ P pc, e = .returned (.tuple #[.slice P 0 pc, .int .i64 130]) ∧ Bl w w' := by
  have h := anchorMake A c L17 ⟨2, 0⟩ 0 w (by decide) hA
  rw [plainA17.2.2.1, plainA17.2.2.2] at h
  exact h.mono fun e w' ⟨P, pc, he, _, _, _, hb⟩ => ⟨P, pc, he, hb⟩

theorem findBad17 (A : Option Addr) (c : Nat) (w : World) (hA : R cOp 0 w A L17) : Calls Try.prog 57 #[.slice A 2 c, .slice none 0 0] w fun e w' => e = .returned (.tuple #[.agg #[.int .u32 0, .int .u8 0], .int .i64 0, .int .i64 8]) ∧ Bl w w' := by
  have h := anchorFind A none c 0 L17 [] w (by decide) (by decide) hA R.nil
  rw [plainF17.2.2.2.2.1, plainF17.2.2.2.2.2.1, plainF17.2.2.2.2.2.2, okOr_false] at h
  exact h

/-- What the chapter's inserts are, in brief: the first alone, and where the second stands. -/
theorem twoQ17 (w : World) : Calls Try.prog 56 #[] w fun e w' => ∃ g S sc, e = .returned (.slice (some ⟨g, 0, none⟩) 2 2) ∧ Hid (R cOp 0 w' (some ⟨g, 0, none⟩) [ins1] ∧ R cRun 0 w' S ins2.pl) ∧ w'.cell? ⟨g, 8, none⟩ = some (.slice S 1 sc) ∧ Hid (Bl w w') := by
  refine (lawTwo17 w).mono ?_
  rintro e w8 ⟨g8, rfl, hr8, -, hb8⟩
  obtain ⟨-, -, S, sc, -, -, hS, -, -, -, d8, -⟩ := hr8.op (k := 1) (x := ins2) rfl
  simp only [Nat.one_mul, Nat.zero_add] at d8
  have h := hr8.zero.sub 0 1
  rw [List.drop_zero, Option.map_some] at h
  simp only [Addr.add, Nat.zero_mul, Nat.add_zero] at h
  exact ⟨g8, S, sc, rfl, hide ⟨h, hS.zero⟩, d8, hide hb8⟩

set_option maxRecDepth 100000 in
set_option maxHeartbeats 4000000 in
theorem anchorNames17 (w : World) : Calls Try.prog 10 #[] w fun e w' => e = .returned (.bool true) ∧ Bl w w' := by
  go_enter Try.func10, Try.ntmps10
  go_wp2_with fail
  refine (lawTwo17 _).mono ?_
  rintro e w1 ⟨g1, rfl, hr1, -, hb1⟩
  go_wp2_with fail
  refine (makeB17 _ _ _ hr1.zero).mono ?_
  rintro e w2 ⟨P2, p2, rfl, hb2⟩
  have hb02 := hb1.trans hb2
  clear hr1
  go_wp2_with fail
  refine (lawTwo17 _).mono ?_
  rintro e w3 ⟨g3, rfl, hr3, -, hb3⟩
  go_wp2_with fail
  refine (findBad17 _ _ _ hr3.zero).mono ?_
  rintro e w4 ⟨rfl, hb4⟩
  have hb04 := hb02.trans (hb3.trans hb4)
  clear hr3
  go_wp2_with fail
  refine (lawTwo17 _).mono ?_
  rintro e w5 ⟨g5, rfl, hr5, -, hb5⟩
  go_wp2_with fail
  refine (makeC17 _ _ _ hr5.zero).mono ?_
  rintro e w6 ⟨P6, p6, rfl, hb6⟩
  have hb06 : Bl w w6 := hb04.trans (((Bl.refl _).alloc _).trans (hb5.trans hb6))
  clear hr5
  go_wp2_with fail
  replace hb06 := hide hb06
  clear hb1 hb2 hb02 hb3 hb4 hb04 hb5 hb6
  refine wp_region_any (by kernel_rfl) ?_
  try (change wpAny _ _ _ _ _ _ _ (World.drew _))
  refine wpAny_ready (rs := [0]) (by kernel_rfl) (by simp) ?_
  refine AllReady.cons rfl (fun K hK => ?_) AllReady.nil
  go_simp
  go_wp2_with (go_at_call 58; refine (lawAlive17 _).mono ?_; rintro e w7 ⟨rfl, hb7⟩; replace hb7 := hide (hb06.out.drew.trans hb7))
  try (refine hK _ _ ?_)
  try clear hK K
  refine wpAny_take (i := 1) (v := ?_) rfl (by kernel_rfl) (by kernel_rfl) (by kernel_rfl) (fun _ _ _ h => h) (Or.inl ⟨by kernel_rfl, by intro w; go_simp; try with_reducible rfl⟩) ?_
  refine wpAny_ready (rs := [2]) (by kernel_rfl) (by simp) ?_
  refine AllReady.cons rfl (fun K hK => ?_) AllReady.nil
  go_simp
  go_wp2_with (go_at_call 56; refine (twoQ17 _).mono ?_; rintro e w8 ⟨g8, S8, sc8, rfl, hq8, d8, hb8⟩)
  try (refine hK _ _ ?_)
  try clear hK K
  refine wpAny_take (i := 3) (v := ?_) rfl (by kernel_rfl) (by kernel_rfl) (by kernel_rfl) (fun _ _ _ h => h) (Or.inl ⟨by kernel_rfl, by intro w; go_simp; try with_reducible rfl⟩) ?_
  refine wpAny_ready (rs := [4]) (by kernel_rfl) (by simp) ?_
  refine AllReady.cons rfl (fun K hK => ?_) AllReady.nil
  go_simp
  go_wp2_with (go_at_call 56; refine (twoQ17 _).mono ?_; rintro e w9 ⟨g9, S9, sc9, rfl, hq9, d9, hb9⟩)
  try (refine hK _ _ ?_)
  try clear hK K
  refine wpAny_take (i := 5) (v := ?_) rfl (by kernel_rfl) (by kernel_rfl) (by kernel_rfl) (fun _ _ _ h => h) (Or.inl ⟨by kernel_rfl, by intro w; go_simp; try with_reducible rfl⟩) ?_
  refine wpAny_take (i := 6) (v := ?_) rfl (by kernel_rfl) (by kernel_rfl) (by kernel_rfl) (fun _ _ _ h => h) (Or.inl ⟨by kernel_rfl, by intro w; go_simp; try with_reducible rfl⟩) ?_

  refine wpAny_ready (rs := [7]) (by kernel_rfl) (by simp) ?_
  refine AllReady.cons rfl (fun K hK => ?_) AllReady.nil
  go_simp
  try (refine hK _ _ ?_)
  try clear hK K
  refine wpAny_ready (rs := [8]) (by kernel_rfl) (by simp) ?_
  refine AllReady.cons rfl (fun K hK => ?_) AllReady.nil
  go_simp
  go_wp2_with (go_at_call 59; refine (foundD17 _ _ _ _ _ (hq8.out.1.bl hb9.out) hq9.out.2).mono ?_; rintro e w10 ⟨rfl, hb10⟩; replace hb10 := hide (hb7.out.trans (hb8.out.trans (hb9.out.trans hb10))); clear d8 d9 hq8 hq9 hb7 hb8 hb9)
  try (refine hK _ _ ?_)
  try clear hK K
  refine wpAny_take (i := 9) (v := ?_) rfl (by kernel_rfl) (by kernel_rfl) (by kernel_rfl) (fun _ _ _ h => h) (Or.inl ⟨by kernel_rfl, by intro w; go_simp; try with_reducible rfl⟩) ?_
  refine wpAny_take (i := 10) (v := ?_) rfl (by kernel_rfl) (by kernel_rfl) (by kernel_rfl) (fun _ _ _ h => h) (Or.inl ⟨by kernel_rfl, by intro w; go_simp; try with_reducible rfl⟩) ?_
  refine wpAny_take (i := 11) (v := ?_) rfl (by kernel_rfl) (by kernel_rfl) (by kernel_rfl) (fun _ _ _ h => h) (Or.inl ⟨by kernel_rfl, by intro w; go_simp; try with_reducible rfl⟩) ?_
  refine wpAny_take (i := 12) (v := ?_) rfl (by kernel_rfl) (by kernel_rfl) (by kernel_rfl) (fun _ _ _ h => h) (Or.inl ⟨by kernel_rfl, by intro w; go_simp; try with_reducible rfl⟩) ?_
  refine wpAny_take (i := 13) (v := ?_) rfl (by kernel_rfl) (by kernel_rfl) (by kernel_rfl) (fun _ _ _ h => h) (Or.inl ⟨by kernel_rfl, by intro w; go_simp; try with_reducible rfl⟩) ?_
  refine wpAny_take (i := 14) (v := ?_) rfl (by kernel_rfl) (by kernel_rfl) (by kernel_rfl) (fun _ _ _ h => h) (Or.inl ⟨by kernel_rfl, by intro w; go_simp; try with_reducible rfl⟩) ?_
  refine wpAny_take (i := 15) (v := ?_) rfl (by kernel_rfl) (by kernel_rfl) (by kernel_rfl) (fun _ _ _ h => h) (Or.inl ⟨by kernel_rfl, by intro w; go_simp; try with_reducible rfl⟩) ?_
  refine wpAny_take (i := 16) (v := ?_) rfl (by kernel_rfl) (by kernel_rfl) (by kernel_rfl) (fun _ _ _ h => h) (Or.inl ⟨by kernel_rfl, by intro w; go_simp; try with_reducible rfl⟩) ?_
  refine wpAny_take (i := 17) (v := ?_) rfl (by kernel_rfl) (by kernel_rfl) (by kernel_rfl) (fun _ _ _ h => h) (Or.inl ⟨by kernel_rfl, by intro w; go_simp; try with_reducible rfl⟩) ?_
  refine wpAny_take (i := 18) (v := ?_) rfl (by kernel_rfl) (by kernel_rfl) (by kernel_rfl) (fun _ _ _ h => h) (Or.inl ⟨by kernel_rfl, by intro w; go_simp; try with_reducible rfl⟩) ?_
  refine wpAny_take (i := 19) (v := ?_) rfl (by kernel_rfl) (by kernel_rfl) (by kernel_rfl) (fun _ _ _ h => h) (Or.inl ⟨by kernel_rfl, by intro w; go_simp; try with_reducible rfl⟩) ?_
  refine wpAny_take (i := 20) (v := ?_) rfl (by kernel_rfl) (by kernel_rfl) (by kernel_rfl) (fun _ _ _ h => h) (Or.inl ⟨by kernel_rfl, by intro w; go_simp; try with_reducible rfl⟩) ?_
  refine wpAny_take (i := 21) (v := ?_) rfl (by kernel_rfl) (by kernel_rfl) (by kernel_rfl) (fun _ _ _ h => h) (Or.inl ⟨by kernel_rfl, by intro w; go_simp; try with_reducible rfl⟩) ?_
  refine wpAny_take (i := 22) (v := ?_) rfl (by kernel_rfl) (by kernel_rfl) (by kernel_rfl) (fun _ _ _ h => h) (Or.inl ⟨by kernel_rfl, by intro w; go_simp; try with_reducible rfl⟩) ?_
  refine wpAny_take (i := 23) (v := ?_) rfl (by kernel_rfl) (by kernel_rfl) (by kernel_rfl) (fun _ _ _ h => h) (Or.inl ⟨by kernel_rfl, by intro w; go_simp; try with_reducible rfl⟩) ?_
  refine wpAny_take (i := 24) (v := ?_) rfl (by kernel_rfl) (by kernel_rfl) (by kernel_rfl) (fun _ _ _ h => h) (Or.inl ⟨by kernel_rfl, by intro w; go_simp; try with_reducible rfl⟩) ?_
  refine wpAny_take (i := 25) (v := ?_) rfl (by kernel_rfl) (by kernel_rfl) (by kernel_rfl) (fun _ _ _ h => h) (Or.inl ⟨by kernel_rfl, by intro w; go_simp; try with_reducible rfl⟩) ?_
  refine wpAny_take (i := 26) (v := ?_) rfl (by kernel_rfl) (by kernel_rfl) (by kernel_rfl) (fun _ _ _ h => h) (Or.inl ⟨by kernel_rfl, by intro w; go_simp; try with_reducible rfl⟩) ?_
  refine wpAny_done (by kernel_rfl) ?_ _
  go_wp2_with fail
  go_ret
  exact ⟨by kernel_rfl, hb10.out⟩
end Go.Proofs.Ytkolimhkfiebeaa
