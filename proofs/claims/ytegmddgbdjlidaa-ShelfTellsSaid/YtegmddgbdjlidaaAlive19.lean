/-
  The walks of the law's three, zero, both, goes and alive.
-/
import Derived.Test.YtegmddgbdjlidaaVictim
import Derived.Test.YtegmddgbdjlidaaIs19
namespace Go.Proofs.Ytegmddgbdjlidaa
open Go.RowKit

/-- A new block with some elements' cells, read as a list. -/
theorem R.multi {α : Type} {C : Codec α} {lo : Nat} {w : World} {xs : List α} {cs : List Value} {t : TypeId} (h : RdL C w (Fresh lo w) xs cs) (hlo : lo ≤ w.heap.size) :
    R C lo (w.alloc (.cells cs.toArray t)) (some ⟨w.heap.size, 0, none⟩) xs := by
  refine ⟨cs, RdL.keep h (fun b hb => Below.heap_alloc w _ b hb.2) (fun b hb => ⟨hb.1, by have := hb.2; rw [World.size_alloc]; omega⟩), fun _ => ⟨w.heap.size, 0, rfl, ⟨hlo, by rw [World.size_alloc]; omega⟩, fun j u hu => ⟨?_, ?_⟩⟩⟩
  · rw [Nat.zero_add, cell_of_row _ w.heap.size j cs.toArray t (0, 0) (heap_alloc_new w _)]
    simpa using hu
  · rw [Nat.zero_add]
    exact frozen_new w _ t j
def threeE : Entry := ⟨⟨3, 0⟩, false, false, 5, false, [], []⟩
def sevenE : Entry := ⟨⟨0, 0⟩, false, false, 7, false, [], []⟩
theorem three_ok : threeE.ok := by unfold Entry.ok Id.ok i64ok; decide
theorem seven_ok : sevenE.ok := by unfold Entry.ok Id.ok i64ok; decide
theorem three_rd (w : World) (S : Nat → Prop) : cEntry.rd w S threeE (entryCells threeE none 0 none 0) := ⟨three_ok, none, 0, none, 0, Nat.le_refl _, Nat.zero_le _, Nat.le_refl _, Nat.zero_le _, rfl, RS.nil, RS.nil⟩
theorem seven_rd (w : World) (S : Nat → Prop) : cEntry.rd w S sevenE (entryCells sevenE none 0 none 0) := ⟨seven_ok, none, 0, none, 0, Nat.le_refl _, Nat.zero_le _, Nat.le_refl _, Nat.zero_le _, rfl, RS.nil, RS.nil⟩
theorem three_held (w : World) : Held w threeE none 0 none 0 := ⟨Nat.le_refl _, Nat.zero_le _, Nat.le_refl _, Nat.zero_le _, R.nil, R.nil⟩
theorem seven_held (w : World) : Held w sevenE none 0 none 0 := ⟨Nat.le_refl _, Nat.zero_le _, Nat.le_refl _, Nat.zero_le _, R.nil, R.nil⟩
def EntC (x : Entry) (w : World) (e : Ending) (w' : World) : Prop := e = .returned (.agg #[.int .u32 x.id.t, .int .u8 x.id.r, .bool x.ready, .bool x.pin, .int .i64 x.used, .bool x.known, .slice none x.snap.length 0, .slice none x.got.length 0]) ∧ Bl w w'
set_option maxRecDepth 100000 in
theorem three19 (w : World) : Calls Try.prog 42 #[] w (EntC threeE w) := by
  go_enter Try.func42, Try.ntmps42
  go_wp2_with fail
  obtain ⟨x0, x1, x2, x3, x4, x5, x6, x7⟩ := (EntAt.new w threeE none 0 none 0 31).cells
  have hb : Bl w (w.alloc (.cells #[Value.int IntKind.u32 threeE.id.t, Value.int IntKind.u8 threeE.id.r, Value.bool threeE.ready, Value.bool threeE.pin, Value.int IntKind.i64 threeE.used, Value.bool threeE.known, Value.slice none threeE.snap.length 0, Value.slice none threeE.got.length 0] 31)) := (Bl.refl _).alloc _
  simp only [threeE, List.length_nil] at x0 x1 x2 x3 x4 x5 x6 x7 hb
  refine bodyPost_ret (v := .agg #[.int .u32 threeE.id.t, .int .u8 threeE.id.r, .bool threeE.ready, .bool threeE.pin, .int .i64 threeE.used, .bool threeE.known, .slice none threeE.snap.length 0, .slice none threeE.got.length 0]) (by simp [results, Try.results42, go_sem, x0, x1, x2, x3, x4, x5, x6, x7, threeE]) rfl ?_
  exact ⟨rfl, hb⟩
set_option maxRecDepth 100000 in
theorem zero19 (w : World) : Calls Try.prog 41 #[] w (EntC sevenE w) := by
  go_enter Try.func41, Try.ntmps41
  go_wp2_with fail
  obtain ⟨x0, x1, x2, x3, x4, x5, x6, x7⟩ := (EntAt.new w sevenE none 0 none 0 31).cells
  have hb : Bl w (w.alloc (.cells #[Value.int IntKind.u32 sevenE.id.t, Value.int IntKind.u8 sevenE.id.r, Value.bool sevenE.ready, Value.bool sevenE.pin, Value.int IntKind.i64 sevenE.used, Value.bool sevenE.known, Value.slice none sevenE.snap.length 0, Value.slice none sevenE.got.length 0] 31)) := (Bl.refl _).alloc _
  simp only [sevenE, List.length_nil] at x0 x1 x2 x3 x4 x5 x6 x7 hb
  refine bodyPost_ret (v := .agg #[.int .u32 sevenE.id.t, .int .u8 sevenE.id.r, .bool sevenE.ready, .bool sevenE.pin, .int .i64 sevenE.used, .bool sevenE.known, .slice none sevenE.snap.length 0, .slice none sevenE.got.length 0]) (by simp [results, Try.results41, go_sem, x0, x1, x2, x3, x4, x5, x6, x7, sevenE]) rfl ?_
  exact ⟨rfl, hb⟩
theorem put_three : putN [] threeE = 0 ∧ putL [] threeE = [threeE] := by decide
theorem put_seven : putN [threeE] sevenE = 0 ∧ putL [threeE] sevenE = [sevenE, threeE] := by decide
/-- The chapter's shelf. -/
def BothP (w : World) (e : Ending) (w' : World) : Prop := ∃ A c, e = .returned (.tuple #[.slice A 2 c, .bool true]) ∧ 2 ≤ c ∧ c ≤ maxLen ∧ R cEntry w.heap.size w' A [sevenE, threeE] ∧ Bl w w'
set_option maxRecDepth 100000 in
set_option maxHeartbeats 1000000 in
theorem both19 (w : World) : Calls Try.prog 38 #[] w (BothP w) := by
  have hput1 := fun W => shelfPut none 0 [] threeE none none 0 0 W (by decide) R.nil three_ok (three_held W)
  rw [put_three.1, put_three.2] at hput1
  have hput2 := fun A c W h => shelfPut A c [threeE] sevenE none none 0 0 W (by decide) h seven_ok (seven_held W)
  rw [put_seven.1, put_seven.2] at hput2
  replace hput1 := hide hput1
  replace hput2 := hide hput2
  go_enter Try.func38, Try.ntmps38
  go_wp2_with fail
  refine (three19 _).mono ?_
  rintro e w1 ⟨rfl, hb1⟩
  go_wp2_with fail
  refine (hput1.out w1).mono ?_
  rintro e w2 ⟨A2, c2, rfl, k1, k2, hr2, hb2⟩
  have hb12 := hb1.trans hb2
  go_wp2_with fail
  refine (zero19 _).mono ?_
  rintro e w3 ⟨rfl, hb3⟩
  have hb13 := hb12.trans hb3
  go_wp2_with fail
  refine (hput2.out A2 c2 w3 ((hr2.zero).bl hb3)).mono ?_
  rintro e w4 ⟨A4, c4, rfl, k3, k4, hr4, hb4⟩
  go_wp2_with fail
  go_ret2
  exact ⟨A4, c4, rfl, k3, k4, hr4.more hb13.size, hb13.trans hb4⟩
set_option maxRecDepth 100000 in
set_option maxHeartbeats 1000000 in
theorem goes19 (A K : Option Addr) (c kc : Nat) (l : List Entry) (keep : List Id) (v : Option Entry) (hv : victimE l keep = v) (w : World) (hl : l.length ≤ 1099511627776) (hk : keep.length ≤ maxLen) (hA : R cEntry 0 w A l) (hK : R cId 0 w K keep) :
    Calls Try.prog 71 #[.slice A l.length c, .agg #[.int .u32 (vicId v).t, .int .u8 (vicId v).r], .bool v.isSome, .slice K keep.length kc] w fun e w' => e = .returned (.bool true) ∧ Bl w w' := by
  have hvic := fun W (hb : Bl w W) => shelfVictimC A K c kc l keep W hl hk (hA.bl hb) (hK.bl hb)
  rw [hv] at hvic
  replace hvic := hide hvic
  clear hv
  go_enter Try.func71, Try.ntmps71
  go_wp2_with fail
  have at0 := IdAt.new w (vicId v)
  have hb0 : Bl w (w.alloc (.cells #[Value.int IntKind.u32 (vicId v).t, Value.int IntKind.u8 (vicId v).r] 25)) := (Bl.refl _).alloc _
  refine (hvic.out _ hb0).mono ?_
  rintro e w1 ⟨rfl, hb1⟩
  have at1 := (at0.bl hb1).bl ((Bl.refl w1).alloc (.cells #[Value.int IntKind.u32 (vicId v).t, Value.int IntKind.u8 (vicId v).r] 25))
  obtain ⟨y0, y1, -, -⟩ := at1
  have at2 := IdAt.new w1 (vicId v)
  obtain ⟨z0, z1, -, -⟩ := at2
  have hb2 : Bl w (w1.alloc (.cells #[Value.int IntKind.u32 (vicId v).t, Value.int IntKind.u8 (vicId v).r] 25)) := (hb0.trans hb1).alloc _
  go_wp2_with fail
  go_ret
  exact ⟨rfl, hb2⟩
theorem alive_same : same [sevenE, threeE] [sevenE, threeE] = true := same_self _
theorem vic_a : victimE [sevenE, threeE] [] = some threeE := by decide
theorem vic_b : victimE [sevenE, threeE] [⟨3, 0⟩] = some sevenE := by decide
theorem vic_c : victimE [sevenE, threeE] [⟨3, 0⟩, ⟨0, 0⟩] = none := by decide
theorem keep_b (w : World) : R cId 0 (w.alloc (.cells #[Value.int IntKind.u32 3, Value.int IntKind.u8 0] 25)) (some ⟨w.heap.size, 0, none⟩) [⟨3, 0⟩] :=
  R.multi (cs := [Value.int IntKind.u32 3, Value.int IntKind.u8 0]) (RdL.one1 ⟨by unfold Id.ok; decide, rfl⟩) (Nat.zero_le _)
theorem keep_c (w : World) : R cId 0 (w.alloc (.cells #[Value.int IntKind.u32 3, Value.int IntKind.u8 0, Value.int IntKind.u32 0, Value.int IntKind.u8 0] 25)) (some ⟨w.heap.size, 0, none⟩) [⟨3, 0⟩, ⟨0, 0⟩] :=
  R.multi (cs := [Value.int IntKind.u32 3, Value.int IntKind.u8 0, Value.int IntKind.u32 0, Value.int IntKind.u8 0]) ⟨[_, _], [_, _], rfl, ⟨by unfold Id.ok; decide, rfl⟩, RdL.one1 ⟨by unfold Id.ok; decide, rfl⟩⟩ (Nat.zero_le _)
theorem two_r (w : World) : R cEntry 0 (w.alloc (.cells #[Value.int IntKind.u32 0, Value.int IntKind.u8 0, Value.bool false, Value.bool false, Value.int IntKind.i64 7, Value.bool false, Value.slice none 0 0, Value.slice none 0 0, Value.int IntKind.u32 3, Value.int IntKind.u8 0, Value.bool false, Value.bool false, Value.int IntKind.i64 5, Value.bool false, Value.slice none 0 0, Value.slice none 0 0] 31)) (some ⟨w.heap.size, 0, none⟩) [sevenE, threeE] :=
  R.multi (cs := entryCells sevenE none 0 none 0 ++ entryCells threeE none 0 none 0) ⟨_, _, rfl, seven_rd _ _, RdL.one1 (three_rd _ _)⟩ (Nat.zero_le _)
set_option maxRecDepth 100000 in
set_option maxHeartbeats 1000000 in
theorem alive19 (w : World) : Calls Try.prog 36 #[] w fun e w' => e = .returned (.bool true) ∧ Bl w w' := by
  go_enter Try.func36, Try.ntmps36
  go_wp2_with fail
  refine (both19 _).mono ?_
  rintro e w1 ⟨A, c, rfl, k1, k2, hr, hb1⟩
  have hA := hr.zero
  go_wp2_with fail
  refine (zero19 _).mono ?_
  rintro e w2 ⟨rfl, hb2⟩
  go_wp2_with fail
  refine (three19 _).mono ?_
  rintro e w3 ⟨rfl, hb3⟩
  have hb13 := hb2.trans hb3
  go_wp2_with fail
  have hbm := hb13.alloc (.cells #[Value.int IntKind.u32 0, Value.int IntKind.u8 0, Value.bool false, Value.bool false, Value.int IntKind.i64 7, Value.bool false, Value.slice none 0 0, Value.slice none 0 0, Value.int IntKind.u32 3, Value.int IntKind.u8 0, Value.bool false, Value.bool false, Value.int IntKind.i64 5, Value.bool false, Value.slice none 0 0, Value.slice none 0 0] 31)
  refine (refSame19 A _ c 2 [sevenE, threeE] [sevenE, threeE] _ (by decide) (by decide) (hA.bl hbm) (two_r w3)).mono ?_
  rw [alive_same]
  rintro e w4 ⟨rfl, hb4⟩
  have hb14 := hbm.trans hb4
  go_wp2_with fail
  refine (goes19 A none c 0 [sevenE, threeE] [] _ vic_a _ (by decide) (by decide) (hA.bl hb14) R.nil).mono ?_
  rintro e w5 ⟨rfl, hb5⟩
  have hb15 := hb14.trans hb5
  go_wp2_with fail
  refine (goes19 A _ c 1 [sevenE, threeE] _ _ vic_b _ (by decide) (by decide) (hA.bl (hb15.alloc _)) (keep_b w5)).mono ?_
  rintro e w6 ⟨rfl, hb6⟩
  have hb16 := (hb15.alloc _).trans hb6
  go_wp2_with fail
  refine (goes19 A _ c 2 [sevenE, threeE] _ _ vic_c _ (by decide) (by decide) (hA.bl (hb16.alloc _)) (keep_c w6)).mono ?_
  rintro e w7 ⟨rfl, hb7⟩
  have hb17 := (hb16.alloc _).trans hb7
  go_wp2_with fail
  go_ret
  exact ⟨rfl, hb1.trans hb17⟩
end Go.Proofs.Ytegmddgbdjlidaa
