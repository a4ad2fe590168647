/-
  The walk of the law ShelfNames.
-/
import Derived.Test.YtegmddgbdjlidaaDrop
namespace Go.Proofs.Ytegmddgbdjlidaa
open Go.RowKit

/-- The shelf that the law fills. -/
def fullE (i : Nat) : Entry := ⟨⟨1 + (i : Int), 0⟩, false, false, 0, false, [], []⟩
def fullL (n : Nat) : List Entry := (List.range n).map fullE
theorem fullL_succ (n : Nat) : fullL (n + 1) = fullL n ++ [fullE n] := by unfold fullL; rw [List.range_succ, List.map_append]; rfl
theorem fullL_len (n : Nat) : (fullL n).length = n := by unfold fullL; simp
theorem fullL_zero : fullL 0 = [] := rfl
theorem full_put : putN (fullL 65) sevenE = 9 ∧ putL (fullL 65) sevenE = [] := by
  constructor <;> decide +kernel
def badE : Entry := ⟨⟨0, 0⟩, true, false, 0, true, [], []⟩
def knownE : Entry := ⟨⟨0, 0⟩, false, false, 0, true, [], []⟩
theorem drop_a : dropN [sevenE, threeE] ⟨0, 0⟩ = 0 ∧ dropL [sevenE, threeE] ⟨0, 0⟩ = [threeE] := by decide
theorem drop_b : dropN [sevenE, threeE] ⟨9, 0⟩ = 190 ∧ dropL [sevenE, threeE] ⟨9, 0⟩ = [] := by decide
theorem put_a : putN [sevenE, threeE] badE = 8 ∧ putL [sevenE, threeE] badE = [] := by decide
theorem put_b : putN [sevenE, threeE] knownE = 0 ∧ putL [sevenE, threeE] knownE = [knownE, threeE] := by decide
theorem bad_ok : badE.ok := by unfold Entry.ok Id.ok i64ok; decide
theorem known_ok : knownE.ok := by unfold Entry.ok Id.ok i64ok; decide
theorem bad_held (w : World) : Held w badE none 0 none 0 := ⟨Nat.le_refl _, Nat.zero_le _, Nat.le_refl _, Nat.zero_le _, R.nil, R.nil⟩
theorem known_held (w : World) : Held w knownE none 0 none 0 := ⟨Nat.le_refl _, Nat.zero_le _, Nat.le_refl _, Nat.zero_le _, R.nil, R.nil⟩
theorem full_ok (i : Nat) (h : i < 65) : (fullE i).ok := by
  refine ⟨⟨?_, ?_, ?_, ?_⟩, ?_, ?_⟩ <;> simp [fullE] <;> omega
theorem put_full (l : List Entry) (hN : putN l sevenE = 9) (hL : putL l sevenE = []) (hlen : l.length = 65) (A : Option Addr) (c : Nat) (W : World) (hA : R cEntry 0 W A l) :
    Calls Try.prog 40 #[.slice A 65 c, .agg #[.int .u32 sevenE.id.t, .int .u8 sevenE.id.r, .bool sevenE.ready, .bool sevenE.pin, .int .i64 sevenE.used, .bool sevenE.known, .slice none sevenE.snap.length 0, .slice none sevenE.got.length 0]] W (New2 cEntry [] 9 W) := by
  have := shelfPut A c l sevenE none none 0 0 W (by omega) hA seven_ok (seven_held W)
  rw [hN, hL, hlen] at this
  exact this
theorem full_rd (w : World) (S : Nat → Prop) (k : Nat) (h : k < 65) : cEntry.rd w S (fullE k) [Value.int IntKind.u32 (1 + (k : Int)), Value.int IntKind.u8 0, Value.bool false, Value.bool false, Value.int IntKind.i64 0, Value.bool false, Value.slice none 0 0, Value.slice none 0 0] := ⟨full_ok k h, none, 0, none, 0, Nat.le_refl _, Nat.zero_le _, Nat.le_refl _, Nat.zero_le _, rfl, RS.nil, RS.nil⟩
attribute [local irreducible] fullL fullE

set_option maxRecDepth 100000 in
set_option maxHeartbeats 2000000 in
theorem shelfNames19 (w : World) : Calls Try.prog 9 #[] w fun e w' => e = .returned (.bool true) ∧ Bl w w' := by
  obtain ⟨i0, hi, hz0, hz1, hz2⟩ := info_parts Try.infoEntry
  have hda := fun A c W h => shelfDrop A c [sevenE, threeE] ⟨0, 0⟩ W (by decide) (by unfold Id.ok; decide) h
  rw [drop_a.1, drop_a.2] at hda
  have hdb := fun A c W h => shelfDrop A c [sevenE, threeE] ⟨9, 0⟩ W (by decide) (by unfold Id.ok; decide) h
  rw [drop_b.1, drop_b.2] at hdb
  have hpa := fun A c W h => shelfPut A c [sevenE, threeE] badE none none 0 0 W (by decide) h bad_ok (bad_held W)
  rw [put_a.1, put_a.2] at hpa
  have hpb := fun A c W h => shelfPut A c [sevenE, threeE] knownE none none 0 0 W (by decide) h known_ok (known_held W)
  rw [put_b.1, put_b.2] at hpb
  replace hda := hide hda
  replace hdb := hide hdb
  replace hpa := hide hpa
  replace hpb := hide hpb
  go_enter Try.func9, Try.ntmps9
  go_wp2_with fail
  refine (both19 _).mono ?_
  rintro e w1 ⟨A, c, rfl, k1, k2, hr, hb1⟩
  have hA := hr.zero
  go_wp2_with fail
  refine (hda.out A c _ hA).mono ?_
  rintro e w2 ⟨A2, c2, rfl, l1, l2, hr2, hb2⟩
  go_wp2_with fail
  refine (hdb.out A c _ (hA.bl hb2)).mono ?_
  rintro e w3 ⟨A3, c3, rfl, -, -, -, hb3⟩
  have hb13 := hb2.trans hb3
  go_wp2_with fail
  refine (hpa.out A c _ (hA.bl hb13)).mono ?_
  rintro e w4 ⟨A4, c4, rfl, -, -, -, hb4⟩
  have hb14 := hb13.trans hb4
  go_wp2_with fail
  refine (hpb.out A c _ (hA.bl hb14)).mono ?_
  rintro e w5 ⟨A5, c5, rfl, -, -, -, hb5⟩
  have hb15 := hb14.trans hb5
  have hb25 := (hb3.trans hb4).trans hb5
  go_upto_region 8 with fail
  go_loopw [11, 12] (fun v i wr => Bl w5 wr ∧ ∃ k : Nat, k ≤ 65 ∧ i = .int .u32 k ∧ Own cEntry 31 w5.heap.size wr v (fullL k)) (fun _ i _ => 65 - (intOf i).toNat)
  case atStart => exact ⟨Bl.refl _, 0, Nat.zero_le _, rfl, by rw [fullL_zero]; exact Own.nil⟩
  case round =>
    obtain ⟨hbl, k, hk, rfl, hown⟩ := hrel
    have hsz := hbl.size
    have hfl := fullL_len k
    by_cases hlt : k < 65
    · have hki : (k : Int) < 65 := by omega
      have hsrc := hown.src (t := 31) (x := fullE k) (cs := [Value.int IntKind.u32 (1 + (k : Int)), Value.int IntKind.u8 0, Value.bool false, Value.bool false, Value.int IntKind.i64 0, Value.bool false, Value.slice none 0 0, Value.slice none 0 0]) (Bl.refl wr) hsz (full_rd _ _ k hlt)
      have hown1 := hown.bl ((Bl.refl wr).alloc (.cells #[Value.int IntKind.u32 (1 + (k : Int)), Value.int IntKind.u8 0, Value.bool false, Value.bool false, Value.int IntKind.i64 0, Value.bool false, Value.slice none 0 0, Value.slice none 0 0] 31))
      have hsucc := hide (fullL_succ k)
      generalize fullL k = F at *
      generalize fullE k = fe at *
      clear hda hdb hpa hpb hr hA hr2 hb1 hb2 hb3 hb4 hb5 hb13 hb14 hb15 hb25
      go_wp2_with (at_builtin; refine Hid.out ?_)
      refine hide ?_
      · refine wpList_append_any2 (C := cEntry) (xs := F) (ys := [fe]) rfl (.tmp 47) (.tmp 52) _ rfl 31 i0 _ 80 Try.underlying22 hi hz0 hz1 hz2 rfl u11 w5.heap.size rfl hown1 (some ⟨wr.heap.size, 0, none⟩) 1 1 rfl rfl hsrc ?c1 ?c2 ?c3 ?_
        case c1 => simp [maxLen, hfl]; omega
        case c2 => simp [hfl]; omega
        case c3 => simp; omega
        intro v2 w2' hown2 hg2 _
        have hbl2 : Bl w5 w2' := (hbl.alloc _).app hown1 (Nat.le_refl _) hg2
        clear hown1 hown hsrc hg2
        go_wp2_with fail
        go_roundw
        case rel => exact ⟨hbl2, k + 1, by omega, by go_num, by rw [hsucc.out]; exact hown2⟩
        case measure => simp [intOf]; omega
    · obtain rfl : k = 65 := by omega
      have hk65 : ¬ (65 : Int) < 65 := by omega
      have hw := hb1.trans ((hb2.trans (hb3.trans (hb4.trans hb5))).trans hbl)
      have hA6 := hA.bl ((hb2.trans hb25).trans hbl)
      have hX6 := hr2.zero.bl (hb25.trans hbl)
      obtain ⟨A6, c6, rfl, hr6, n1, n2⟩ := hown.reads
      have hF6 := hr6.zero
      rw [hfl] at n1
      clear hda hdb hpa hpb hown hr hA hr2 hr6 hb1 hb2 hb3 hb4 hb5 hb13 hb14 hb15 hb25 hbl
      go_wp2_with fail
      refine (zero19 _).mono ?_
      rintro e w7 ⟨rfl, hb7⟩
      go_wp2_with fail
      refine (put_full (fullL 65) full_put.1 full_put.2 (fullL_len 65) A6 c6 _ (hF6.bl hb7)).mono ?_
      rintro e w8 ⟨A8, c8, rfl, -, -, -, hb8⟩
      have hb78 := hb7.trans hb8
      go_wp2_with fail
      refine (alive19 _).mono ?_
      rintro e w9 ⟨rfl, hb9⟩
      have hb79 := hb78.trans hb9
      go_wp2_with fail
      refine (three19 _).mono ?_
      rintro e w10 ⟨rfl, hb10⟩
      have hb710 := hb79.trans hb10
      go_wp2_with fail
      have hr3 : R cEntry 0 (w10.alloc (.cells #[Value.int IntKind.u32 threeE.id.t, Value.int IntKind.u8 threeE.id.r, Value.bool threeE.ready, Value.bool threeE.pin, Value.int IntKind.i64 threeE.used, Value.bool threeE.known, Value.slice none threeE.snap.length 0, Value.slice none threeE.got.length 0] 31)) (some ⟨w10.heap.size, 0, none⟩) [threeE] := R.multi (cs := entryCells threeE none 0 none 0) (RdL.one1 (three_rd _ _)) (Nat.zero_le _)
      have hb711 := hb710.alloc (.cells #[Value.int IntKind.u32 threeE.id.t, Value.int IntKind.u8 threeE.id.r, Value.bool threeE.ready, Value.bool threeE.pin, Value.int IntKind.i64 threeE.used, Value.bool threeE.known, Value.slice none threeE.snap.length 0, Value.slice none threeE.got.length 0] 31)
      refine (refSame19 A2 _ c2 1 [threeE] [threeE] _ (by decide) (by decide) (hX6.bl hb711) hr3).mono ?_
      rw [same_self]
      rintro e w12 ⟨rfl, hb12⟩
      go_wp2_with fail
      go_ret
      exact ⟨rfl, hw.trans (hb711.trans hb12)⟩
end Go.Proofs.Ytegmddgbdjlidaa
