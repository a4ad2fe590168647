/-
  The walks of snap.Chunks, snap.Cut; of slices.Contains of bools.
-/
import Derived.Test.YtegmddgbdjlidaaEq
namespace Go.Proofs.Ytegmddgbdjlidaa
open Go.RowKit

theorem addr_add (b off n : Nat) : (⟨b, off, none⟩ : Addr).add n = ⟨b, off + n, none⟩ := by
  unfold Addr.add
  split
  · rename_i h; subst h; rfl
  · rfl
/-- A piece of a slice. -/
theorem R.sub {α : Type} {C : Codec α} {lo : Nat} {w : World} {A : Option Addr} {xs : List α} (h : R C lo w A xs) (k m : Nat) : R C lo w (A.map (fun x => x.add (k * C.size))) ((xs.drop k).take m) := by
  obtain ⟨cells, hr, hs⟩ := h
  by_cases hk : k < xs.length
  · have e : xs = xs.take k ++ ((xs.drop k).take m ++ (xs.drop k).drop m) := by rw [List.take_append_drop, List.take_append_drop]
    rw [e] at hr
    obtain ⟨a, b, rfl, ha, hb⟩ := hr.split
    obtain ⟨b1, b2, rfl, hb1, hb2⟩ := hb.split
    refine ⟨b1, hb1, fun hne => ?_⟩
    obtain ⟨bl, off, e', hS, hat⟩ := hs (by simp [hne])
    subst e'
    have hl := ha.length
    rw [List.length_take, Nat.min_eq_left (by omega)] at hl
    refine ⟨bl, off + k * C.size, by rw [Option.map_some, addr_add], hS, ?_⟩
    have := (hat.right (cs := a)).left
    rwa [hl] at this
  · rw [List.drop_eq_nil_of_le (by omega)]
    exact ⟨[], by simp [RdL], fun h => absurd rfl h⟩

theorem clockIds_length (l : List Times) : (clockIds l).length ≤ 1024 := by
  unfold clockIds
  cases h : clockMay l
  · simp
  · by_cases h2 : clockMany l ≤ 1024
    · have := clockAll_length l (clockFrom_all _ (show clockFrom (-1) l = true from h))
      simp [h2]; omega
    · simp [h2]
/-- snap.Chunks. -/
def chunksOf (c : List Times) : Int := ((clockIds c).length + 7 : Nat) / 8

def Two (n e : Int) (w : World) (en : Ending) (w' : World) : Prop := en = .returned (.tuple #[.int .i64 n, .int .i64 e]) ∧ Bl w w'

set_option maxHeartbeats 400000 in
theorem snapChunks (A : Option Addr) (c : Nat) (l : List Times) (w : World) (hl : l.length ≤ maxLen) (hA : R cTimes 0 w A l) :
    Calls Try.prog 34 #[.slice A l.length c] w (Two (chunksOf l) (clockIdsErr l) w) := by
  have hlen := clockIds_length l
  go_enter Try.func34, Try.ntmps34
  go_wp2_with (go_at_call 61; refine (clockIdsC A c l _ hl hA).mono ?_; rintro e w1 ⟨A1, c1, rfl, h1, h2, hr, hb⟩)
  go_ret2
  have e : ((clockIds l).length + 8 - 1 : Int) / 8 = chunksOf l := by unfold chunksOf; omega
  exact ⟨congrArg (fun n => Ending.returned (.tuple #[.int .i64 n, .int .i64 (clockIdsErr l)])) e, hb⟩

/-- snap.Cut. -/
def cutErr (c : List Times) (n : Int) : Int := if clockIdsErr c = 0 then (if n < 0 ∨ chunksOf c ≤ n then 2 else 0) else clockIdsErr c
def cutIds (c : List Times) (n : Int) : List Id := if cutErr c n = 0 then ((clockIds c).drop (n.toNat * 8)).take 8 else []

set_option maxHeartbeats 1000000 in
theorem snapCut (A : Option Addr) (c : Nat) (l : List Times) (n : Int) (w : World) (hn : i64ok n) (hl : l.length ≤ maxLen) (hA : R cTimes 0 w A l) :
    Calls Try.prog 26 #[.slice A l.length c, .int .i64 n] w (New2 cId (cutIds l n) (cutErr l n) w) := by
  have hlen := clockIds_length l
  obtain ⟨n0, n1⟩ := hn
  by_cases he : clockIdsErr l = 0
  · by_cases hbad : n < 0 ∨ chunksOf l ≤ n
    · have e1 : cutErr l n = 2 := by unfold cutErr; rw [if_pos he, if_pos hbad]
      have e2 : cutIds l n = [] := by unfold cutIds; rw [e1]; rfl
      rw [e1, e2]
      clear e1 e2
      replace he := hide he
      rcases hbad with hbad | hbad
      · go_enter Try.func26, Try.ntmps26
        go_wp2_with (first | (go_at_call 61; refine (clockIdsC A c l _ hl hA).mono ?_; rintro e w1 ⟨A1, c1, rfl, h1, h2, hr, hb⟩; rw [he.out]) | (go_at_call 34; refine (snapChunks A c l _ hl (hA.bl hb)).mono ?_; rintro e w2 ⟨rfl, hb2⟩))
        go_ret2
        exact ⟨none, 0, rfl, Nat.le_refl _, by unfold maxLen; omega, R.nil, hb.trans hb2⟩
      · by_cases hneg : n < 0
        · go_enter Try.func26, Try.ntmps26
          go_wp2_with (first | (go_at_call 61; refine (clockIdsC A c l _ hl hA).mono ?_; rintro e w1 ⟨A1, c1, rfl, h1, h2, hr, hb⟩; rw [he.out]) | (go_at_call 34; refine (snapChunks A c l _ hl (hA.bl hb)).mono ?_; rintro e w2 ⟨rfl, hb2⟩))
          go_ret2
          exact ⟨none, 0, rfl, Nat.le_refl _, by unfold maxLen; omega, R.nil, hb.trans hb2⟩
        · have hneg' : 0 ≤ n := by omega
          go_enter Try.func26, Try.ntmps26
          go_wp2_with (first | (go_at_call 61; refine (clockIdsC A c l _ hl hA).mono ?_; rintro e w1 ⟨A1, c1, rfl, h1, h2, hr, hb⟩; rw [he.out]) | (go_at_call 34; refine (snapChunks A c l _ hl (hA.bl hb)).mono ?_; rintro e w2 ⟨rfl, hb2⟩))
          go_ret2
          exact ⟨none, 0, rfl, Nat.le_refl _, by unfold maxLen; omega, R.nil, hb.trans hb2⟩
    · have e1 : cutErr l n = 0 := by unfold cutErr; rw [if_pos he, if_neg hbad]
      have e2 : cutIds l n = ((clockIds l).drop (n.toNat * 8)).take 8 := by unfold cutIds; rw [e1]; rfl
      rw [e1, e2]
      clear e1 e2
      replace he := hide he
      have hn0 : 0 ≤ n := by omega
      have hn1 : n < chunksOf l := by omega
      have hn2 : n * 8 < (clockIds l).length := by unfold chunksOf at hn1; omega
      clear hbad
      obtain ⟨N, rfl⟩ := Int.eq_ofNat_of_zero_le hn0
      have hN : N * 8 < (clockIds l).length := by omega
      rw [Int.toNat_natCast]
      go_enter Try.func26, Try.ntmps26
      go_wp2_with (first | (go_at_call 61; refine (clockIdsC A c l _ hl hA).mono ?_; rintro e w1 ⟨A1, c1, rfl, h1, h2, hr, hb⟩; rw [he.out]) | (go_at_call 34; refine (snapChunks A c l _ hl (hA.bl hb)).mono ?_; rintro e w2 ⟨rfl, hb2⟩; have hr2' := (hr.bl hb2).sub (N * 8) 8))
      · go_ret2
        have hm : (((clockIds l).drop (N * 8)).take 8).length = (clockIds l).length - N * 8 := by
          rw [List.length_take, List.length_drop]; omega
        refine ⟨A1.map (fun x => x.add (N * 8 * 2)), (clockIds l).length - N * 8, by rw [hm]; rfl, by rw [hm]; exact Nat.le_refl _, by unfold maxLen; omega, hr2', hb.trans hb2⟩
      · go_ret2
        have hm : (((clockIds l).drop (N * 8)).take 8).length = ((↑N + 1) * 8 : Int).toNat - N * 8 := by
          rw [List.length_take, List.length_drop]; omega
        refine ⟨A1.map (fun x => x.add (N * 8 * 2)), ((↑N + 1) * 8 : Int).toNat - N * 8, by rw [hm]; rfl, by rw [hm]; exact Nat.le_refl _, by unfold maxLen; omega, hr2', hb.trans hb2⟩
  · have e1 : cutErr l n = clockIdsErr l := by unfold cutErr; rw [if_neg he]
    have e2 : cutIds l n = [] := by unfold cutIds; rw [e1, if_neg he]
    rw [e1, e2]
    clear e1 e2
    have he' : (clockIdsErr l != 0) = true := by simp [he]
    clear he
    go_enter Try.func26, Try.ntmps26
    go_wp2_with (go_at_call 61; refine (clockIdsC A c l _ hl hA).mono ?_; rintro e w1 ⟨A1, c1, rfl, h1, h2, hr, hb⟩)
    go_ret2
    exact ⟨none, 0, rfl, Nat.le_refl _, by unfold maxLen; omega, R.nil, hb⟩

/-- slices.Contains(l, false). -/
def someNot (l : List Bool) : Bool := l.any (!·)

set_option maxHeartbeats 400000 in
theorem boolIndexFalse (A : Option Addr) (c : Nat) (l : List Bool) (w : World) (hl : l.length ≤ maxLen) (hA : R cBool 0 w A l) :
    Calls Try.prog 110 #[.slice A l.length c, .bool false] w fun e w' => (∃ n : Int, e = .returned (.int .i64 n) ∧ (0 ≤ n ↔ someNot l = true)) ∧ Bl w w' := by
  unfold maxLen at hl
  go_enter Try.func110, Try.ntmps110
  go_wp2
  go_loopw [8] (fun i wr => Bl w wr ∧ ∃ k : Nat, k ≤ l.length ∧ i = .int .i64 k ∧ Hid (someNot l = someNot (l.drop k))) (fun i _ => l.length - (intOf i).toNat)
  case atStart => exact ⟨Bl.refl _, 0, Nat.zero_le _, rfl, rfl⟩
  case round =>
    obtain ⟨hbl, k, hk, rfl, hf⟩ := hrel
    by_cases hlt : k < l.length
    · have hR := hA.bl hbl
      obtain ⟨b, off, rfl, _, hb⟩ := hR.addr (by omega)
      obtain ⟨x, hx⟩ := get_lt hlt
      obtain ⟨_, c0, _⟩ := hR.bool hx
      have hd := hide (drop_cons hx)
      clear hx
      cases x
      · have g := hide (show someNot l = true by rw [hf.out, hd.out]; rfl)
        go_wp2
        go_ret
        exact ⟨⟨_, rfl, by rw [g.out]; simp⟩, hbl⟩
      · have g := hide (show someNot l = someNot (l.drop (k + 1)) by rw [hf.out, hd.out]; simp [someNot])
        go_wp2
        go_roundw
        case rel => exact ⟨hbl, k + 1, by omega, by go_num, g⟩
        case measure => simp [intOf]; omega
    · have hkl : l.length ≤ k := by omega
      go_wp2
      go_ret
      exact ⟨⟨_, rfl, by rw [hf.out, List.drop_eq_nil_of_le hkl]; simp [someNot]⟩, hbl⟩

set_option maxHeartbeats 400000 in
theorem boolContainsFalse (A : Option Addr) (c : Nat) (l : List Bool) (w : World) (hl : l.length ≤ maxLen) (hA : R cBool 0 w A l) :
    Calls Try.prog 90 #[.slice A l.length c, .bool false] w fun e w' => e = .returned (.bool (someNot l)) ∧ Bl w w' := by
  go_enter Try.func90, Try.ntmps90
  go_wp2_with (go_at_call 110; refine (boolIndexFalse A c l _ hl hA).mono ?_; rintro e w' ⟨⟨n, rfl, hn⟩, hb⟩; have hn := hide hn)
  go_ret
  refine ⟨ret_bool ?_, hb⟩
  have := hn.out
  cases h : someNot l <;> simp_all
end Go.Proofs.Ytegmddgbdjlidaa
