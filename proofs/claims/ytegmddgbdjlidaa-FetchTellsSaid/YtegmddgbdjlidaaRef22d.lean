/-
  The walks of layer 22's references: Part, Wants, Taken, Took, Left.
-/
import Derived.Test.YtegmddgbdjlidaaRef22c
namespace Go.Proofs.Ytegmddgbdjlidaa
open Go.RowKit

/-- The stamps of a chunk. -/
def partFrom (k : Nat) (n : Int) : List Id → List Id
  | [] => []
  | x :: l => if (k : Int) / 8 = n then x :: partFrom (k + 1) n l else partFrom (k + 1) n l
theorem partFrom_is (l : List Id) (q : Nat) : ∀ k : Nat, partFrom k (q : Int) l = (l.drop (q * 8 - k)).take (q * 8 + 8 - max k (q * 8)) := by
  induction l with
  | nil => intro k; simp [partFrom]
  | cons x l ih =>
    intro k
    unfold partFrom
    rw [ih (k + 1)]
    by_cases h : (k : Int) / 8 = (q : Int)
    · rw [if_pos h]
      have h1 : q * 8 - k = 0 := by omega
      have h2 : q * 8 - (k + 1) = 0 := by omega
      have h3 : q * 8 + 8 - max k (q * 8) = (q * 8 + 8 - max (k + 1) (q * 8)) + 1 := by omega
      rw [h1, h2, h3]
      rfl
    · rw [if_neg h]
      by_cases hk : k < q * 8
      · have h1 : q * 8 - k = (q * 8 - (k + 1)) + 1 := by omega
        have h3 : q * 8 + 8 - max k (q * 8) = q * 8 + 8 - max (k + 1) (q * 8) := by omega
        rw [h1, h3]
        rfl
      · have h1 : q * 8 + 8 - max k (q * 8) = 0 := by omega
        have h2 : q * 8 + 8 - max (k + 1) (q * 8) = 0 := by omega
        rw [h1, h2]
        simp
theorem cut_part {x : Entry} (hm : entryMay x = true) (hk : x.known = true) (q : Nat) (hq : q < x.got.length) : cutIds x.snap (q : Int) = partFrom 0 (q : Int) (clockAll x.snap) := by
  unfold entryMay entryTail at hm
  rw [hk] at hm
  simp only [Bool.and_eq_true, if_true, decide_eq_true_eq] at hm
  obtain ⟨_, ⟨⟨_, h2⟩, h3⟩, h4⟩ := hm
  have he : clockIdsErr x.snap = 0 := by unfold clockIdsErr; rw [h2, if_pos rfl, if_pos h3]
  have hc := (chunksOf_many he).1
  have hi : clockIds x.snap = clockAll x.snap := by unfold clockIds; rw [h2, if_pos rfl, if_pos h3]
  have hx : cutErr x.snap (q : Int) = 0 := by unfold cutErr; rw [if_pos he, if_neg (by omega)]
  unfold cutIds
  rw [hx, if_pos rfl, hi, partFrom_is, Int.toNat_natCast, show q * 8 + 8 - max 0 (q * 8) = 8 by omega, Nat.sub_zero]

theorem R.idx {lo : Nat} {w : World} {b off k : Nat} {l : List Id} {x : Id} (h : R cId lo w (some ⟨b, off, none⟩) l) (hk : l[k]? = some x) : x.ok ∧ w.cell? ⟨b, off + k * 2, none⟩ = some (.int .u32 x.t) ∧ w.cell? ⟨b, off + k * 2 + 1, none⟩ = some (.int .u8 x.r) :=
  let ⟨_, h1, h2, h3⟩ := h.id hk
  ⟨h1, h2, h3⟩

set_option maxRecDepth 100000 in
set_option maxHeartbeats 1000000 in
theorem refPart (A : Option Addr) (c : Nat) (m : List Times) (n : Int) (w : World) (hm : clockMay m = true) (hb0 : clockMany m ≤ 1024) (hA : R cTimes 0 w A m) :
    Calls Try.prog 101 #[.slice A m.length c, .int .i64 n] w (New cId (partFrom 0 n (clockAll m)) w) := by
  obtain ⟨i0, hi, hz0, hz1, hz2⟩ := info_parts Try.infoId
  have hlen : ((clockAll m).length : Int) ≤ 1024 := by
    have := clockAll_length m (clockFrom_all _ (show clockFrom (-1) m = true from hm))
    omega
  have hall := hide (refAll08 A c m w hm hb0 hA)
  clear hm hb0
  go_enter Try.func101, Try.ntmps101
  go_wp2_with fail
  refine hall.out.mono ?_
  rintro e w1 ⟨A1, c1, rfl, q1, q2, hr, hb1⟩
  replace hr := hr.zero
  generalize clockAll m = l at *
  have hbase := hb1.size
  go_upto_region 4 with fail
  go_loopw [6, 7] (fun v i wr => Bl w1 wr ∧ ∃ (k : Nat) (pre : List Id), k ≤ l.length ∧ pre.length ≤ k ∧ i = .int .i64 k ∧ Own cId 25 w1.heap.size wr v pre ∧ Hid (partFrom 0 n l = pre ++ partFrom k n (l.drop k))) (fun _ i _ => l.length - (intOf i).toNat)
  case atStart => exact ⟨Bl.refl _, 0, [], Nat.zero_le _, Nat.zero_le _, rfl, Own.nil, rfl⟩
  case round =>
    obtain ⟨hbl, k, pre, hk, hpl, rfl, hwn, hf⟩ := hrel
    by_cases hlt : k < l.length
    · have hR := hr.bl hbl
      obtain ⟨b, off, rfl, _, hb⟩ := hR.addr (by omega)
      obtain ⟨y, hy⟩ := get_lt hlt
      obtain ⟨hyo, c0, c1'⟩ := hR.idx hy
      have hd := hide (drop_cons hy)
      clear hy
      by_cases hq : (k : Int) / 8 = n
      · have hq' : ((k : Int) / 8 == n) = true := by simp [hq]
        have hf6 : Hid (partFrom 0 n l = (pre ++ [y]) ++ partFrom (k + 1) n (l.drop (k + 1))) := by rw [Hid, hf.out, hd.out, partFrom, if_pos hq]; simp
        have hbw : w1.heap.size ≤ wr.heap.size := hbl.size
        clear hq
        go_wp2_with (at_builtin
                     (refine wpList_append_any2 (C := cId) (xs := pre) (ys := [y]) rfl (.tmp 20) (.tmp 25) _ rfl 25 i0 _ 8 Try.underlying45 hi hz0 hz1 hz2 rfl _ w1.heap.size rfl (hwn.bl ((Bl.refl _).alloc _)) (some ⟨wr.heap.size, 0, none⟩) 1 _ rfl rfl (hwn.src (cs := [Value.int IntKind.u32 y.t, Value.int IntKind.u8 y.r]) (Bl.refl _) hbw ⟨hyo, rfl⟩) ?c1 ?c2 ?c3 ?_)
                     case c1 => simp [maxLen]; omega
                     case c2 => simp; omega
                     case c3 => simp; omega
                     intro v7 w7 hown7 hg7 hfar7)
        have hbl7 : Bl w1 w7 := (hbl.alloc _).app (hwn.bl ((Bl.refl _).alloc _)) (Nat.le_refl _) hg7
        go_roundw
        case rel => exact ⟨hbl7, k + 1, _, by omega, by simp; omega, by go_num, hown7, hf6⟩
        case measure => simp [intOf]; omega
      · have hq' : ((k : Int) / 8 == n) = false := beq_eq_false_iff_ne.2 hq
        have hf6 : Hid (partFrom 0 n l = pre ++ partFrom (k + 1) n (l.drop (k + 1))) := by rw [Hid, hf.out, hd.out, partFrom, if_neg hq]
        clear hq
        go_wp2
        go_roundw
        case rel => exact ⟨hbl, k + 1, _, by omega, by omega, by go_num, hwn, hf6⟩
        case measure => simp [intOf]; omega
    · have hkl : l.length ≤ k := by omega
      go_wp2
      go_ret
      have hfin : pre = partFrom 0 n l := by rw [hf.out, List.drop_eq_nil_of_le hkl]; simp [partFrom]
      obtain ⟨A', c', rfl, hr', h1, h2⟩ := hwn.reads
      rw [hfin] at *
      exact ⟨A', c', rfl, h1, h2, hr'.more hbase, hb1.trans hbl⟩
end Go.Proofs.Ytegmddgbdjlidaa
