/-
  The walk of fetch.Left.
-/
import Derived.Test.YtegmddgbdjlidaaBegin
namespace Go.Proofs.Ytegmddgbdjlidaa
open Go.RowKit

theorem Try.infoInt : (Try.prog.info? 3).map (fun i => (i.zero, i.size, i.bytes)) = some (some (.int .i64 0), 1, 8) := by kernel_rfl

/-- Where false stands. -/
def leftFrom (k : Int) : List Bool → List Int
  | [] => []
  | b :: l => if b then leftFrom (k + 1) l else k :: leftFrom (k + 1) l
def leftOf (x : Entry) : List Int := if entryMay x then leftFrom 0 x.got else []
theorem leftFrom_length (l : List Bool) : ∀ k, (leftFrom k l).length ≤ l.length := by
  induction l with
  | nil => intro k; exact Nat.le_refl _
  | cons b l ih =>
    intro k
    have := ih (k + 1)
    cases b <;> simp [leftFrom] <;> omega

set_option maxRecDepth 100000 in
set_option maxHeartbeats 1000000 in
theorem fetchLeft (x : Entry) (A B : Option Addr) (c d : Nat) (w : World) (hx : x.ok) (h1 : x.snap.length ≤ c) (h2 : c ≤ maxLen) (h3 : x.got.length ≤ d) (h4 : d ≤ maxLen) (hA : R cTimes 0 w A x.snap) (hB : R cBool 0 w B x.got) :
    Calls Try.prog 27 #[.agg #[.int .u32 x.id.t, .int .u8 x.id.r, .bool x.ready, .bool x.pin, .int .i64 x.used, .bool x.known, .slice A x.snap.length c, .slice B x.got.length d]] w (New2 cInt (leftOf x) (okOr 8 (entryMay x)) w) := by
  have hown : ∀ W, Bl w W → Calls Try.prog 58 #[.agg #[.int .u32 x.id.t, .int .u8 x.id.r, .bool x.ready, .bool x.pin, .int .i64 x.used, .bool x.known, .slice A x.snap.length c, .slice B x.got.length d]] W (Ent2 (ownE x) (okOr 8 (entryMay x)) W) := fun W hb => fetchOwn x A B c d W hx h1 h2 h3 h4 (hA.bl hb) (hB.bl hb)
  cases hmay : entryMay x
  · have e1 : leftOf x = [] := by unfold leftOf; rw [hmay]; rfl
    rw [e1, okOr_false]
    rw [hmay, okOr_false] at hown
    replace hown := hide hown
    go_enter Try.func27, Try.ntmps27
    go_wp2_with (go_at_call 58; refine (hown.out _ ((Bl.refl w).alloc _)).mono ?_; rintro e w1 ⟨A1, c1, B1, d1, rfl, -, -, -, -, -, -, hb1⟩)
    go_ret2
    exact ⟨none, 0, rfl, Nat.le_refl _, by unfold maxLen; omega, R.nil, (((Bl.refl w).alloc _).trans hb1).alloc _⟩
  · have e1 : leftOf x = leftFrom 0 x.got := by unfold leftOf; rw [hmay]; rfl
    have hsm := small_of_may hmay
    have hgl : x.got.length ≤ 1048576 := hsm.2
    rw [e1, okOr_true]
    rw [hmay, okOr_true] at hown
    replace hown := hide hown
    have hlen := leftFrom_length x.got 0
    clear hsm hmay
    obtain ⟨i0, hi, hz0, hz1, hz2⟩ := info_parts Try.infoInt
    go_enter Try.func27, Try.ntmps27
    go_wp2_with (go_at_call 58; refine (hown.out _ ((Bl.refl w).alloc _)).mono ?_; rintro e w1 ⟨A1, c1, B1, d1, rfl, -, -, -, -, -, -, hb1⟩; have hc1 := hb1.cells; have hzb := lt_of_alloc hb1)
    have hbl1 := ((Bl.refl w).alloc _).trans hb1
    go_loopw [2, 19] (fun v i wr => Bl w wr ∧ ∃ (k : Nat) (pre : List Int), k ≤ x.got.length ∧ i = .int .i64 k ∧ Own cInt 3 w.heap.size wr v pre ∧ Hid (leftFrom 0 x.got = pre ++ leftFrom k (x.got.drop k))) (fun _ i _ => x.got.length - (intOf i).toNat)
    case atStart => exact ⟨hbl1.alloc _, 0, [], Nat.zero_le _, rfl, Own.nil, rfl⟩
    case round =>
      obtain ⟨hbl, k, pre, hk, rfl, hwn, hf⟩ := hrel
      by_cases hlt : k < x.got.length
      · have hR := hB.bl hbl
        obtain ⟨b, off, rfl, _, hb⟩ := hR.addr (by omega)
        obtain ⟨y, hy⟩ := get_lt hlt
        obtain ⟨_, c0, _⟩ := hR.bool hy
        have hd := hide (drop_cons hy)
        clear hy
        cases y
        · have hf6 : Hid (leftFrom 0 x.got = (pre ++ [(k : Int)]) ++ leftFrom ((k + 1 : Nat) : Int) (x.got.drop (k + 1))) := by rw [Hid, hf.out, hd.out, leftFrom]; simp
          have hlp : pre.length + 1 ≤ x.got.length := by
            have := congrArg List.length hf6.out
            simp only [List.length_append, List.length_cons, List.length_nil] at this
            omega
          have hik : i64ok (k : Int) := ⟨by omega, by omega⟩
          go_wp2_with (at_builtin
                       (refine wpList_append_any2 (C := cInt) (xs := pre) (ys := [(k : Int)]) rfl (.tmp 26) (.tmp 28) _ rfl 3 i0 _ 8 Try.underlying48 hi hz0 hz1 hz2 rfl _ w.heap.size rfl (hwn.bl ((Bl.refl _).alloc _)) (some ⟨wr.heap.size, 0, none⟩) 1 _ rfl rfl (hwn.src (cs := [Value.int IntKind.i64 (k : Int)]) (Bl.refl _) hbl.size ⟨hik, rfl⟩) ?c1 ?c2 ?c3 ?_)
                       case c1 => simp [maxLen]; omega
                       case c2 => simp; omega
                       case c3 => have := hbl.size; simp; omega
                       intro v7 w7 hown7 hg7 hfar7)
          have hbl7 : Bl w w7 := (hbl.alloc _).app (hwn.bl ((Bl.refl _).alloc _)) (Nat.le_refl _) hg7
          go_roundw
          case rel => exact ⟨hbl7, k + 1, _, by omega, by go_num, hown7, hf6⟩
          case measure => simp [intOf]; omega
        · have hf6 : Hid (leftFrom 0 x.got = pre ++ leftFrom ((k + 1 : Nat) : Int) (x.got.drop (k + 1))) := by rw [Hid, hf.out, hd.out, leftFrom]; simp
          go_wp2
          go_roundw
          case rel => exact ⟨hbl, k + 1, _, by omega, by go_num, hwn, hf6⟩
          case measure => simp [intOf]; omega
      · have hkl : x.got.length ≤ k := by omega
        go_wp2
        go_ret2
        have hfin : pre = leftFrom 0 x.got := by rw [hf.out, List.drop_eq_nil_of_le hkl]; simp [leftFrom]
        obtain ⟨A', c', rfl, hr, h1, h2⟩ := hwn.reads
        rw [hfin] at *
        exact ⟨A', c', rfl, h1, h2, hr, hbl⟩
end Go.Proofs.Ytegmddgbdjlidaa
