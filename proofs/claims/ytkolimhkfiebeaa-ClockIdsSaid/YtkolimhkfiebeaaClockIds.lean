/-
  The walks of clock.Ids, and of the references All, Ids.
-/
import Derived.Test.YtkolimhkfiebeaaClockTwin
namespace Go.Proofs.Ytkolimhkfiebeaa
open Go.RowKit

/-! ### Plain -/
def idsN (r t : Int) : Nat → List Id
  | 0 => []
  | n + 1 => ⟨t, r⟩ :: idsN r (t + 1) n
/-- The stamps of a replica from time t to u. -/
def idsFrom (r t u : Int) : List Id := idsN r t (u + 1 - t).toNat
def spansIds (r : Int) : List Span → List Id
  | [] => []
  | x :: l => idsFrom r x.f x.t ++ spansIds r l
/-- All stamps of a clock. -/
def clockAll : List Times → List Id
  | [] => []
  | x :: l => spansIds x.r x.s ++ clockAll l
theorem idsFrom_cons {r t u : Int} (h : t ≤ u) : idsFrom r t u = ⟨t, r⟩ :: idsFrom r (t + 1) u := by
  unfold idsFrom
  rw [show (u + 1 - t).toNat = (u + 1 - (t + 1)).toNat + 1 by omega, idsN]
theorem idsFrom_nil {r t u : Int} (h : u < t) : idsFrom r t u = [] := by
  unfold idsFrom
  rw [show (u + 1 - t).toNat = 0 by omega]; rfl
theorem idsN_length (r t : Int) (n : Nat) : (idsN r t n).length = n := by
  induction n generalizing t with
  | zero => rfl
  | succ n ih => simp [idsN, ih]
theorem spansIds_length (r : Int) (l : List Span) : ∀ least, spansFrom least l = true → ((spansIds r l).length : Int) = spansMany l := by
  induction l with
  | nil => intro _ _; rfl
  | cons x l ih =>
    intro least h
    simp only [spansFrom, Bool.and_eq_true, decide_eq_true_eq] at h
    have := ih _ h.2
    simp only [spansIds, List.length_append, spansMany, idsFrom, idsN_length]
    omega
theorem spansMay_from {l : List Span} (h : spansMay l = true) : spansFrom 1 l = true := by
  unfold spansMay at h
  simp only [Bool.and_eq_true, decide_eq_true_eq] at h
  exact h.2
theorem clockAll_length (l : List Times) (h : allMay l) : ((clockAll l).length : Int) = clockMany l := by
  induction l with
  | nil => rfl
  | cons x l ih =>
    have h1 := spansIds_length x.r x.s 1 (spansMay_from (h x (by simp)))
    have h2 := ih (fun y hy => h y (by simp [hy]))
    simp only [clockAll, List.length_append, clockMany]
    omega
/-- clock.Ids: what it hands back, and the error. -/
def clockIdsErr (l : List Times) : Int := if clockMay l then (if clockMany l ≤ 1024 then 0 else 4) else 8
def clockIds (l : List Times) : List Id := if clockMay l then (if clockMany l ≤ 1024 then clockAll l else []) else []

theorem flatId : ∀ {w : World} {S : Nat → Prop} {x : Id} {cs : List Value}, cId.rd w S x cs → ∀ S', cId.rd w S' x cs := fun h _ => h
theorem Try.infoId : (Try.prog.info? 36).map (fun i => (i.zero, i.size, i.bytes)) = some (some (.agg #[.int .u32 0, .int .u8 0]), 2, 8) := by kernel_rfl

/-- What a call that hands back a new list, and a number, says. -/
def New2 {α : Type} (C : Codec α) (l : List α) (n : Int) (w : World) (e : Ending) (w' : World) : Prop := ∃ A c, e = .returned (.tuple #[.slice A l.length c, .int .i64 n]) ∧ l.length ≤ c ∧ c ≤ maxLen ∧ R C w.heap.size w' A l ∧ Bl w w'

set_option maxRecDepth 100000 in
set_option maxHeartbeats 1000000 in
theorem clockIdsC (A : Option Addr) (c : Nat) (l : List Times) (w : World) (hl : l.length ≤ maxLen) (hA : R cTimes 0 w A l) :
    Calls Try.prog 35 #[.slice A l.length c] w (New2 cId (clockIds l) (clockIdsErr l) w) := by
  cases hm : clockMay l
  · have e1 : clockIds l = [] := by unfold clockIds; rw [hm]; rfl
    have e2 : clockIdsErr l = 8 := by unfold clockIdsErr; rw [hm]; rfl
    rw [e1, e2]
    clear e1 e2
    go_enter Try.func35, Try.ntmps35
    go_wp2_with (go_at_call 15; refine (clockCheck A c l _ hl hA).mono ?_; rintro e w1 ⟨rfl, hb⟩; rw [hm, okOr_false])
    go_ret2
    exact ⟨none, 0, rfl, Nat.le_refl _, by unfold maxLen; omega, R.nil, hb⟩
  have hcount : clockCount l = clockMany l := by unfold clockCount; rw [hm]; rfl
  have hlen : l.length ≤ 8 := clockMay_length hm
  have hall := hide (clockFrom_all _ (show clockFrom (-1) l = true from hm))
  by_cases hbig : 1024 < clockMany l
  · have e1 : clockIds l = [] := by unfold clockIds; rw [hm, if_pos rfl, if_neg (by omega)]
    have e2 : clockIdsErr l = 4 := by unfold clockIdsErr; rw [hm, if_pos rfl, if_neg (by omega)]
    rw [e1, e2]
    clear e1 e2
    have hcount := hide hcount
    go_enter Try.func35, Try.ntmps35
    go_wp2_with (first | (go_at_call 15; refine (clockCheck A c l _ hl hA).mono ?_; rintro e w1 ⟨rfl, hb⟩; rw [hm, okOr_true]) | (go_at_call 19; refine (clockCountC A c l _ hl (hA.bl hb)).mono ?_; rintro e w2 ⟨rfl, hb2⟩; rw [hcount.out]))
    go_ret2
    exact ⟨none, 0, rfl, Nat.le_refl _, by unfold maxLen; omega, R.nil, hb.trans hb2⟩
  · have e1 : clockIds l = clockAll l := by unfold clockIds; rw [hm, if_pos rfl, if_pos (by omega)]
    have e2 : clockIdsErr l = 0 := by unfold clockIdsErr; rw [hm, if_pos rfl, if_pos (by omega)]
    rw [e1, e2]
    clear e1 e2
    have htot : (clockAll l).length ≤ 1024 := by have := clockAll_length l hall.out; omega
    have hcount := hide hcount
    have hbig : clockMany l ≤ 1024 := by omega
    obtain ⟨i0, hi, hz0, hz1, hz2⟩ := info_parts Try.infoId
    go_enter Try.func35, Try.ntmps35
    go_wp2_with (first | (go_at_call 15; refine (clockCheck A c l _ hl hA).mono ?_; rintro e w1 ⟨rfl, hb⟩; rw [hm, okOr_true]) | (go_at_call 19; refine (clockCountC A c l _ hl (hA.bl hb)).mono ?_; rintro e w2 ⟨rfl, hb2⟩; rw [hcount.out]))
    go_loopw [2, 20] (fun v i wr => Bl w wr ∧ ∃ (k : Nat) (pre : List Id), k ≤ l.length ∧ i = .int .i64 k ∧ Own cId 36 w.heap.size wr v pre ∧ Hid (clockAll l = pre ++ clockAll (l.drop k))) (fun _ i _ => l.length - (intOf i).toNat)
    case atStart => exact ⟨hb.trans hb2, 0, [], Nat.zero_le _, rfl, Own.nil, rfl⟩
    case round =>
      obtain ⟨hbl, k, pre, hk, rfl, hown, hf⟩ := hrel
      obtain ⟨wo, rfl⟩ : ∃ wo : World, wo = wr := ⟨_, rfl⟩
      obtain ⟨vo, rfl⟩ : ∃ vo : Value, vo = u2 := ⟨_, rfl⟩
      by_cases hlt : k < l.length
      · obtain ⟨b, off, rfl, _, hbw⟩ := hA.addr (by omega)
        obtain ⟨x, hx⟩ := get_lt hlt
        obtain ⟨_, ho, B, d, hcd, hdm, c0, c1, hB⟩ := hA.times hx
        have c0 := (hbl.cell hbw).trans c0
        have c1 := (hbl.cell hbw).trans c1
        have hd := hide (drop_cons hx)
        have hxm := hall.out x (List.mem_of_getElem? hx)
        have hfr := hide (spansMay_from hxm)
        clear hx hxm
        have hxl : x.s.length ≤ 9223372036854775807 := by unfold maxLen at hdm; omega
        go_wp2
        obtain ⟨W1, hW1⟩ : ∃ W, W = wo.alloc (Obj.cells #[Value.int IntKind.u8 x.r, Value.slice B x.s.length d] 96) := ⟨_, rfl⟩
        rw [← hW1]
        have hblW : Bl wo W1 := by rw [hW1]; exact (Bl.refl _).alloc _
        have q0 := hide (show W1.cell? ⟨wo.heap.size, 0, none⟩ = some (.int .u8 x.r) by rw [hW1]; simp)
        have hWs : wo.heap.size < W1.heap.size := by rw [hW1]; simp
        clear hW1
        have hne := fun e => Nat.lt_irrefl _ (hown.lt (b := wo.heap.size) e).2
        have hbl1 := hbl.trans hblW
        have hown := hown.bl hblW
        have hf1 : Hid (clockAll l = pre ++ (spansIds x.r (x.s.drop 0) ++ clockAll (l.drop (k + 1)))) := by rw [Hid, hf.out, hd.out, clockAll]; rfl
        clear c0 c1
        go_loopw [2, 27] (fun v i w3 => Bl w w3 ∧ Far W1 vo w3 v ∧ ∃ (j : Nat) (pre2 : List Id) (least : Int), j ≤ x.s.length ∧ i = .int .i64 j ∧ Own cId 36 w.heap.size w3 v pre2 ∧ Hid (spansFrom least (x.s.drop j) = true) ∧ Hid (clockAll l = pre2 ++ (spansIds x.r (x.s.drop j) ++ clockAll (l.drop (k + 1)))) ∧ 1 ≤ least) (fun _ i _ => x.s.length - (intOf i).toNat)
        case atStart => exact ⟨hbl1, Far.refl _ _, 0, pre, 1, Nat.zero_le _, rfl, hown, hfr.out, hf1, by omega⟩
        case round =>
          obtain ⟨hbl3, hfar3, j, pre2, least, hj, rfl, hown3, hsf, hf3, hle1⟩ := hrel
          obtain ⟨wm, rfl⟩ : ∃ wm : World, wm = wr := ⟨_, rfl⟩
          obtain ⟨vm, rfl⟩ : ∃ vm : Value, vm = u2 := ⟨_, rfl⟩
          by_cases hjl : j < x.s.length
          · obtain ⟨b2, off2, rfl, _, hb2'⟩ := hB.addr (by omega)
            obtain ⟨y, hy⟩ := get_lt hjl
            obtain ⟨_, hyo, d0, d1⟩ := hB.span hy
            have d0 := (hbl3.cell hb2').trans d0
            have d1 := (hbl3.cell hb2').trans d1
            have hdy := hide (drop_cons hy)
            clear hy
            obtain ⟨o0, o1, o2, o3⟩ := hyo
            have hx : least ≤ y.f ∧ y.f ≤ y.t ∧ y.t ≤ 1073741824 ∧ spansFrom (y.t + 2) (x.s.drop (j + 1)) = true := by
              have := hsf.out
              rw [hdy.out, spansFrom] at this
              simp only [Bool.and_eq_true, decide_eq_true_eq] at this
              exact ⟨this.1.1.1, this.1.1.2, this.1.2, this.2⟩
            obtain ⟨x0, x1, x2, x3⟩ := hx
            have x3 := hide x3
            go_wp2
            obtain ⟨W2, hW2⟩ : ∃ W, W = wm.alloc (Obj.cells #[Value.int IntKind.u32 y.f, Value.int IntKind.u32 y.t] 93) := ⟨_, rfl⟩
            rw [← hW2]
            have hblW2 : Bl wm W2 := by rw [hW2]; exact (Bl.refl _).alloc _
            have p1 := hide (show W2.cell? ⟨wm.heap.size, 1, none⟩ = some (.int .u32 y.t) by rw [hW2]; simp)
            have hWs2 : wm.heap.size < W2.heap.size := by rw [hW2]; simp
            clear hW2
            have hne2 := fun e => Nat.lt_irrefl _ (hown3.lt (b := wm.heap.size) e).2
            have hbl4 := hbl3.trans hblW2
            have hown3 := hown3.bl hblW2
            have hfar3 := hfar3.bl hblW2
            have hf4 : Hid (clockAll l = pre2 ++ (idsFrom x.r y.f y.t ++ (spansIds x.r (x.s.drop (j + 1)) ++ clockAll (l.drop (k + 1))))) := by rw [Hid, hf3.out, hdy.out, spansIds, List.append_assoc]
            clear d0 d1
            go_loopw [2, 9] (fun v t w5 => Bl w w5 ∧ Far W1 vo w5 v ∧ Far W2 vm w5 v ∧ ∃ (tt : Int) (pre3 : List Id), t = .int .u32 tt ∧ y.f ≤ tt ∧ tt ≤ y.t + 1 ∧ Own cId 36 w.heap.size w5 v pre3 ∧ Hid (clockAll l = pre3 ++ (idsFrom x.r tt y.t ++ (spansIds x.r (x.s.drop (j + 1)) ++ clockAll (l.drop (k + 1))))) ) (fun _ t _ => (y.t + 1 - intOf t).toNat)
            case atStart => exact ⟨hbl4, hfar3, Far.refl _ _, y.f, pre2, rfl, by omega, by omega, hown3, hf4⟩
            case round =>
              obtain ⟨hbl5, hfar5, hfar6, tt, pre3, rfl, ht0, ht1, hown5, hf5⟩ := hrel
              have q1 : wr.cell? ⟨wo.heap.size, 0, none⟩ = some (.int .u8 x.r) := (hfar5.cell hWs hne).trans q0.out
              have p2 : wr.cell? ⟨wm.heap.size, 1, none⟩ = some (.int .u32 y.t) := (hfar6.cell hWs2 hne2).trans p1.out
              by_cases htl : tt ≤ y.t
              · have hlen3 : pre3.length + 1 ≤ 1024 := by
                  have := congrArg List.length hf5.out
                  rw [idsFrom_cons htl] at this
                  simp only [List.length_append, List.length_cons] at this
                  omega
                have hWs5 : wo.heap.size < wr.heap.size := Nat.lt_of_lt_of_le hWs hfar5.1
                have hWs6 : wm.heap.size < wr.heap.size := Nat.lt_of_lt_of_le hWs2 hfar6.1
                have hf6 : Hid (clockAll l = (pre3 ++ [⟨tt, x.r⟩]) ++ (idsFrom x.r (tt + 1) y.t ++ (spansIds x.r (x.s.drop (j + 1)) ++ clockAll (l.drop (k + 1))))) := by rw [Hid, hf5.out, idsFrom_cons htl]; simp
                have hido : Id.ok ⟨tt, x.r⟩ := ⟨show (0 : Int) ≤ tt by omega, show tt < 4294967296 by omega, ho.1, ho.2⟩
                go_wp2_with (at_builtin
                             (refine wpList_append_any2 (C := cId) (xs := pre3) (ys := [⟨tt, x.r⟩]) rfl (.tmp 39) (.tmp 44) _ rfl 36 i0 _ 8 Try.underlying39 hi hz0 hz1 hz2 rfl _ w.heap.size rfl (hown5.bl ((Bl.refl _).alloc _)) (some ⟨wr.heap.size, 0, none⟩) 1 _ rfl rfl (hown5.src (cs := [Value.int IntKind.u32 tt, Value.int IntKind.u8 x.r]) (Bl.refl _) hbl5.size ⟨hido, rfl⟩) ?c1 ?c2 ?c3 ?_)
                             case c1 => simp [maxLen]; omega
                             case c2 => simp; omega
                             case c3 => have := hbl5.size; simp; omega
                             intro v7 w7 hown7 hg7 hfar7)
                have hbl7 : Bl w w7 := (hbl5.alloc _).app (hown5.bl ((Bl.refl _).alloc _)) (Nat.le_refl _) hg7
                have hfar8 := (Far.bl (Far.refl wr _) ((Bl.refl _).alloc _)).trans hfar7
                go_roundw
                case rel => exact ⟨hbl7, hfar5.trans hfar8, hfar6.trans hfar8, tt + 1, _, rfl, by omega, by omega, hown7, hf6⟩
                case measure => simp [intOf]; omega
              · go_wp2
                go_roundw
                case rel => exact ⟨hbl5, hfar5, j + 1, pre3, y.t + 2, by omega, by go_num, hown5, x3.out, by rw [Hid, hf5.out, idsFrom_nil (by omega)]; rfl, by omega⟩
                case measure => simp [intOf]; omega
          · have hkl : x.s.length ≤ j := by omega
            go_wp2
            go_roundw
            case rel => exact ⟨hbl3, k + 1, pre2, by omega, by go_num, hown3, by rw [Hid, hf3.out, List.drop_eq_nil_of_le hkl]; simp [spansIds]⟩
            case measure => simp [intOf]; omega
      · have hkl : l.length ≤ k := by omega
        go_wp2
        go_ret2
        have hfin : pre = clockAll l := by rw [hf.out, List.drop_eq_nil_of_le hkl]; simp [clockAll]
        subst hfin
        obtain ⟨A', c', rfl, hr, h1, h2⟩ := hown.reads
        exact ⟨A', c', rfl, h1, h2, hr, hbl⟩
end Go.Proofs.Ytkolimhkfiebeaa
