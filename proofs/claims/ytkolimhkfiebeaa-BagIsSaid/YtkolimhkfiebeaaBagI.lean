/-
  Plain: the stamps of a bag as a clock; what a bag has behind an operation. No program in sight.
  The walks of bag.Ids, of the references Stamps, Ids, Find, Check of layer 11.
-/
import Derived.Test.YtkolimhkfiebeaaLawC
import Derived.Test.YtkolimhkfiebeaaBagLessLaw
import Derived.Test.YtkolimhkfiebeaaRefB
namespace Go.Proofs.Ytkolimhkfiebeaa
open Go.RowKit

theorem sum_ones_eq (r : Int) : ∀ k : Nat, sumK (onesK r) k = if 0 ≤ r ∧ r < k then 1 else 0
  | 0 => by
    rw [if_neg (by omega)]
    rfl
  | k + 1 => by
    have e0 : sumK (onesK r) (k + 1) = sumK (onesK r) k + (if r = k then 1 else 0) := rfl
    rw [e0, sum_ones_eq r k]
    by_cases e : r = k
    · rw [if_neg (by omega), if_pos e, if_pos (by omega)]
      rfl
    · rw [if_neg e]
      by_cases h : 0 ≤ r ∧ r < k
      · rw [if_pos h, if_pos (by omega)]
        rfl
      · rw [if_neg h, if_neg (by omega)]
        rfl

theorem sum_times_eq : ∀ (l : List Id) (k : Nat), (∀ x ∈ l, 0 ≤ x.r ∧ x.r < k) → sumK (fun r => ((timesOf r l).length : Int)) k = l.length
  | [], k, _ => by
    have : ∀ k, sumK (fun r : Nat => ((timesOf (r : Int) []).length : Int)) k = 0 := fun k => by
      induction k with
      | zero => rfl
      | succ k ih => unfold sumK; rw [ih]; rfl
    rw [this]
    rfl
  | x :: l, k, h => by
    have h1 := sum_times_eq l k fun y hy => h y (List.mem_cons_of_mem _ hy)
    have h2 := sum_ones_eq x.r k
    rw [if_pos (h x (List.mem_cons_self ..))] at h2
    have h3 := sumK_add (f := fun r => ((timesOf r l).length : Int)) (g := onesK x.r) (h := fun r => ((timesOf r (x :: l)).length : Int)) k fun r _ => by
      rw [timesOf_cons]
      unfold onesK
      by_cases e : x.r = r
      · rw [if_pos e, if_pos e, List.length_cons]; omega
      · rw [if_neg e, if_neg e]; omega
    simp only [List.length_cons]
    omega

theorem times_nodup (r : Int) : ∀ {l : List Id}, l.Nodup → (timesOf r l).Nodup
  | [], _ => List.nodup_nil
  | x :: l, h => by
    obtain ⟨h1, h2⟩ := List.nodup_cons.1 h
    rw [timesOf_cons]
    by_cases e : x.r = r
    · rw [if_pos e]
      refine List.nodup_cons.2 ⟨fun hm => ?_, times_nodup r h2⟩
      obtain ⟨y, hy, e1, e2⟩ := times_mem.1 hm
      exact h1 ((Id.ext' e2 (e1.trans e.symm) : y = x) ▸ hy)
    · rw [if_neg e]
      exact times_nodup r h2

theorem sum_eq {f g : Nat → Int} : ∀ k, (∀ r, r < k → f r = g r) → sumK f k = sumK g k
  | 0, _ => rfl
  | k + 1, h => by
    unfold sumK
    rw [sum_eq k fun r hr => h r (by omega), h k (by omega)]

theorem cmp_len {l : List Int} (h : l.Nodup) : (cmp (srt l)).length = l.length := by
  obtain ⟨p1, p2⟩ := cmp_srt l
  have hn : (cmp (srt l)).Nodup := List.Pairwise.imp (fun {a b} h e => by omega) p1
  exact ((List.perm_ext_iff_of_nodup hn h).2 p2).length_eq

theorem ofC_count {l : List Id} (hm : idsMay l = true) (h0 : ∀ x ∈ l, 0 ≤ x.r) (hl : l.length ≤ 1024) (hd : l.Nodup) : clockCount (ofC l) = l.length := by
  unfold clockCount
  rw [if_pos (ofC_may hm hl)]
  have h1 : clockMany (ofC l) = sumK (fun r => spansMany (ofR l r)) 8 := clockMany_each (ofR l) 8
  rw [h1, ← sum_times_eq l 8 fun x hx => ⟨h0 x hx, ?_⟩]
  · refine sum_eq 8 fun r _ => ?_
    obtain ⟨p1, p2⟩ := cmp_srt (timesOf r l)
    have hin : ∀ t ∈ cmp (srt (timesOf r l)), 1 ≤ t := fun t ht => by
      obtain ⟨x, hx, _, rfl⟩ := times_mem.1 ((p2 t).1 ht)
      have := List.all_eq_true.1 hm x hx
      unfold idMay at this
      simp only [Bool.and_eq_true, decide_eq_true_eq] at this
      omega
    have h3 := (runs_ok p1 hin).2.2
    unfold ofR
    rw [h3, cmp_len (times_nodup r hd)]
  · have := List.all_eq_true.1 hm x hx
    unfold idMay at this
    simp only [Bool.and_eq_true, decide_eq_true_eq] at this
    omega

theorem ofC_has {l : List Id} (hm : idsMay l = true) (hl : l.length ≤ 1024) (s : Id) (h0 : 0 ≤ s.r) : clockHas (ofC l) s = decide (s ∈ l) := by
  rw [has_first (ofC_may hm hl)]
  by_cases hr : s.r < 8
  · obtain ⟨r, e⟩ : ∃ r : Nat, s.r = r := ⟨s.r.toNat, by omega⟩
    rw [e, first_ofC l r (by omega), (ofR_ok hm r).has]
    refine decide_eq_decide.2 ?_
    rw [times_mem]
    constructor
    · rintro ⟨x, hx, e1, e2⟩
      exact (Id.ext' e2 (e1.trans e.symm) : x = s) ▸ hx
    · intro h
      exact ⟨s, h, e, rfl⟩
  · rw [first_far (ofC_may hm hl) hr, have_nil]
    refine (decide_eq_false fun h => ?_).symm
    have := List.all_eq_true.1 hm s h
    unfold idMay at this
    simp only [Bool.and_eq_true, decide_eq_true_eq] at this
    omega

/-! ### The stamps of a bag -/

def idsB (l : List Op) : List Id := l.map (·.id)

def bIdsL (l : List Op) : List Times := if bagMay l then ofC (idsB l) else []

theorem idsB_len (l : List Op) : (idsB l).length = l.length := by unfold idsB; rw [List.length_map]

theorem opMay_id {x : Op} (h : opMay x = true) : idMay x.id = true := by
  unfold opMay at h
  simp only [Bool.and_eq_true] at h
  exact h.1.1.2

theorem idsB_may {l : List Op} (h : bagMay l = true) : idsMay (idsB l) = true := List.all_eq_true.2 fun x hx => by
  obtain ⟨o, ho, rfl⟩ := List.mem_map.1 hx
  exact opMay_id ((bagMay_parts h).2.2 o ho)

theorem idsB_nodup {l : List Op} (h : bagMay l = true) : (idsB l).Nodup := by
  have hs := (bagMay_parts h).2.1
  unfold idsB
  rw [List.nodup_iff_pairwise_ne, List.pairwise_map]
  exact List.Pairwise.imp (fun {a b} h e => by rw [e, idLess_irr] at h; cases h) hs

theorem idsB_of {l : List Op} (h : bagMay l = true) : ofL (idsB l) = bIdsL l ∧ ofN (idsB l) = 0 := by
  have h1 := (bagMay_parts h).1
  have h2 := idsB_may h
  have h3 := idsB_len l
  have hn : ¬ 1024 < (idsB l).length := by omega
  unfold ofL ofN bIdsL
  rw [if_neg hn, if_neg hn, h2, h]
  exact ⟨rfl, rfl⟩

theorem idsB_mem {l : List Op} {s : Id} : s ∈ idsB l ↔ hasId l s = true := by
  unfold idsB
  rw [List.mem_map, hasId_iff]

/-- What BagHas says. -/
structure HasLaw (l : List Op) (o : Op) (X : List Op) (s : Id) : Prop where
  may : bagMay X = true
  now : findB11 X s = (findB11 l s || !neqId s o.id)
  old : findB11 l s = true → eqOp (findO l s) (findO X s) = true
  new : findB11 l s = false → findB11 X s = true → eqOp (findO X s) o = true
  has : clockHas (bIdsL X) s = findB11 X s
  cnt : clockCount (bIdsL X) = X.length

theorem neq_not (x y : Id) : (!neqId x y) = decide (x = y) := by
  unfold neqId
  rw [Bool.not_not]

theorem has_law {l : List Op} {o : Op} {s : Id} (h : addN l o = 0) (hs : 0 ≤ s.r) (hok : ∀ x ∈ l, 0 ≤ x.id.r) (ho0 : 0 ≤ o.id.r) : HasLaw l o (addL l o) s := by
  obtain ⟨hl, ho⟩ := addN_parts h
  have hL : addL l o = if hasId l o.id then l else l.take (posOf l o.id) ++ o :: l.drop (posOf l o.id) := by unfold addL; rw [if_pos h]
  have hX : bagMay (addL l o) = true ∧ (∀ x, x ∈ addL l o ↔ (hasId l o.id = false ∧ x = o) ∨ x ∈ l) := by
    cases hh : hasId l o.id
    · have hlt : l.length < 1024 := by
        have h1 := (bagMay_parts hl).1
        unfold addN at h
        rw [hl, ho, hh] at h
        simp at h
        omega
      have := add_ok hl ho hlt fun x hx e => absurd e (hasId_false hh x hx)
      exact ⟨this.2.1, fun x => by rw [this.2.2.1]; simp⟩
    · rw [hh] at hL
      simp only [if_true] at hL
      rw [hL]
      exact ⟨hl, fun x => by simp⟩
  obtain ⟨hm, hmem⟩ := hX
  generalize addL l o = X at *
  have hXs := (bagMay_parts hm).2.1
  have hls := (bagMay_parts hl).2.1
  have hX0 : ∀ x ∈ X, 0 ≤ x.id.r := fun x hx => by
    rcases (hmem x).1 hx with ⟨_, rfl⟩ | hx
    · exact ho0
    · exact hok x hx
  have hnow : findB11 X s = (findB11 l s || !neqId s o.id) := by
    unfold findB11
    rw [hm, hl, Bool.true_and, Bool.true_and, neq_not, Bool.eq_iff_iff, Bool.or_eq_true, decide_eq_true_eq, hasId_iff, hasId_iff]
    constructor
    · rintro ⟨x, hx, e⟩
      rcases (hmem x).1 hx with ⟨_, rfl⟩ | hx
      · exact .inr e.symm
      · exact .inl ⟨x, hx, e⟩
    · rintro (⟨x, hx, e⟩ | e)
      · exact ⟨x, (hmem x).2 (.inr hx), e⟩
      · cases hh : hasId l o.id
        · exact ⟨o, (hmem o).2 (.inl ⟨hh, rfl⟩), e.symm⟩
        · obtain ⟨y, hy, e2⟩ := hasId_true hh
          exact ⟨y, (hmem y).2 (.inr hy), e2.trans e.symm⟩
  have hl3 := idsB_len X
  have hm3 := idsB_may hm
  have hlX := (bagMay_parts hm).1
  have hb : bIdsL X = ofC (idsB X) := by unfold bIdsL; rw [hm]; rfl
  refine ⟨hm, hnow, fun hi => ?_, fun hi hn => ?_, ?_, ?_⟩
  · have hiX : findB11 X s = true := by rw [hnow, hi]; rfl
    obtain ⟨a1, a2⟩ := find_some11 hi
    obtain ⟨b1, b2⟩ := find_some11 hiX
    unfold eqOp
    rw [decide_eq_true_eq]
    exact srt_uniq hXs ((hmem _).2 (.inr a1)) b1 (by rw [a2, b2])
  · obtain ⟨b1, b2⟩ := find_some11 hn
    unfold eqOp
    rw [decide_eq_true_eq]
    rcases (hmem _).1 b1 with ⟨_, e⟩ | hx
    · exact e
    · have : findB11 l s = true := by
        unfold findB11
        rw [hl, Bool.true_and, hasId_iff]
        exact ⟨_, hx, b2⟩
      rw [this] at hi
      cases hi
  · rw [hb, ofC_has hm3 (by omega) s hs]
    unfold findB11
    rw [hm, Bool.true_and, Bool.eq_iff_iff, decide_eq_true_eq]
    exact idsB_mem
  · rw [hb, ofC_count hm3 (fun x hx => by
        obtain ⟨y, hy, rfl⟩ := List.mem_map.1 hx
        exact hX0 y hy) (by omega) (idsB_nodup hm), hl3]
end Go.Proofs.Ytkolimhkfiebeaa

namespace Go.Proofs.Ytkolimhkfiebeaa
open Go.RowKit

theorem idsB_snoc {l : List Op} {k : Nat} {x : Op} (h : l[k]? = some x) : idsB (l.take (k + 1)) = idsB (l.take k) ++ [x.id] := by
  unfold idsB
  rw [take_snoc h, List.map_append]
  rfl

set_option maxRecDepth 100000 in
set_option maxHeartbeats 2000000 in
theorem bagIdsC (A : Option Addr) (c : Nat) (l : List Op) (w : World) (hl : l.length ≤ maxLen) (hA : R cOp 0 w A l) :
    Calls Try.prog 43 #[.slice A l.length c] w (New2 cTimes (bIdsL l) (okOr 8 (bagMay l)) w) := by
  have hc := bagCheck A c l w hl hA
  cases hm : bagMay l
  · have e1 : bIdsL l = [] := by unfold bIdsL; rw [hm]; rfl
    rw [e1, okOr_false]
    rw [hm, okOr_false] at hc
    replace hc := hide hc
    clear e1 hm
    go_enter Try.func43, Try.ntmps43
    go_wp2_with fail
    refine (hc.out).mono ?_
    rintro e w1 ⟨rfl, hb1⟩
    go_wp2_with fail
    go_ret2
    exact ⟨none, 0, rfl, Nat.le_refl _, Nat.zero_le _, R.nil, hb1⟩
  · obtain ⟨i0, hi, hz0, hz1, hz2⟩ := info_parts Try.infoId
    obtain ⟨e1, e2⟩ := idsB_of hm
    have hl4 := (bagMay_parts hm).1
    have hof := fun X x V (hX : R cId 0 V X (idsB l)) => clockOf X x (idsB l) V (by rw [idsB_len]; exact hl) hX
    rw [e1, e2] at hof
    rw [hm, okOr_true] at hc
    rw [okOr_true]
    replace hc := hide hc
    replace hof := hide hof
    generalize bIdsL l = L at *
    clear e1 e2 hm
    go_enter Try.func43, Try.ntmps43
    go_wp2_with fail
    refine (hc.out).mono ?_
    rintro e w1 ⟨rfl, hb1⟩
    go_wp2_with fail
    go_loopw [5, 15] (fun v i wr => Bl w wr ∧ ∃ k : Nat, k ≤ l.length ∧ i = .int .i64 k ∧ Own cId 36 w.heap.size wr v (idsB (l.take k))) (fun _ i _ => l.length - (intOf i).toNat)
    case atStart => exact ⟨hb1, 0, Nat.zero_le _, rfl, Own.nil⟩
    case round =>
      obtain ⟨hbl, k, hk, rfl, hown⟩ := hrel
      by_cases hlt : k < l.length
      · have hR := hA.bl hbl
        obtain ⟨b, off, rfl, _, hb⟩ := hR.addr (by omega)
        obtain ⟨x, hx⟩ := get_lt hlt
        obtain ⟨_, ho, S, sc, s1, s2, hS, c0, c1, c2, c3, c4⟩ := hR.op hx
        have hki : (k : Int) < (l.length : Int) := by omega
        have hsn := hide (idsB_snoc hx)
        have hF := idsB_len (l.take k)
        rw [List.length_take] at hF
        generalize idsB (l.take k) = F at *
        have hV : Bl wr (wr.alloc (.cells #[Value.int IntKind.u8 x.kind, Value.int IntKind.u32 x.id.t, Value.int IntKind.u8 x.id.r, Value.slice S x.pl.length sc, Value.int IntKind.i64 x.pt] 68)) := (Bl.refl _).alloc _
        have hsz := hbl.size
        have hown1 := hide (hown.bl (hV.alloc (.cells #[Value.int IntKind.u32 x.id.t, Value.int IntKind.u8 x.id.r] 36)))
        have hsrc := hide (hown.src (t := 36) (cs := [Value.int IntKind.u32 x.id.t, Value.int IntKind.u8 x.id.r]) (x := x.id) hV hsz ⟨ho.2.1, rfl⟩)
        have q1 : F.length + [x.id].length ≤ maxLen := by rw [List.length_singleton]; unfold maxLen; omega
        have q2 : (F.length + [x.id].length) * 8 ≤ 140737488355328 := by rw [List.length_singleton]; omega
        have q3 : w.heap.size ≤ ((wr.alloc (.cells #[Value.int IntKind.u8 x.kind, Value.int IntKind.u32 x.id.t, Value.int IntKind.u8 x.id.r, Value.slice S x.pl.length sc, Value.int IntKind.i64 x.pt] 68)).alloc (.cells #[Value.int IntKind.u32 x.id.t, Value.int IntKind.u8 x.id.r] 36)).heap.size := by simp; omega
        clear hx hown
        go_wp2_with (at_builtin; refine Hid.out ?_)
        refine hide ?_
        refine wpList_append_any2 (C := cId) (xs := F) (ys := [x.id]) rfl (.tmp 19) (.tmp 22) _ rfl 36 i0 _ 8 Try.underlying39 hi hz0 hz1 hz2 rfl u5 w.heap.size rfl hown1.out (some ⟨wr.heap.size + 1, 0, none⟩) 1 1 rfl rfl ?_ q1 q2 q3 ?_
        · have := hsrc.out
          rw [World.size_alloc wr] at this
          exact this
        intro v9 w9 hown9 hg9 hf9
        have hb9 : Bl w w9 := ((hbl.trans hV).alloc _).app hown1.out (Nat.le_refl _) hg9
        clear hown1 hsrc q1 q2 q3 hg9 hf9
        go_wp2_with fail
        go_roundw
        case rel => exact ⟨hb9, k + 1, by omega, by go_num, by rw [hsn.out]; exact hown9⟩
        case measure => simp [intOf]; omega
      · have hkl : k = l.length := by omega
        subst hkl
        rw [List.take_length] at hown
        obtain ⟨X, x, hvx, hX, x1, x2⟩ := hown.reads
        subst hvx
        have hki : ¬ ((l.length : Int) < (l.length : Int)) := by omega
        have kof := hide (hof.out X x wr hX.zero)
        clear hown hX
        go_wp2_with fail
        refine kof.out.mono ?_
        rintro e w2 ⟨Y, y, rfl, y1, y2, hY, hb2⟩
        go_wp2_with fail
        go_ret2
        exact ⟨Y, y, rfl, y1, y2, hY.more hbl.size, hbl.trans hb2⟩

set_option maxRecDepth 100000 in
set_option maxHeartbeats 2000000 in
theorem refStamps11 (A : Option Addr) (c : Nat) (l : List Op) (w : World) (hl : l.length ≤ 1024) (hA : R cOp 0 w A l) :
    Calls Try.prog 107 #[.slice A l.length c] w (New cId (idsB l) w) := by
  obtain ⟨i0, hi, hz0, hz1, hz2⟩ := info_parts Try.infoId
  go_enter Try.func107, Try.ntmps107
  go_wp2_with fail
  go_loopw [3, 4] (fun v i wr => Bl w wr ∧ ∃ k : Nat, k ≤ l.length ∧ i = .int .i64 k ∧ Own cId 36 w.heap.size wr v (idsB (l.take k))) (fun _ i _ => l.length - (intOf i).toNat)
  case atStart => exact ⟨Bl.refl _, 0, Nat.zero_le _, rfl, Own.nil⟩
  case round =>
    obtain ⟨hbl, k, hk, rfl, hown⟩ := hrel
    by_cases hlt : k < l.length
    · have hR := hA.bl hbl
      obtain ⟨b, off, rfl, _, hb⟩ := hR.addr (by omega)
      obtain ⟨x, hx⟩ := get_lt hlt
      obtain ⟨_, ho, S, sc, s1, s2, hS, c0, c1, c2, c3, c4⟩ := hR.op hx
      have hki : (k : Int) < (l.length : Int) := by omega
      have hsn := hide (idsB_snoc hx)
      have hF := idsB_len (l.take k)
      rw [List.length_take] at hF
      generalize idsB (l.take k) = F at *
      have hsz := hbl.size
      have hown1 := hide (hown.bl ((Bl.refl wr).alloc (.cells #[Value.int IntKind.u32 x.id.t, Value.int IntKind.u8 x.id.r] 36)))
      have hsrc := hide (hown.src (t := 36) (cs := [Value.int IntKind.u32 x.id.t, Value.int IntKind.u8 x.id.r]) (x := x.id) (Bl.refl wr) hsz ⟨ho.2.1, rfl⟩)
      have q1 : F.length + [x.id].length ≤ maxLen := by rw [List.length_singleton]; unfold maxLen; omega
      have q2 : (F.length + [x.id].length) * 8 ≤ 140737488355328 := by rw [List.length_singleton]; omega
      have q3 : w.heap.size ≤ (wr.alloc (.cells #[Value.int IntKind.u32 x.id.t, Value.int IntKind.u8 x.id.r] 36)).heap.size := by simp; omega
      clear hx hown
      go_wp2_with (at_builtin; refine Hid.out ?_)
      refine hide ?_
      refine wpList_append_any2 (C := cId) (xs := F) (ys := [x.id]) rfl (.tmp 11) (.tmp 17) _ rfl 36 i0 _ 8 Try.underlying39 hi hz0 hz1 hz2 rfl u3 w.heap.size rfl hown1.out (some ⟨wr.heap.size, 0, none⟩) 1 1 rfl rfl hsrc.out q1 q2 q3 ?_
      intro v9 w9 hown9 hg9 hf9
      have hb9 : Bl w w9 := (hbl.alloc _).app hown1.out (Nat.le_refl _) hg9
      clear hown1 hsrc q1 q2 q3 hg9 hf9
      go_wp2_with fail
      go_roundw
      case rel => exact ⟨hb9, k + 1, by omega, by go_num, by rw [hsn.out]; exact hown9⟩
      case measure => simp [intOf]; omega
    · have hkl : k = l.length := by omega
      subst hkl
      rw [List.take_length] at hown
      obtain ⟨X, x, hvx, hX, x1, x2⟩ := hown.reads
      subst hvx
      have hki : ¬ ((l.length : Int) < (l.length : Int)) := by omega
      clear hown
      go_wp2_with fail
      go_ret
      exact ⟨X, x, rfl, x1, x2, hX, hbl⟩

set_option maxRecDepth 100000 in
set_option maxHeartbeats 1000000 in
theorem refIds11 (A : Option Addr) (c : Nat) (l : List Op) (w : World) (hl : l.length ≤ 1024) (hA : R cOp 0 w A l) :
    Calls Try.prog 44 #[.slice A l.length c] w (New2 cTimes (bIdsL l) (okOr 8 (bagMay l)) w) := by
  have hc := refMay11 A c l w (by unfold maxLen; omega) hA
  cases hm : bagMay l
  · have e1 : bIdsL l = [] := by unfold bIdsL; rw [hm]; rfl
    rw [e1, okOr_false]
    rw [hm] at hc
    replace hc := hide hc
    clear e1 hm
    go_enter Try.func44, Try.ntmps44
    go_wp2_with fail
    refine (hc.out).mono ?_
    rintro e w1 ⟨rfl, hb1⟩
    go_wp2_with fail
    go_ret2
    exact ⟨none, 0, rfl, Nat.le_refl _, Nat.zero_le _, R.nil, hb1⟩
  · have e1 : bIdsL l = ofC (idsB l) := by unfold bIdsL; rw [hm]; rfl
    have hst := hide fun V (hv : Bl w V) => refStamps11 A c l V hl (hA.bl hv)
    have ham := hide fun X x V (hX : R cId 0 V X (idsB l)) => refAmong08 X x (idsB l) V (by rw [idsB_len]; exact hl) (idsB_may hm) hX
    rw [e1, okOr_true]
    rw [hm] at hc
    replace hc := hide hc
    generalize ofC (idsB l) = L at *
    clear e1 hm
    go_enter Try.func44, Try.ntmps44
    go_wp2_with fail
    refine (hc.out).mono ?_
    rintro e w1 ⟨rfl, hb1⟩
    go_wp2_with fail
    refine (hst.out _ hb1).mono ?_
    rintro e w2 ⟨X, x, rfl, x1, x2, hX, hb2⟩
    go_wp2_with fail
    refine (ham.out X x _ hX.zero).mono ?_
    rintro e w3 ⟨Y, y, rfl, y1, y2, hY, hb3⟩
    go_wp2_with fail
    go_ret2
    exact ⟨Y, y, rfl, y1, y2, hY.more (hb1.trans hb2).size, (hb1.trans hb2).trans hb3⟩

theorem refCheck11 (A : Option Addr) (c : Nat) (l : List Op) (w : World) (hl : l.length ≤ maxLen) (hA : R cOp 0 w A l) :
    Calls Try.prog 49 #[.slice A l.length c] w fun e w' => e = .returned (.int .i64 (okOr 8 (bagMay l))) ∧ Bl w w' := by
  have hm := hide (refMay11 A c l w hl hA)
  cases q : bagMay l
  all_goals
    rw [q] at hm
    first | rw [okOr_true] | rw [okOr_false]
    clear q
    go_enter Try.func49, Try.ntmps49
    go_wp2_with fail
    refine (hm.out).mono ?_
    rintro e w1 ⟨rfl, hb1⟩
    go_wp2_with fail
    go_ret
    exact ⟨rfl, hb1⟩

theorem of_is {l : List Op} {s : Id} {x : Op} (h : OfIs l s x) (hm : bagMay l = true) : x = findO l s ∧ hasId l s = findB11 l s := by
  have e : hasId l s = findB11 l s := by unfold findB11; rw [hm, Bool.true_and]
  unfold OfIs at h
  rw [e] at h
  refine ⟨?_, e⟩
  cases hf : findB11 l s
  · rw [hf] at h
    have h : x = zeroOp := h
    rw [h]
    unfold findO
    rw [hf]
    rfl
  · rw [hf, if_pos rfl] at h
    obtain ⟨h1, h2⟩ := find_some11 hf
    exact srt_uniq (bagMay_parts hm).2.1 h.1 h1 (by rw [h.2, h2])

/-- What references hand back that find an operation: it lies where it lay. -/
def OpR (x : Op) (b : Bool) (w : World) (e : Ending) (w' : World) : Prop := ∃ A c, e = .returned (.tuple #[.agg #[.int .u8 x.kind, .int .u32 x.id.t, .int .u8 x.id.r, .slice A x.pl.length c, .int .i64 x.pt], .bool b]) ∧ OpIn w' x A c ∧ Bl w w'

set_option maxRecDepth 100000 in
set_option maxHeartbeats 1000000 in
theorem refFind11 (A : Option Addr) (c : Nat) (l : List Op) (s : Id) (w : World) (hl : l.length ≤ maxLen) (_hs : s.ok) (hA : R cOp 0 w A l) :
    Calls Try.prog 42 #[.slice A l.length c, .agg #[.int .u32 s.t, .int .u8 s.r]] w (OpR (findO l s) (findB11 l s) w) := by
  have hc := fun V (hv : Bl w V) => refMay11 A c l V hl (hA.bl hv)
  obtain ⟨W, hW⟩ : ∃ W, W = (w.alloc (.cells #[Value.int IntKind.u32 s.t, Value.int IntKind.u8 s.r] 36)).alloc (.cells #[Value.int IntKind.u8 0, Value.int IntKind.u32 0, Value.int IntKind.u8 0, Value.slice none 0 0, Value.int IntKind.i64 0] 68) := ⟨_, rfl⟩
  have hbW : Bl w W := by rw [hW]; exact ((Bl.refl _).alloc _).alloc _
  have at0 : IdBox W w.heap.size s := by rw [hW]; exact (IdBox.new w s _).bl ((Bl.refl _).alloc _)
  have at1 : OpBox W (w.heap.size + 1) ⟨0, ⟨0, 0⟩, [], 0⟩ none 0 := by
    rw [hW]
    have := OpBox.new (w.alloc (.cells #[Value.int IntKind.u32 s.t, Value.int IntKind.u8 s.r] 36)) ⟨0, ⟨0, 0⟩, [], 0⟩ none 0 68
    rw [World.size_alloc] at this
    exact this
  have hzok : (⟨0, ⟨0, 0⟩, [], 0⟩ : Op).ok := by unfold Op.ok Id.ok u8ok i64ok; decide
  cases hm : bagMay l
  · have hf : findB11 l s = false := by unfold findB11; rw [hm]; rfl
    have ho : findO l s = ⟨0, ⟨0, 0⟩, [], 0⟩ := by unfold findO; rw [hf]; rfl
    rw [hf, ho]
    rw [hm] at hc
    replace hc := hide hc
    clear hf ho hm
    go_enter Try.func42, Try.ntmps42
    go_wp2_with fail
    rw [← hW]
    clear hW
    refine (hc.out _ hbW).mono ?_
    rintro e w1 ⟨rfl, hb1⟩
    obtain ⟨y0, y1, y2, y3, y4⟩ := (at1.bl hb1).cells
    obtain ⟨f0, f1, f2, f3, f4⟩ := (at1.bl hb1).frozens
    have hyl := (at1.bl hb1).lt
    have hfin := hide (show Bl w (((((w1.setCell ⟨w.heap.size + 1, 0, none⟩ (.int .u8 0)).setCell ⟨w.heap.size + 1, 1, none⟩ (.int .u32 0)).setCell ⟨w.heap.size + 1, 2, none⟩ (.int .u8 0)).setCell ⟨w.heap.size + 1, 3, none⟩ (.slice none 0 0)).setCell ⟨w.heap.size + 1, 4, none⟩ (.int .i64 0)) from
      (((((hbW.trans hb1).setCell (by simp) _).setCell (by simp) _).setCell (by simp) _).setCell (by simp) _).setCell (by simp) _)
    go_wp2_with fail
    refine bodyPost_ret (v := .tuple #[.agg #[.int .u8 0, .int .u32 0, .int .u8 0, .slice none 0 0, .int .i64 0], .bool false]) (by simp [results, Try.results42, go_sem, y0, y1, y2, y3, y4]) rfl ?_
    exact ⟨none, 0, rfl, ⟨hzok, Nat.le_refl _, Nat.zero_le _, R.nil⟩, hfin.out⟩
  · have hof := hide fun V (hv : Bl w V) => refOf11 A c l s V hl (hA.bl hv)
    rw [hm] at hc
    replace hc := hide hc
    have hmh := hide hm
    clear hm
    go_enter Try.func42, Try.ntmps42
    go_wp2_with fail
    rw [← hW]
    clear hW
    refine (hc.out _ hbW).mono ?_
    rintro e w1 ⟨rfl, hb1⟩
    obtain ⟨x0, x1, -, -⟩ := at0.bl hb1
    have hxl := (at0.bl hb1).lt
    go_wp2_with fail
    refine (hof.out _ (hbW.trans hb1)).mono ?_
    rintro e w2 ⟨x, S, d, rfl, hi, hli, hin, hb2⟩
    obtain ⟨e1, e2⟩ := of_is hi hmh.out
    replace e1 := hide e1
    replace e2 := hide e2
    clear hi
    have hlz := hide (show RS cRun w (fun b => b < w.heap.size) S x.pl from by
      have h1 := hli (fun b => b < w.heap.size) (RS.keep hA ((hbW.trans hb1).keeps fun _ h => h.2) fun b h => h.2)
      exact RS.keep h1 (fun b hb => ((hbW.trans hb1).block b hb).symm) fun b h => h)
    clear hli
    have hb12 := hb1.trans hb2
    obtain ⟨y0, y1, y2, y3, y4⟩ := (at1.bl hb12).cells
    obtain ⟨f0, f1, f2, f3, f4⟩ := (at1.bl hb12).frozens
    have hyl := (at1.bl hb12).lt
    have hfin := hide (show Bl w (((((w2.setCell ⟨w.heap.size + 1, 0, none⟩ (.int .u8 x.kind)).setCell ⟨w.heap.size + 1, 1, none⟩ (.int .u32 x.id.t)).setCell ⟨w.heap.size + 1, 2, none⟩ (.int .u8 x.id.r)).setCell ⟨w.heap.size + 1, 3, none⟩ (.slice S x.pl.length d)).setCell ⟨w.heap.size + 1, 4, none⟩ (.int .i64 x.pt)) from
      (((((hbW.trans hb12).setCell (by simp) _).setCell (by simp) _).setCell (by simp) _).setCell (by simp) _).setCell (by simp) _)
    clear x0 x1 hxl
    go_wp2_with fail
    refine bodyPost_ret (v := .tuple #[.agg #[.int .u8 x.kind, .int .u32 x.id.t, .int .u8 x.id.r, .slice S x.pl.length d, .int .i64 x.pt], .bool (hasId l s)]) (by simp [results, Try.results42, go_sem, y0, y1, y2, y3, y4]) rfl ?_
    rw [← e1.out, ← e2.out]
    refine ⟨S, d, rfl, ⟨hin.ok, hin.h1, hin.h2, RS.keep (hlz.out) (hfin.out.keeps fun b hb => hb) fun b hb => ⟨Nat.zero_le _, Nat.lt_of_lt_of_le hb hfin.out.size⟩⟩, hfin.out⟩
end Go.Proofs.Ytkolimhkfiebeaa
