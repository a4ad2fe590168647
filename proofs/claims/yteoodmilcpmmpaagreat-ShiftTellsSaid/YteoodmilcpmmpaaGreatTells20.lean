/-
  Plain: the shelf behind an operation fits the bag with it. The walk of ShiftFits.
  Plain: what an operation does to the entry that a place is in. The walk of ShiftReady.
  The walks of layer 20's references: Fits, Check, whole, blank.
  The walks of layer 20's references: whole, marked.
  The walk of layer 20's reference Turn, over what Behind does.
  Plain: what layer 20's reference answers is what shift answers.
  The walk of layer 20's reference joined (printed by gen_r5.py).
  The walk of layer 20's reference Behind.
  Plain: the shelf that the reference's Behind answers is small.
  The walk of ShiftTells.
-/
import Derived.Test.YteoodmilcpmmpaaGreatShiftT
import Derived.Test.YteoodmilcpmmpaaGreatRef14
import Derived.Test.YteoodmilcpmmpaaGreatWith19
import Derived.StillTailTactics
namespace Go.Proofs.YteoodmilcpmmpaaGreat

open Go.RowKit

theorem memId_iff {l : List Id} {s : Id} : memId l s = true ↔ s ∈ l := by
  unfold memId
  rw [List.any_eq_true]
  constructor
  · rintro ⟨x, hx, e⟩
    rw [decide_eq_true_eq] at e
    rw [← e]; exact hx
  · intro h
    exact ⟨s, h, by simp⟩

theorem fits_iff {l : List Op} {h : List Entry} : fitsB l h = true ↔ bagMay l = true ∧ shelfMay h = true ∧ ∀ x ∈ h, x.id ∈ sectF (livesF l) := by
  unfold fitsB
  rw [Bool.and_eq_true, Bool.and_eq_true, Bool.not_eq_true', List.any_eq_false]
  refine and_congr_right fun _ => and_congr_right fun _ => ⟨fun k x hx => ?_, fun k x hx => ?_⟩
  · have := k x hx
    rw [Bool.not_eq_true', Bool.not_eq_false] at this
    exact memId_iff.1 this
  · rw [Bool.not_eq_true', Bool.not_eq_false]
    exact memId_iff.2 (k x hx)

theorem sect_keep {l : List Op} {o : Op} {s : Id} (h : addN l o = 0) (hno : hasId l o.id = false) (hs : s ∈ sectF (livesF l)) (hk : s = ⟨0, 0⟩ ∨ ¬ (o.kind = 4 ∧ placeFin o.pl = s)) : s ∈ sectF (livesF (addL l o)) := by
  rcases List.mem_cons.1 hs with e | e
  · rw [e]; exact List.mem_cons_self ..
  · obtain ⟨x, hx, e⟩ := List.mem_map.1 e
    rcases hk with hk | hk
    · rw [hk]; exact List.mem_cons_self ..
    · refine List.mem_cons_of_mem _ (List.mem_map.2 ⟨x, (lives_add h hno).2 (.inl ⟨hx, ?_⟩), e⟩)
      rw [e]; exact hk

theorem putEL_may {l : List Entry} {x : Entry} (h : putN l x = 0) : shelfMay (putEL l x) = true := by
  rw [put_with h]
  exact (put_may h).2.2

theorem put_none {l : List Entry} {x : Entry} (h : putN l x ≠ 0) : putEL l x = [] := by unfold putEL; rw [if_neg h]

theorem findE_id {h : List Entry} {s : Id} (k : findB h s = true) : findE h s ∈ h ∧ (findE h s).id = s := by
  unfold findB at k
  rw [Bool.and_eq_true] at k
  unfold findE
  rw [if_pos k.1]
  cases he : entOf h s with
  | none => rw [he] at k; cases k.2
  | some x =>
    obtain ⟨n, hn, hid⟩ := ent_some he
    exact ⟨List.mem_of_getElem? hn, hid⟩

theorem ahead_sect {l : List Op} (m : Id) : aheadS l m ∈ sectF (livesF l) := by
  unfold aheadS
  split
  · cases hg : (sectF (livesF l))[(idxOf (sectF (livesF l)) m).toNat - 1]? with
    | none => exact List.mem_cons_self ..
    | some y => exact List.mem_of_getElem? hg
  · exact List.mem_cons_self ..

theorem ahead_ne {l : List Op} (hb : bagMay l = true) (m : Id) : aheadS l m = ⟨0, 0⟩ ∨ aheadS l m ≠ m := by
  by_cases hw : whereN l m 1 = 0
  · right
    unfold aheadS
    rw [if_pos hw]
    unfold whereN at hw
    rw [hb, if_pos rfl] at hw
    split at hw
    · cases hw
    · rename_i hi
      have hi : 1 ≤ idxOf (sectF (livesF l)) m := by omega
      obtain ⟨n, hn⟩ : ∃ n : Nat, idxOf (sectF (livesF l)) m = ((n + 1 : Nat) : Int) := ⟨(idxOf (sectF (livesF l)) m).toNat - 1, by omega⟩
      have h1 := idxOf_get hn
      rw [hn, Int.toNat_natCast, Nat.add_sub_cancel]
      have hlt : n < (sectF (livesF l)).length := by have := (List.getElem?_eq_some_iff.1 h1).1; omega
      obtain ⟨y, hy⟩ := get_lt hlt
      rw [hy, Option.getD_some]
      intro e
      rw [e] at hy
      have := sect_one hb hy h1
      omega
  · left
    unfold aheadS
    rw [if_neg hw]

end Go.Proofs.YteoodmilcpmmpaaGreat

namespace Go.Proofs.YteoodmilcpmmpaaGreat

open Go.RowKit

theorem ofS_of {l : List Op} {p : List Run} (h : bagMay l = true) (k : plAny p = true) : ofS l p = homeF (livesF l) p := by
  unfold ofS
  rw [h, k]
  rfl

theorem opAny20 {o : Op} (h : opMay o = true) : plAny o.pl = true := by
  unfold opMay at h
  simp only [Bool.and_eq_true] at h
  unfold plAny
  rw [h.1.2, Bool.or_true]

theorem findB_ent {h : List Entry} {s : Id} (k : findB h s = true) : shelfMay h = true ∧ entOf h s = some (findE h s) := by
  unfold findB at k
  rw [Bool.and_eq_true] at k
  refine ⟨k.1, ?_⟩
  unfold findE
  rw [if_pos k.1]
  cases he : entOf h s with
  | none => rw [he] at k; cases k.2
  | some x => rfl

theorem blank_may {x : Entry} (h : entryMay x = true) : entryMay (blankE x) = true := by
  unfold entryMay at h ⊢
  rw [Bool.and_eq_true] at h ⊢
  exact ⟨h.1, rfl⟩

theorem mark_put {l : List Op} {h : List Entry} {o : Op} (hf : findB h (ofS l o.pl) = true) : putN h (markE l h o) = 0 := by
  obtain ⟨hm, he⟩ := findB_ent hf
  obtain ⟨h1, h2⟩ := findE_id hf
  unfold putN
  rw [hm, show entryMay (markE l h o) = true from blank_may (may_entry hm _ h1), if_pos (show (true && true) = true from rfl), ent_at hm, show (markE l h o).id = ofS l o.pl from h2, he]
  rfl

/-- What ShiftReady asks of the two entries. -/
def Rdy (k : Int) (f : Entry) (fb : Bool) (g : Entry) (gb : Bool) : Prop := (g.ready = true → f.ready = true) ∧ (k = 4 ∨ (fb = gb ∧ f.ready = g.ready ∧ f.pin = g.pin))

theorem Rdy.same {k : Int} {h h' : List Entry} {s t : Id} (e : findE h s = findE h' t ∧ findB h s = findB h' t) : Rdy k (findE h s) (findB h s) (findE h' t) (findB h' t) := by
  rw [e.1, e.2]
  exact ⟨id, .inr ⟨rfl, rfl, rfl⟩⟩

end Go.Proofs.YteoodmilcpmmpaaGreat

namespace Go.Proofs.YteoodmilcpmmpaaGreat

open Go.RowKit

theorem idx_mem20 : ∀ {l : List Id} {s : Id}, s ∈ l → 0 ≤ idxOf l s
  | [], s, h => by cases h
  | x :: l, s, h => by
    unfold idxOf
    by_cases e : x = s
    · rw [if_pos e]
      exact Int.le_refl _
    · rcases List.mem_cons.1 h with h | h
      · exact absurd h.symm e
      · have := idx_mem20 h
        rw [if_neg e, if_neg (by omega)]
        omega

theorem where_mem (L : List Op) (s : Id) : (whereF L s < 0 → memId (sectF L) s = false) ∧ (¬ whereF L s < 0 → memId (sectF L) s = true) := by
  unfold whereF memId
  constructor
  · intro h
    rw [List.any_eq_false]
    intro x hx e
    rw [decide_eq_true_eq] at e
    have := idx_mem20 (e ▸ hx)
    omega
  · intro h
    rw [List.any_eq_true]
    exact ⟨s, List.mem_of_getElem? (idx_get (by omega)), by simp⟩

theorem fits_step {L : List Op} {h : List Entry} {k : Nat} {x : Entry} (hx : h[k]? = some x) (hf : ∀ y ∈ h.take k, memId (sectF L) y.id = true) :
    (whereF L x.id < 0 → (h.any fun y => !memId (sectF L) y.id) = true) ∧ (¬ whereF L x.id < 0 → ∀ y ∈ h.take (k + 1), memId (sectF L) y.id = true) := by
  constructor
  · intro q
    rw [List.any_eq_true]
    exact ⟨x, List.mem_of_getElem? hx, by rw [(where_mem L x.id).1 q]; rfl⟩
  · intro q y hy
    rw [take_snoc hx, List.mem_append] at hy
    rcases hy with hy | hy
    · exact hf y hy
    · rw [List.mem_singleton] at hy
      subst hy
      exact (where_mem L y.id).2 q

theorem fits_end {L : List Op} {h : List Entry} {k : Nat} (hk : h.length ≤ k) (hf : ∀ y ∈ h.take k, memId (sectF L) y.id = true) : (h.any fun y => !memId (sectF L) y.id) = false := by
  rw [List.take_of_length_le hk] at hf
  rw [List.any_eq_false]
  intro y hy
  rw [hf y hy]
  decide

set_option maxRecDepth 100000 in
set_option maxHeartbeats 4000000 in
theorem refFits20 (A B : Option Addr) (c d : Nat) (l : List Op) (H : List Entry) (w : World) (hl : l.length ≤ maxLen) (hh : H.length ≤ maxLen) (hA : R cOp 0 w A l) (hB : R cEntry 0 w B H) :
    Calls Tryz.prog 81 #[.slice A l.length c, .slice B H.length d] w fun e w' => e = .returned (.bool (fitsB l H)) ∧ Bl w w' := by
  have hmy := hide (refMay11 A c l w hl hA)
  have hsy := hide fun V (hv : Bl w V) => refMay19 B d H V hh (hB.bl hv)
  obtain ⟨N, hN⟩ : ∃ N, N = fitsB l H := ⟨_, rfl⟩
  rw [← hN]
  unfold fitsB at hN
  cases hm : bagMay l
  · rw [hm] at hmy hN
    clear hm
    replace hN : N = false := hN
    subst hN
    go_enter Tryz.func81, Tryz.ntmps81
    go_wp2_with fail
    refine hmy.out.mono ?_
    rintro e w1 ⟨rfl, hb1⟩
    go_wp2_with fail
    go_ret
    exact ⟨rfl, hb1⟩
  have hli := hide fun V (hv : Bl w V) => refLives12 A c l V (by have := (bagMay_parts hm).1; omega) (fun x hx => bag_places hm x hx) (hA.bl hv)
  rw [hm, Bool.true_and] at hN
  rw [hm] at hmy
  have hLl : (livesF l).length ≤ 1048576 := by have := lives_small hm; omega
  clear hm
  cases hs : shelfMay H
  · rw [hs] at hsy hN
    clear hs
    replace hN : N = false := hN
    subst hN
    go_enter Tryz.func81, Tryz.ntmps81
    go_wp2_with fail
    refine hmy.out.mono ?_
    rintro e w1 ⟨rfl, hb1⟩
    go_wp2_with fail
    refine (hsy.out _ hb1).mono ?_
    rintro e w2 ⟨rfl, hb2⟩
    go_wp2_with fail
    go_ret
    exact ⟨rfl, hb1.trans hb2⟩
  rw [hs] at hsy
  rw [hs, Bool.true_and] at hN
  replace hN := hide hN
  have hh65 : H.length ≤ 65 := (may_from hs).1
  clear hs
  go_enter Tryz.func81, Tryz.ntmps81
  go_wp2_with fail
  refine hmy.out.mono ?_
  rintro e w1 ⟨rfl, hb1⟩
  go_wp2_with fail
  refine (hsy.out _ hb1).mono ?_
  rintro e w2 ⟨rfl, hb2⟩
  have hb12 := hb1.trans hb2
  clear hmy hsy
  go_wp2_with fail
  refine (hli.out _ hb12).mono ?_
  rintro e w3 ⟨X, xc, rfl, -, -, hX, hb3⟩
  have hb13 := hb12.trans hb3
  clear hli
  generalize livesF l = L at *
  go_wp2_with fail
  go_loopw [6] (fun i wr => Bl w3 wr ∧ ∃ k : Nat, k ≤ H.length ∧ i = .int .i64 k ∧ Hid (∀ y ∈ H.take k, memId (sectF L) y.id = true)) (fun i _ => H.length - (intOf i).toNat)
  case atStart => exact ⟨Bl.refl _, 0, Nat.zero_le _, rfl, fun y hy => by simp at hy⟩
  case round =>
    obtain ⟨hbl, k, hk, rfl, hf⟩ := hrel
    have hbw := hb13.trans hbl
    by_cases hlt : k < H.length
    · obtain ⟨b, off, rfl, _, hbb⟩ := hB.addr (by omega)
      obtain ⟨x, hx⟩ := get_lt hlt
      obtain ⟨S, sc, G, gc, hrd, c0, c1, c2, c3, c4, c5, c6, c7⟩ := hB.rdEntry hx
      have hst := fits_step hx hf.out
      clear hx hf
      have C0 := (hbw.cell hbb).trans c0
      have C1 := (hbw.cell hbb).trans c1
      have hbb2 := Nat.lt_of_lt_of_le hbb hbw.size
      have hki : (k : Int) < (H.length : Int) := by omega
      have hwh := hide (refWhere13 X xc L x.id wr hLl (hX.bl hbl))
      obtain ⟨st1, st2⟩ := hst
      generalize whereF L x.id = n at *
      by_cases hn : n < 0
      · have e5 : decide (n < 0) = true := decide_eq_true hn
        have g := hide (hN.out.trans (by rw [st1 hn]; rfl : _ = false))
        replace hn := hide hn
        clear st1 st2 hN
        go_wp2_with fail
        refine hwh.out.mono ?_
        rintro e w4 ⟨rfl, hb4⟩
        go_wp2_with fail
        go_ret
        exact ⟨ret_bool g.out.symm, hbw.trans hb4⟩
      · have e5 : decide (n < 0) = false := decide_eq_false hn
        have g := hide (st2 hn)
        replace hn := hide hn
        clear st1 st2
        go_wp2_with fail
        refine hwh.out.mono ?_
        rintro e w4 ⟨rfl, hb4⟩
        go_wp2_with fail
        go_roundw
        case rel => exact ⟨hbl.trans hb4, k + 1, by omega, by go_num, g.out⟩
        case measure => simp [intOf]; omega
    · have e5 : decide ((k : Int) < (H.length : Int)) = false := decide_eq_false (by omega)
      have g := hide (hN.out.trans (by rw [fits_end (by omega) hf.out]; rfl : _ = true))
      clear hf hN
      go_wp2_with fail
      go_ret
      exact ⟨ret_bool g.out.symm, hbw⟩

set_option maxRecDepth 100000 in
set_option maxHeartbeats 1000000 in
theorem refCheck20 (A B : Option Addr) (c d : Nat) (l : List Op) (H : List Entry) (w : World) (hl : l.length ≤ maxLen) (hh : H.length ≤ maxLen) (hA : R cOp 0 w A l) (hB : R cEntry 0 w B H) :
    Calls Tryz.prog 32 #[.slice A l.length c, .slice B H.length d] w fun e w' => e = .returned (.int .i64 (okOr 8 (fitsB l H))) ∧ Bl w w' := by
  have hf := hide (refFits20 A B c d l H w hl hh hA hB)
  generalize fitsB l H = n at *
  go_enter Tryz.func32, Tryz.ntmps32
  go_wp2_with fail
  refine hf.out.mono ?_
  rintro e w1 ⟨rfl, hb1⟩
  cases n <;> (go_wp2_with fail; go_ret; exact ⟨rfl, hb1⟩)

set_option maxRecDepth 100000 in
set_option maxHeartbeats 1000000 in
theorem refBlank20 (x : Entry) (A B : Option Addr) (c d : Nat) (w : World) :
    Calls Tryz.prog 189 #[.agg #[.int .u32 x.id.t, .int .u8 x.id.r, .bool x.ready, .bool x.pin, .int .i64 x.used, .bool x.known, .slice A x.snap.length c, .slice B x.got.length d]] w fun e w' => e = .returned (.agg #[.int .u32 (blankE x).id.t, .int .u8 (blankE x).id.r, .bool (blankE x).ready, .bool (blankE x).pin, .int .i64 (blankE x).used, .bool (blankE x).known, .slice none (blankE x).snap.length 0, .slice none (blankE x).got.length 0]) ∧ Bl w w' := by
  obtain ⟨W, hW⟩ : ∃ W, W = (w.alloc (.cells #[Value.int IntKind.u32 x.id.t, Value.int IntKind.u8 x.id.r, Value.bool x.ready, Value.bool x.pin, Value.int IntKind.i64 x.used, Value.bool x.known, Value.slice A x.snap.length c, Value.slice B x.got.length d] 62)).alloc (.cells #[.int .u32 0, .int .u8 0, .bool false, .bool false, .int .i64 0, .bool false, .slice none 0 0, .slice none 0 0] 62) := ⟨_, rfl⟩
  have hbW : Bl w W := by rw [hW]; exact ((Bl.refl _).alloc _).alloc _
  have at0 : EntAt W w.heap.size x A c B d := by rw [hW]; exact (EntAt.new w x A c B d _).bl ((Bl.refl _).alloc _)
  have at1 : EntAt W (w.heap.size + 1) zeroE none 0 none 0 := by
    have h := EntAt.new (w.alloc (.cells #[Value.int IntKind.u32 x.id.t, Value.int IntKind.u8 x.id.r, Value.bool x.ready, Value.bool x.pin, Value.int IntKind.i64 x.used, Value.bool x.known, Value.slice A x.snap.length c, Value.slice B x.got.length d] 62)) zeroE none 0 none 0 62
    rw [World.size_alloc w] at h
    rw [hW]
    exact h
  obtain ⟨x0, x1, x2, x3, x4, x5, x6, x7⟩ := at0.cells
  obtain ⟨f0, f1, f2, f3, f4, f5, f6, f7⟩ := at0.frozens
  obtain ⟨y0, y1, y2, y3, y4, y5, y6, y7⟩ := at1.cells
  obtain ⟨g0, g1, g2, g3, g4, g5, g6, g7⟩ := at1.frozens
  have hxl := at0.lt
  have hyl := at1.lt
  go_enter Tryz.func189, Tryz.ntmps189
  go_upto_region 1 with fail
  rw [← hW]
  clear hW
  go_wp2_with fail
  refine bodyPost_ret (v := .agg #[.int .u32 (blankE x).id.t, .int .u8 (blankE x).id.r, .bool (blankE x).ready, .bool (blankE x).pin, .int .i64 (blankE x).used, .bool (blankE x).known, .slice none (blankE x).snap.length 0, .slice none (blankE x).got.length 0]) (by simp [results, Tryz.results189, go_sem, y0, y1, y2, y3, y4, y5, y6, y7, blankE]) rfl ?_
  refine ⟨rfl, ?_⟩
  repeat (refine Bl.setCell ?_ (by simp) _)
  exact hbW

end Go.Proofs.YteoodmilcpmmpaaGreat

namespace Go.Proofs.YteoodmilcpmmpaaGreat

open Go.RowKit

def wholeR (l : List Op) (s : Id) : Bool := decide (((inL l s).length : Int) = ((countL l s).length : Int))

set_option maxRecDepth 100000 in
set_option maxHeartbeats 4000000 in
theorem refWhole20 (A : Option Addr) (c : Nat) (l : List Op) (s : Id) (w : World) (hm : bagMay l = true) (hA : R cOp 0 w A l) :
    Calls Tryz.prog 191 #[.slice A l.length c, .agg #[.int .u32 s.t, .int .u8 s.r]] w fun e w' => e = .returned (.bool (wholeR l s)) ∧ Bl w w' := by
  obtain ⟨W, hW⟩ : ∃ W, W = w.alloc (.cells #[Value.int IntKind.u32 s.t, Value.int IntKind.u8 s.r] 25) := ⟨_, rfl⟩
  have hbW : Bl w W := by rw [hW]; exact (Bl.refl _).alloc _
  have at0 : IdBox W w.heap.size s := by rw [hW]; exact IdBox.new w s _
  have hli := hide (refLives12 A c l W (by have := (bagMay_parts hm).1; omega) (fun x hx => bag_places hm x hx) (hA.bl hbW))
  have hin := hide fun (X : Option Addr) (x : Nat) V (hv : Bl w V) (hX : R cOp 0 V X (livesF l)) => refIn14 A X c x l s V hm (hA.bl hv) hX
  have hcn := hide fun (X : Option Addr) (x : Nat) V (hv : Bl w V) (hX : R cOp 0 V X (livesF l)) => refCounting14 A X c x l s V hm (hA.bl hv) hX
  unfold wholeR
  clear hm
  generalize inL l s = I at *
  generalize countL l s = C at *
  generalize livesF l = L at *
  go_enter Tryz.func191, Tryz.ntmps191
  go_wp2_with fail
  rw [← hW]
  clear hW
  refine hli.out.mono ?_
  rintro e w1 ⟨X, x, rfl, -, -, hX, hb1⟩
  have hbw1 := hbW.trans hb1
  have at1 := at0.bl hb1
  clear hli at0
  go_upto_region 2 with fail
  have zl := at1.lt
  obtain ⟨z0, z1, -, -⟩ := id at1
  go_region_with (first
    | (go_at_call 155; first
        | (refine (hin.out X x _ (hbw1.trans hbb) (hX.bl hbb)).mono ?_; rintro e wa ⟨Ya, ya, rfl, -, -, -, hba0⟩; have hba : Bl w1 wa := hbb.trans hba0; obtain ⟨a0, a1, -, -⟩ := at1.bl hba; have al := (at1.bl hba).lt)
        | (refine (hin.out X x _ (hbw1.trans (Bl.refl w1).drew) (hX.bl (Bl.refl w1).drew)).mono ?_; rintro e wa ⟨Ya, ya, rfl, -, -, -, hba0⟩; have hba : Bl w1 wa := (Bl.refl w1).drew.trans hba0; obtain ⟨a0, a1, -, -⟩ := at1.bl hba; have al := (at1.bl hba).lt))
    | (go_at_call 107; first
        | (refine (hcn.out X x _ (hbw1.trans hba) (hX.bl hba)).mono ?_; rintro e wb ⟨Yb, yb, rfl, -, -, -, hbb0⟩; have hbb : Bl w1 wb := hba.trans hbb0; obtain ⟨b0, b1, -, -⟩ := at1.bl hbb; have bl := (at1.bl hbb).lt)
        | (refine (hcn.out X x _ (hbw1.trans (Bl.refl w1).drew) (hX.bl (Bl.refl w1).drew)).mono ?_; rintro e wb ⟨Yb, yb, rfl, -, -, -, hbb0⟩; have hbb : Bl w1 wb := (Bl.refl w1).drew.trans hbb0; obtain ⟨b0, b1, -, -⟩ := at1.bl hbb; have bl := (at1.bl hbb).lt)))
  all_goals
    go_wp2_with fail
    go_ret
    first | exact ⟨ret_bool (by first | rfl | simp), hbw1.trans hbb⟩ | exact ⟨ret_bool (by first | rfl | simp), hbw1.trans hba⟩

def markR (H : List Entry) (s m : Id) : List Entry := if ofB H s then withL (withL H (blankE (ofE H s))) (named (blankE (ofE H s)) m) else H

theorem with_len1 (l : List Entry) (x : Entry) : (withL l x).length ≤ l.length + l.length + 1 := by
  unfold withL
  have h1 := List.length_filter_le (fun y : Entry => idLess y.id x.id) (outL l x.id)
  have h2 := List.length_filter_le (fun y : Entry => idLess x.id y.id) (outL l x.id)
  have h3 : (outL l x.id).length ≤ l.length := List.length_filter_le _ _
  rw [List.length_append, List.length_cons]
  omega

set_option maxRecDepth 100000 in
set_option maxHeartbeats 4000000 in
theorem refMarked20 (B : Option Addr) (d : Nat) (H : List Entry) (s m : Id) (w : World) (hh : H.length ≤ 100) (hd1 : H.length ≤ d) (hd2 : d ≤ maxLen) (hm : m.ok) (hB : R cEntry 0 w B H) :
    Calls Tryz.prog 139 #[.slice B H.length d, .agg #[.int .u32 s.t, .int .u8 s.r], .agg #[.int .u32 m.t, .int .u8 m.r]] w (NewSh (markR H s m) w) := by
  obtain ⟨W, hW⟩ : ∃ W, W = (w.alloc (.cells #[Value.int IntKind.u32 s.t, Value.int IntKind.u8 s.r] 25)).alloc (.cells #[Value.int IntKind.u32 m.t, Value.int IntKind.u8 m.r] 25) := ⟨_, rfl⟩
  have hbW : Bl w W := by rw [hW]; exact ((Bl.refl _).alloc _).alloc _
  have at0 : IdBox W w.heap.size s := by rw [hW]; exact (IdBox.new w s _).bl ((Bl.refl _).alloc _)
  have at1 : IdBox W (w.heap.size + 1) m := by
    have h := IdBox.new (w.alloc (.cells #[Value.int IntKind.u32 s.t, Value.int IntKind.u8 s.r] 25)) m 25
    rw [World.size_alloc w] at h
    rw [hW]
    exact h
  have hof := hide (refOf19 B d H s W (by omega) (hB.bl hbW))
  have il := at0.lt
  obtain ⟨i0, i1, -, -⟩ := at0
  have hxo : (ofE H s).ok := by
    unfold ofE
    cases he : entOf H s with
    | none => exact zeroE_ok
    | some x =>
      obtain ⟨k, hk, -⟩ := ent_some he
      exact hB.oksE _ (List.mem_of_getElem? hk)
  have hln := with_len1 H (blankE (ofE H s))
  unfold markR
  generalize ofE H s = x at *
  cases hb : ofB H s
  · rw [hb] at hof
    rw [if_neg (by decide)]
    clear hb
    go_enter Tryz.func139, Tryz.ntmps139
    go_upto_region 1 with fail
    rw [← hW]
    clear hW
    go_wp2_with fail
    refine hof.out.mono ?_
    rintro e w1 ⟨XA, xc, XB, xd, rfl, hx, hb1⟩
    go_wp2_with fail
    go_ret
    exact ⟨B, d, rfl, hd1, hd2, hB.bl ((hbW.trans hb1).alloc _), (hbW.trans hb1).alloc _⟩
  · rw [hb] at hof
    rw [if_pos rfl]
    clear hb
    have hbl := hide fun (XA XB : Option Addr) (xc xd : Nat) V => refBlank20 x XA XB xc xd V
    have hw1 := hide fun V (hv : Bl w V) => refWith19 B d H (blankE x) none none 0 0 V (by omega) (hB.bl hv) hxo (blank_held V x)
    have hw2 := hide fun (X : Option Addr) (xc : Nat) V (hX : R cEntry 0 V X (withL H (blankE x))) => refWith19 X xc (withL H (blankE x)) (named (blankE x) m) none none 0 0 V (by omega) hX ⟨hm, hxo.2⟩ ⟨Nat.le_refl _, Nat.zero_le _, Nat.le_refl _, Nat.zero_le _, R.nil, R.nil⟩
    clear hln hxo
    generalize withL H (blankE x) = H1 at *
    generalize withL H1 (named (blankE x) m) = H2 at *
    go_enter Tryz.func139, Tryz.ntmps139
    go_upto_region 1 with fail
    rw [← hW]
    clear hW
    go_wp2_with fail
    refine hof.out.mono ?_
    rintro e w1 ⟨XA, xc, XB, xd, rfl, hx, hb1⟩
    obtain ⟨V1, hV1⟩ : ∃ V1, V1 = w1.alloc (.cells #[Value.int IntKind.u32 x.id.t, Value.int IntKind.u8 x.id.r, Value.bool x.ready, Value.bool x.pin, Value.int IntKind.i64 x.used, Value.bool x.known, Value.slice XA x.snap.length xc, Value.slice XB x.got.length xd] 62) := ⟨_, rfl⟩
    have e1 : EntAt V1 w1.heap.size x XA xc XB xd := by rw [hV1]; exact EntAt.new w1 x XA xc XB xd _
    have hb1V : Bl w1 V1 := by rw [hV1]; exact (Bl.refl _).alloc _
    have hbW1 := hb1.trans hb1V
    obtain ⟨x0, x1, x2, x3, x4, x5, x6, x7⟩ := e1.cells
    have xl := e1.lt
    have hYW : w.heap.size + 1 < w1.heap.size := Nat.lt_of_lt_of_le at1.lt hb1.size
    clear i0 i1 il hof hx
    go_upto_region 2 with fail
    rw [← hV1]
    clear hV1
    go_wp2_with fail
    refine (hbl.out XA XB xc xd _).mono ?_
    rintro e w2 ⟨rfl, hb2⟩
    have e2 := e1.bl hb2
    obtain ⟨V2, hV2⟩ : ∃ V2, V2 = set8 w2 w1.heap.size (blankE x) none 0 none 0 := ⟨_, rfl⟩
    have e3 : EntAt V2 w1.heap.size (blankE x) none 0 none 0 := by rw [hV2]; exact set8_at e2 _ _ _ _ _
    have hb2V : Bl w1 V2 := by rw [hV2]; exact set8_bl (hb1V.trans hb2) (Nat.le_refl _) _ _ _ _ _
    clear x0 x1 x2 x3 x4 x5 x6 x7
    obtain ⟨x0, x1, x2, x3, x4, x5, x6, x7⟩ := e2.cells
    obtain ⟨f0, f1, f2, f3, f4, f5, f6, f7⟩ := e2.frozens
    have xl2 := e2.lt
    go_upto_region 5 with fail
    unfold set8 at hV2
    rw [← hV2]
    clear hV2 x0 x1 x2 x3 x4 x5 x6 x7 f0 f1 f2 f3 f4 f5 f6 f7 xl2 xl e1 e2
    obtain ⟨x0, x1, x2, x3, x4, x5, x6, x7⟩ := e3.cells
    have xl := e3.lt
    obtain ⟨V3, hV3⟩ : ∃ V3, V3 = V2.alloc (.cells #[Value.int IntKind.u32 (blankE x).id.t, Value.int IntKind.u8 (blankE x).id.r, Value.bool (blankE x).ready, Value.bool (blankE x).pin, Value.int IntKind.i64 (blankE x).used, Value.bool (blankE x).known, Value.slice none (blankE x).snap.length 0, Value.slice none (blankE x).got.length 0] 62) := ⟨_, rfl⟩
    have y3 : EntAt V3 V2.heap.size (blankE x) none 0 none 0 := by rw [hV3]; exact EntAt.new V2 (blankE x) none 0 none 0 _
    have hb3 : Bl V2 V3 := by rw [hV3]; exact (Bl.refl _).alloc _
    go_upto_region 6 with fail
    rw [← hV3]
    clear hV3 x0 x1 x2 x3 x4 x5 x6 x7
    have hWV3 := hb1.trans (hb2V.trans hb3)
    obtain ⟨i0, i1, -, -⟩ := at1.bl hWV3
    have il := (at1.bl hWV3).lt
    obtain ⟨y0, y1, y2, y3', y4', y5, y6, y7⟩ := y3.cells
    obtain ⟨g0, g1, g2, g3, g4, g5, g6, g7⟩ := y3.frozens
    have yl := y3.lt
    obtain ⟨V4, hV4⟩ : ∃ V4, V4 = (V3.setCell ⟨V2.heap.size, 0, none⟩ (.int .u32 m.t)).setCell ⟨V2.heap.size, 1, none⟩ (.int .u8 m.r) := ⟨_, rfl⟩
    have y4 : EntAt V4 V2.heap.size (named (blankE x) m) none 0 none 0 := by rw [hV4]; exact ent_id y3 m
    have hne : V2.heap.size ≠ w1.heap.size := by omega
    have e4 : EntAt V4 w1.heap.size (blankE x) none 0 none 0 := by rw [hV4]; exact ((e3.bl hb3).other hne _).other hne _
    have hb4 : Bl w1 V4 := by rw [hV4]; exact ((hb2V.trans hb3).setCell (p := ⟨V2.heap.size, 0, none⟩) (Nat.le_of_lt xl) _).setCell (p := ⟨V2.heap.size, 1, none⟩) (Nat.le_of_lt xl) _
    have hbw4 := hbW.trans (hb1.trans hb4)
    go_upto_region 7 with fail
    rw [← hV4]
    clear hV4 y0 y1 y2 y3' y4' y5 y6 y7 g0 g1 g2 g3 g4 g5 g6 g7 i0 i1 il yl xl y3 e3 hb3 hb2V
    obtain ⟨x0, x1, x2, x3, x4, x5, x6, x7⟩ := e4.cells
    have xl := e4.lt
    obtain ⟨y0, y1, y2, y3, y4', y5, y6, y7⟩ := y4.cells
    have yl := y4.lt
    go_region_with (go_at_call 190; first
      | (refine (hw2.out Xa xa _ hXa).mono ?_; rintro e wb ⟨Xb, xb, rfl, r1, r2, hXb, hbb⟩)
      | (refine (hw1.out _ (hbw4.trans (Bl.refl V4).drew)).mono ?_; rintro e wa ⟨Xa, xa, rfl, -, -, hXa, hba0⟩; have hba : Bl V4 wa := (Bl.refl V4).drew.trans hba0; clear hba0; obtain ⟨u0, u1, u2, u3, u4, u5, u6, u7⟩ := (y4.bl hba).cells; have ul := (y4.bl hba).lt))
    all_goals
      go_wp2_with fail
      go_ret
      exact ⟨Xb, xb, rfl, r1, r2, hXb, hbw4.trans (hba.trans hbb)⟩

end Go.Proofs.YteoodmilcpmmpaaGreat

namespace Go.Proofs.YteoodmilcpmmpaaGreat

open Go.RowKit

/-- The reference's error: F is the shelf that Behind answers. -/
def refTN (l : List Op) (H : List Entry) (o : Op) (F : List Entry) : Int := if fitsB l H && (opMay o && !contentO o) then (if 1024 ≤ l.length ∧ hasId l o.id = false then 9 else if 65 < F.length then 9 else 0) else 8

def refTL (l : List Op) (H : List Entry) (o : Op) (F : List Entry) : List Entry := if refTN l H o F = 0 then F else []

set_option maxRecDepth 100000 in
set_option maxHeartbeats 4000000 in
theorem refTurn20 (A B S : Option Addr) (c d sc : Nat) (l : List Op) (H F : List Entry) (o : Op) (w : World) (hl : l.length ≤ maxLen) (hh : H.length ≤ maxLen) (hF : smallS F) (hA : R cOp 0 w A l) (hB : R cEntry 0 w B H) (ho : OpIn w o S sc)
    (hbe : fitsB l H = true → opMay o = true → contentO o = false → (1024 ≤ l.length → hasId l o.id = true) → ∀ V, Bl w V → Calls Tryz.prog 85 #[.slice A l.length c, .slice B H.length d, .agg #[.int .u8 o.kind, .int .u32 o.id.t, .int .u8 o.id.r, .slice S o.pl.length sc, .int .i64 o.pt]] V (NewSh F V)) :
    Calls Tryz.prog 30 #[.slice A l.length c, .slice B H.length d, .agg #[.int .u8 o.kind, .int .u32 o.id.t, .int .u8 o.id.r, .slice S o.pl.length sc, .int .i64 o.pt]] w (New2 cEntry (refTL l H o F) (refTN l H o F) w) := by
  obtain ⟨W, hW⟩ : ∃ W, W = w.alloc (.cells #[Value.int IntKind.u8 o.kind, Value.int IntKind.u32 o.id.t, Value.int IntKind.u8 o.id.r, Value.slice S o.pl.length sc, Value.int IntKind.i64 o.pt] 47) := ⟨_, rfl⟩
  have hbW : Bl w W := by rw [hW]; exact (Bl.refl _).alloc _
  have at0 : OpBox W w.heap.size o S sc := by rw [hW]; exact OpBox.new w o S sc _
  have hfi := hide (refFits20 A B c d l H W hl hh (hA.bl hbW) (hB.bl hbW))
  have hmy := hide fun V (hv : Bl w V) => refMay09 o S sc V (ho.bl hv)
  have hco := hide fun V => refContent09 o S sc V
  have hha := hide fun V (hv : Bl w V) => refHas11 A c l o.id V hl (hA.bl hv)
  have htw := hide fun X x V (hX : R cEntry 0 V X F) => refTwin19 X x F V hF hX
  replace hbe := hide hbe
  obtain ⟨N, hN⟩ : ∃ N, N = refTN l H o F := ⟨_, rfl⟩
  obtain ⟨L, hL⟩ : ∃ L, L = refTL l H o F := ⟨_, rfl⟩
  rw [← hN, ← hL]
  unfold refTL at hL
  rw [← hN] at hL
  unfold refTN at hN
  obtain ⟨x0, x1, x2, x3, x4⟩ := at0.cells
  have xl := at0.lt
  generalize fitsB l H = b1 at *
  generalize opMay o = b2 at *
  generalize contentO o = b3 at *
  generalize hasId l o.id = b4 at *
  cases b1
  · replace hN : N = 8 := hN
    subst hN
    replace hL : L = [] := hL
    subst hL
    clear hbe hmy hco hha htw
    go_enter Tryz.func30, Tryz.ntmps30
    go_wp2_with fail
    rw [← hW]
    clear hW
    refine hfi.out.mono ?_
    rintro e w1 ⟨rfl, hb1⟩
    go_wp2_with fail
    go_ret2
    exact ⟨none, 0, rfl, Nat.le_refl _, Nat.zero_le _, R.nil, hbW.trans hb1⟩
  cases b2
  · replace hN : N = 8 := hN
    subst hN
    replace hL : L = [] := hL
    subst hL
    clear hbe hco hha htw
    go_enter Tryz.func30, Tryz.ntmps30
    go_wp2_with fail
    rw [← hW]
    clear hW
    refine hfi.out.mono ?_
    rintro e w1 ⟨rfl, hb1⟩
    have hbw1 := hbW.trans hb1
    clear x0 x1 x2 x3 x4 xl
    obtain ⟨x0, x1, x2, x3, x4⟩ := (at0.bl hb1).cells
    have xl := (at0.bl hb1).lt
    go_wp2_with fail
    refine (hmy.out _ hbw1).mono ?_
    rintro e w2 ⟨rfl, hb2⟩
    go_wp2_with fail
    go_ret2
    exact ⟨none, 0, rfl, Nat.le_refl _, Nat.zero_le _, R.nil, hbw1.trans hb2⟩
  cases b3
  rotate_left
  · replace hN : N = 8 := hN
    subst hN
    replace hL : L = [] := hL
    subst hL
    clear hbe hha htw
    go_enter Tryz.func30, Tryz.ntmps30
    go_wp2_with fail
    rw [← hW]
    clear hW
    refine hfi.out.mono ?_
    rintro e w1 ⟨rfl, hb1⟩
    have hbw1 := hbW.trans hb1
    clear x0 x1 x2 x3 x4 xl
    obtain ⟨x0, x1, x2, x3, x4⟩ := (at0.bl hb1).cells
    have xl := (at0.bl hb1).lt
    go_wp2_with fail
    refine (hmy.out _ hbw1).mono ?_
    rintro e w2 ⟨rfl, hb2⟩
    clear x0 x1 x2 x3 x4 xl
    obtain ⟨x0, x1, x2, x3, x4⟩ := (at0.bl (hb1.trans hb2)).cells
    have xl := (at0.bl (hb1.trans hb2)).lt
    go_wp2_with fail
    refine (hco.out _).mono ?_
    rintro e w3 ⟨rfl, hb3⟩
    go_wp2_with fail
    go_ret2
    exact ⟨none, 0, rfl, Nat.le_refl _, Nat.zero_le _, R.nil, hbw1.trans (hb2.trans hb3)⟩
  rw [if_pos (show (true && (true && !false)) = true from rfl)] at hN
  by_cases h4 : 1024 ≤ l.length ∧ b4 = false
  · rw [if_pos h4] at hN
    subst hN
    rw [if_neg (by decide)] at hL
    subst hL
    obtain ⟨h4, rfl⟩ := h4
    have e5 : decide ((1024 : Int) ≤ (l.length : Int)) = true := decide_eq_true (by omega)
    clear hbe htw
    go_enter Tryz.func30, Tryz.ntmps30
    go_wp2_with fail
    rw [← hW]
    clear hW
    refine hfi.out.mono ?_
    rintro e w1 ⟨rfl, hb1⟩
    have hbw1 := hbW.trans hb1
    clear x0 x1 x2 x3 x4 xl
    obtain ⟨x0, x1, x2, x3, x4⟩ := (at0.bl hb1).cells
    have xl := (at0.bl hb1).lt
    go_wp2_with fail
    refine (hmy.out _ hbw1).mono ?_
    rintro e w2 ⟨rfl, hb2⟩
    clear x0 x1 x2 x3 x4 xl
    obtain ⟨x0, x1, x2, x3, x4⟩ := (at0.bl (hb1.trans hb2)).cells
    have xl := (at0.bl (hb1.trans hb2)).lt
    go_wp2_with fail
    refine (hco.out _).mono ?_
    rintro e w3 ⟨rfl, hb3⟩
    have hbW3 := hb1.trans (hb2.trans hb3)
    clear x0 x1 x2 x3 x4 xl
    obtain ⟨x0, x1, x2, x3, x4⟩ := (at0.bl hbW3).cells
    have xl := (at0.bl hbW3).lt
    go_wp2_with fail
    refine (hha.out _ (hbW.trans hbW3)).mono ?_
    rintro e w4 ⟨rfl, hb4⟩
    go_wp2_with fail
    go_ret2
    exact ⟨none, 0, rfl, Nat.le_refl _, Nat.zero_le _, R.nil, hbW.trans (hbW3.trans hb4)⟩
  rw [if_neg h4] at hN
  replace hbe := hide (hbe.out rfl rfl rfl (fun q => by
    rcases Bool.eq_false_or_eq_true b4 with e | e
    · exact e
    · exact absurd ⟨q, e⟩ h4))
  replace hN := hide hN
  replace hL := hide hL
  by_cases hge : 1024 ≤ l.length
  · have h4 : b4 = true := by cases b4 <;> simp_all
    subst h4
    clear h4
    have e5 : decide ((1024 : Int) ≤ (l.length : Int)) = true := decide_eq_true (by omega)
    replace hge := hide hge
    go_enter Tryz.func30, Tryz.ntmps30
    go_wp2_with fail
    rw [← hW]
    clear hW
    refine hfi.out.mono ?_
    rintro e w1 ⟨rfl, hb1⟩
    have hbw1 := hbW.trans hb1
    clear x0 x1 x2 x3 x4 xl
    obtain ⟨x0, x1, x2, x3, x4⟩ := (at0.bl hb1).cells
    have xl := (at0.bl hb1).lt
    go_wp2_with fail
    refine (hmy.out _ hbw1).mono ?_
    rintro e w2 ⟨rfl, hb2⟩
    clear x0 x1 x2 x3 x4 xl
    obtain ⟨x0, x1, x2, x3, x4⟩ := (at0.bl (hb1.trans hb2)).cells
    have xl := (at0.bl (hb1.trans hb2)).lt
    go_wp2_with fail
    refine (hco.out _).mono ?_
    rintro e w3 ⟨rfl, hb3⟩
    have hbW3 := hb1.trans (hb2.trans hb3)
    clear x0 x1 x2 x3 x4 xl
    obtain ⟨x0, x1, x2, x3, x4⟩ := (at0.bl hbW3).cells
    have xl := (at0.bl hbW3).lt
    go_wp2_with fail
    refine (hha.out _ (hbW.trans hbW3)).mono ?_
    rintro e w4 ⟨rfl, hb4⟩
    have hbW4 := hbW3.trans hb4
    have hbw4 := hbW.trans hbW4
    clear x0 x1 x2 x3 x4 xl
    obtain ⟨x0, x1, x2, x3, x4⟩ := (at0.bl hbW4).cells
    have xl := (at0.bl hbW4).lt
    go_wp2_with fail
    refine (hbe.out _ hbw4).mono ?_
    rintro e w5 ⟨X, x, rfl, -, -, hX, hb5⟩
    replace hN := hN.out
    replace hL := hL.out
    clear x0 x1 x2 x3 x4 xl
    by_cases h65 : 65 < F.length
    · rw [if_pos h65] at hN
      subst hN
      rw [if_neg (by decide)] at hL
      subst hL
      have e6 : decide ((65 : Int) < (F.length : Int)) = true := decide_eq_true (by omega)
      replace h65 := hide h65
      clear htw
      go_wp2_with fail
      go_ret2
      exact ⟨none, 0, rfl, Nat.le_refl _, Nat.zero_le _, R.nil, hbw4.trans hb5⟩
    · rw [if_neg h65] at hN
      subst hN
      rw [if_pos rfl] at hL
      replace hL := hide hL
      have e6 : decide ((65 : Int) < (F.length : Int)) = false := decide_eq_false (by omega)
      replace h65 := hide h65
      go_wp2_with fail
      refine (htw.out X x _ hX).mono ?_
      rintro e w6 ⟨Y, y, rfl, y1, y2, hY, hb6⟩
      go_wp2_with fail
      go_ret2
      rw [hL.out]
      exact ⟨Y, y, rfl, y1, y2, hY.more (hbw4.trans hb5).size, hbw4.trans (hb5.trans hb6)⟩
  · clear h4 hha
    have e5 : decide ((1024 : Int) ≤ (l.length : Int)) = false := decide_eq_false (by omega)
    replace hge := hide hge
    go_enter Tryz.func30, Tryz.ntmps30
    go_wp2_with fail
    rw [← hW]
    clear hW
    refine hfi.out.mono ?_
    rintro e w1 ⟨rfl, hb1⟩
    have hbw1 := hbW.trans hb1
    clear x0 x1 x2 x3 x4 xl
    obtain ⟨x0, x1, x2, x3, x4⟩ := (at0.bl hb1).cells
    have xl := (at0.bl hb1).lt
    go_wp2_with fail
    refine (hmy.out _ hbw1).mono ?_
    rintro e w2 ⟨rfl, hb2⟩
    clear x0 x1 x2 x3 x4 xl
    obtain ⟨x0, x1, x2, x3, x4⟩ := (at0.bl (hb1.trans hb2)).cells
    have xl := (at0.bl (hb1.trans hb2)).lt
    go_wp2_with fail
    refine (hco.out _).mono ?_
    rintro e w3 ⟨rfl, hb3⟩
    have hbW3 := hb1.trans (hb2.trans hb3)
    clear x0 x1 x2 x3 x4 xl
    obtain ⟨x0, x1, x2, x3, x4⟩ := (at0.bl hbW3).cells
    have xl := (at0.bl hbW3).lt
    go_wp2_with fail
    have hbw3 := hbW.trans hbW3
    refine (hbe.out _ hbw3).mono ?_
    rintro e w5 ⟨X, x, rfl, -, -, hX, hb5⟩
    replace hN := hN.out
    replace hL := hL.out
    clear x0 x1 x2 x3 x4 xl
    by_cases h65 : 65 < F.length
    · rw [if_pos h65] at hN
      subst hN
      rw [if_neg (by decide)] at hL
      subst hL
      have e6 : decide ((65 : Int) < (F.length : Int)) = true := decide_eq_true (by omega)
      replace h65 := hide h65
      clear htw
      go_wp2_with fail
      go_ret2
      exact ⟨none, 0, rfl, Nat.le_refl _, Nat.zero_le _, R.nil, hbw3.trans hb5⟩
    · rw [if_neg h65] at hN
      subst hN
      rw [if_pos rfl] at hL
      replace hL := hide hL
      have e6 : decide ((65 : Int) < (F.length : Int)) = false := decide_eq_false (by omega)
      replace h65 := hide h65
      go_wp2_with fail
      refine (htw.out X x _ hX).mono ?_
      rintro e w6 ⟨Y, y, rfl, y1, y2, hY, hb6⟩
      go_wp2_with fail
      go_ret2
      rw [hL.out]
      exact ⟨Y, y, rfl, y1, y2, hY.more (hbw3.trans hb5).size, hbw3.trans (hb5.trans hb6)⟩

end Go.Proofs.YteoodmilcpmmpaaGreat

namespace Go.Proofs.YteoodmilcpmmpaaGreat

open Go.RowKit

theorem of_find {H : List Entry} {s : Id} (hm : shelfMay H = true) : ofE H s = findE H s ∧ ofB H s = findB H s := by
  unfold findE findB ofE ofB
  rw [hm]
  exact ⟨rfl, rfl⟩

theorem put_tells {l : List Entry} {x : Entry} (hm : shelfMay l = true) (hx : entryMay x = true) : putN l x = (if 65 < (withL l x).length then 9 else 0) ∧ putEL l x = (if 65 < (withL l x).length then [] else withL l x) := by
  have h := @put_n l x
  rw [hm, hx, if_pos (show (true && true) = true from rfl)] at h
  refine ⟨h, ?_⟩
  by_cases c : 65 < (withL l x).length
  · rw [if_pos c] at h ⊢
    exact put_none (by rw [h]; decide)
  · rw [if_neg c] at h ⊢
    exact put_with h

theorem opMay_id20 {o : Op} (h : opMay o = true) : idMay o.id = true := by
  unfold opMay at h
  simp only [Bool.and_eq_true] at h
  first | exact h.1.1.2 | exact h.1.1

theorem mark_tells {l : List Op} {H : List Entry} {o : Op} (hf : fitsB l H = true) (ho : opMay o = true) :
    markN l H o = (if 65 < (markR H (homeF (livesF l) o.pl) o.id).length then 9 else 0) ∧ markL l H o = (if 65 < (markR H (homeF (livesF l) o.pl) o.id).length then [] else markR H (homeF (livesF l) o.pl) o.id) := by
  obtain ⟨f1, f2, -⟩ := fits_iff.1 hf
  have eq := ofS_of f1 (opAny20 ho)
  unfold markR markN markL
  rw [← eq, (of_find f2).1, (of_find f2).2]
  cases hb : findB H (ofS l o.pl)
  · have h65 := (may_from f2).1
    simp only [Bool.false_eq_true, if_false]
    rw [if_neg (by omega), if_neg (by omega)]
    exact ⟨rfl, rfl⟩
  · have hp := mark_put hb
    have hM : entryMay (markE l H o) = true := blank_may (may_entry f2 _ (findE_id hb).1)
    have hx : entryMay (named (markE l H o) o.id) = true := by
      unfold entryMay entryHead at hM ⊢
      simp only [Bool.and_eq_true] at hM ⊢
      exact ⟨⟨⟨by rw [show (named (markE l H o) o.id).id = o.id from rfl, opMay_id20 ho, Bool.or_true], hM.1.1.2⟩, hM.1.2⟩, rfl⟩
    have t := put_tells (putEL_may hp) hx
    rw [put_with hp] at t
    rw [if_pos rfl, if_pos rfl, if_pos rfl, put_with hp]
    exact t

/-- The entry that the reference puts behind a join; wr: does all count? -/
def joinZR (wr : Bool) (H : List Entry) (a m : Id) : Entry := ⟨a, ofB H a && (ofB H m && ((ofE H a).ready && ((ofE H m).ready && wr))), (ofE H a).pin || (ofE H m).pin, max (ofE H a).used (ofE H m).used, false, [], []⟩

def joinR (wr : Bool) (H : List Entry) (a m : Id) : List Entry := if ofB H a || ofB H m then withL (outL H m) (joinZR wr H a m) else H

theorem out_id {H : List Entry} {m : Id} (k : ofB H m = false) : outL H m = H := by
  unfold outL
  rw [List.filter_eq_self]
  intro x hx
  have he : entOf H m = none := by
    unfold ofB at k
    cases he : entOf H m with
    | none => rfl
    | some x => rw [he] at k; cases k
  have := ent_none he x hx
  simpa using this

theorem used_may {H : List Entry} (hm : shelfMay H = true) (s : Id) : 0 ≤ (ofE H s).used ∧ (ofE H s).used ≤ 1099511627776 := by
  unfold ofE
  cases he : entOf H s with
  | none => unfold zeroE; decide
  | some x =>
    obtain ⟨n, hn, -⟩ := ent_some he
    have h := may_entry hm x (List.mem_of_getElem? hn)
    unfold entryMay entryHead at h
    simp only [Bool.and_eq_true, decide_eq_true_eq] at h
    exact ⟨h.1.1.2, h.1.2⟩

theorem join_tells {l : List Op} {H : List Entry} {o : Op} (hf : fitsB l H = true) (ha : addN l o = 0) (hk : aheadS l (placeFin o.pl) = ⟨0, 0⟩ ∨ idMay (aheadS l (placeFin o.pl)) = true) :
    joinEN l H o = (if 65 < (joinR (wholeB (addL l o) (aheadS l (placeFin o.pl))) H (aheadS l (placeFin o.pl)) (placeFin o.pl)).length then 9 else 0) ∧
    joinEL l H o = (if 65 < (joinR (wholeB (addL l o) (aheadS l (placeFin o.pl))) H (aheadS l (placeFin o.pl)) (placeFin o.pl)).length then [] else joinR (wholeB (addL l o) (aheadS l (placeFin o.pl))) H (aheadS l (placeFin o.pl)) (placeFin o.pl)) := by
  obtain ⟨f1, f2, -⟩ := fits_iff.1 hf
  have hz : joinZ l H o = joinZR (wholeB (addL l o) (aheadS l (placeFin o.pl))) H (aheadS l (placeFin o.pl)) (placeFin o.pl) := by
    unfold joinZ joinZR
    rw [(of_find f2).1, (of_find f2).2, (of_find f2).1, (of_find f2).2]
  have hs : someB l H o = (ofB H (aheadS l (placeFin o.pl)) || ofB H (placeFin o.pl)) := by
    unfold someB
    rw [(of_find f2).2, (of_find f2).2]
  have hj : joinH H o = outL H (placeFin o.pl) := by
    unfold joinH
    rw [← (of_find f2).2]
    cases hb : ofB H (placeFin o.pl)
    · rw [if_neg (by decide), out_id hb]
    · rw [if_pos rfl]
      refine drop_out ?_
      unfold dropN
      rw [f2, if_pos rfl, ent_at f2]
      unfold ofB at hb
      rw [hb]
      rfl
  unfold joinEN joinEL joinR
  rw [hs, if_pos ha, if_pos ha, hj, hz]
  cases hb : (ofB H (aheadS l (placeFin o.pl)) || ofB H (placeFin o.pl))
  · have h65 := (may_from f2).1
    simp only [Bool.false_eq_true, if_false]
    rw [if_neg (by omega), if_neg (by omega)]
    exact ⟨rfl, rfl⟩
  · simp only [if_true]
    refine put_tells ?_ ?_
    · exact may_of (Nat.le_trans (List.length_filter_le _ _) (may_from f2).1) (fun y hy => may_entry f2 y (out_entry hy)) (List.Pairwise.filter _ (may_sorted f2))
    · have u1 := used_may f2 (aheadS l (placeFin o.pl))
      have u2 := used_may f2 (placeFin o.pl)
      unfold entryMay entryHead
      simp only [Bool.and_eq_true, decide_eq_true_eq]
      refine ⟨⟨⟨?_, ?_⟩, ?_⟩, rfl⟩
      · rcases hk with hk | hk
        · rw [show (joinZR (wholeB (addL l o) (aheadS l (placeFin o.pl))) H (aheadS l (placeFin o.pl)) (placeFin o.pl)).id = ⟨0, 0⟩ from hk, neqId_self]
          rfl
        · rw [show idMay (joinZR (wholeB (addL l o) (aheadS l (placeFin o.pl))) H (aheadS l (placeFin o.pl)) (placeFin o.pl)).id = true from hk, Bool.or_true]
      · show 0 ≤ max _ _
        omega
      · show max _ _ ≤ _
        omega

/-- The shelf that the reference's Behind answers. -/
def behR (wr : Bool) (l : List Op) (H : List Entry) (o : Op) : List Entry :=
  if hasId l o.id then H
  else if o.kind = 2 then (if endedF l o.id then H else markR H (homeF (livesF l) o.pl) o.id)
  else if whereF (livesF l) (placeFin o.pl) < 1 then H
  else joinR wr H (aheadS l (placeFin o.pl)) (placeFin o.pl)

theorem opMay_pl20 {o : Op} (h : opMay o = true) : placeMay o.pl = true := by
  unfold opMay at h
  simp only [Bool.and_eq_true] at h
  exact h.1.2

theorem fin_nz {p : List Run} (h : placeMay p = true) : placeFin p ≠ ⟨0, 0⟩ := by
  obtain ⟨x, hx, e, -⟩ := placeFin_of h
  obtain ⟨-, -, h2, -⟩ := placeMay_parts h
  have h3 := runsFrom_all p _ _ h2 x (List.mem_of_getElem? hx)
  unfold runOne idMay at h3
  simp only [Bool.and_eq_true, decide_eq_true_eq] at h3
  rw [e]
  intro q
  injection q with q1 _
  omega

theorem ahead_may {l : List Op} (hb : bagMay l = true) (m : Id) : aheadS l m = ⟨0, 0⟩ ∨ idMay (aheadS l m) = true := by
  rcases List.mem_cons.1 (ahead_sect (l := l) m) with e | e
  · exact .inl e
  · obtain ⟨x, hx, e⟩ := List.mem_map.1 e
    right
    rw [← e]
    exact opMay_id20 ((bagMay_parts hb).2.2 x ((lives_mem hb).1 hx).1)

theorem add_zero20 {l : List Op} {o : Op} (hb : bagMay l = true) (ho : opMay o = true) (hl : l.length < 1024) : addN l o = 0 := by
  unfold addN
  rw [hb, ho, if_pos (show (true && true) = true from rfl)]
  split
  · rfl
  · rw [if_neg (by omega)]

theorem kind_two {o : Op} (ho : opMay o = true) (hc : contentO o = false) : o.kind = 2 ∨ o.kind = 4 := by
  unfold opMay at ho
  simp only [Bool.and_eq_true, decide_eq_true_eq] at ho
  unfold contentO at hc
  rw [Bool.or_eq_false_iff, decide_eq_false_iff_not, decide_eq_false_iff_not] at hc
  have h1 := ho.1.1.1.1
  have h2 := ho.1.1.1.2
  omega

/-- Where it is no news that it can be added: the document's bag is the program's. -/
theorem whole_tells {l : List Op} {o : Op} (ha : addN l o = 0) (hno : hasId l o.id = false) : wholeB (addL l o) (aheadS l (placeFin o.pl)) = wholeR (withB l o) (aheadS l (placeFin o.pl)) ∧ bagMay (withB l o) = true := by
  have hb : bagMay l = true := (addN_parts ha).1
  have he : withB l o = addL l o := by
    obtain ⟨e1, e2⟩ := rAdd_eq l o
    rw [← e2]
    unfold rAddL
    rw [if_pos (e1.trans ha)]
  have hs : aheadS l (placeFin o.pl) ∈ sectF (livesF (addL l o)) := by
    refine sect_keep ha hno (ahead_sect _) ?_
    rcases ahead_ne hb (placeFin o.pl) with e | e
    · exact .inl e
    · exact .inr fun q => e q.2.symm
  have hi := idx_mem20 hs
  have hw : whereN (addL l o) (aheadS l (placeFin o.pl)) 0 = 0 := by
    unfold whereN
    rw [addL_may ha, if_pos rfl, if_neg (by omega)]
  rw [he]
  refine ⟨?_, addL_may ha⟩
  unfold wholeB wholeR homL cntL
  rw [if_pos hw, if_pos hw]
  exact decide_eq_decide.2 (by omega)

theorem turn_tells (l : List Op) (H : List Entry) (o : Op) :
    turnN l H o = refTN l H o (behR (wholeB (addL l o) (aheadS l (placeFin o.pl))) l H o) ∧ turnL l H o = refTL l H o (behR (wholeB (addL l o) (aheadS l (placeFin o.pl))) l H o) := by
  cases hf : fitsB l H
  · have e : turnK l H o = 0 := by unfold turnK; rw [hf]; rfl
    have n : refTN l H o (behR (wholeB (addL l o) (aheadS l (placeFin o.pl))) l H o) = 8 := by unfold refTN; rw [hf]; rfl
    unfold turnN turnL refTL
    rw [e, n]
    exact ⟨rfl, rfl⟩
  cases ho : opMay o
  · have e : turnK l H o = 0 := by unfold turnK; rw [hf, ho]; rfl
    have n : refTN l H o (behR (wholeB (addL l o) (aheadS l (placeFin o.pl))) l H o) = 8 := by unfold refTN; rw [hf, ho]; rfl
    unfold turnN turnL refTL
    rw [e, n]
    exact ⟨rfl, rfl⟩
  obtain ⟨f1, f2, f3⟩ := fits_iff.1 hf
  have h65 := (may_from f2).1
  cases hc : contentO o
  rotate_left
  · have e : turnK l H o = 0 := by unfold turnK; rw [hf, ho, hc]; rfl
    have n : refTN l H o (behR (wholeB (addL l o) (aheadS l (placeFin o.pl))) l H o) = 8 := by unfold refTN; rw [hf, ho, hc]; rfl
    unfold turnN turnL refTL
    rw [e, n]
    exact ⟨rfl, rfl⟩
  have n : refTN l H o (behR (wholeB (addL l o) (aheadS l (placeFin o.pl))) l H o) = if 1024 ≤ l.length ∧ hasId l o.id = false then 9 else if 65 < (behR (wholeB (addL l o) (aheadS l (placeFin o.pl))) l H o).length then 9 else 0 := by unfold refTN; rw [hf, ho, hc]; rfl
  have stay : ∀ {F : List Entry}, F = H → turnK l H o = 1 → (¬ (1024 ≤ l.length ∧ hasId l o.id = false)) → behR (wholeB (addL l o) (aheadS l (placeFin o.pl))) l H o = F → turnN l H o = refTN l H o (behR (wholeB (addL l o) (aheadS l (placeFin o.pl))) l H o) ∧ turnL l H o = refTL l H o (behR (wholeB (addL l o) (aheadS l (placeFin o.pl))) l H o) := by
    intro F hF hK hnb hB
    rw [if_neg hnb, hB, hF, if_neg (by omega)] at n
    unfold turnN turnL refTL
    rw [hB, hF, n, hK]
    exact ⟨rfl, rfl⟩
  have hbl := (bagMay_parts f1).1
  have hK : turnK l H o = if hasId l o.id then 1 else if l.length = 1024 then 2
      else if o.kind = 2 then (if endedF l o.id then 1 else 3)
      else if o.kind = 4 then (if memId (sectF (livesF l)) (placeFin o.pl) then 4 else 1) else 1 := by unfold turnK; rw [hf, ho, hc]; rfl
  cases hi : hasId l o.id
  rotate_left
  · refine stay rfl (by rw [hK, hi]; rfl) (fun q => by rw [hi] at q; cases q.2) ?_
    unfold behR
    rw [hi]; rfl
  by_cases hfull : l.length = 1024
  · rw [hi, if_neg (by decide), if_pos hfull] at hK
    rw [if_pos ⟨by omega, hi⟩] at n
    unfold turnN turnL refTL
    rw [hK, n]
    exact ⟨rfl, rfl⟩
  have hnb : ¬ (1024 ≤ l.length ∧ hasId l o.id = false) := fun q => by omega
  have ha := add_zero20 f1 ho (by omega)
  rw [hi, if_neg (by decide), if_neg hfull] at hK
  rcases kind_two ho hc with k2 | k4
  · rw [if_pos k2] at hK
    cases he : endedF l o.id
    rotate_left
    · refine stay rfl (by rw [hK, he]; rfl) hnb ?_
      unfold behR
      rw [hi, if_neg (by decide), if_pos k2, he]; rfl
    · rw [he, if_neg (by decide)] at hK
      have hB : behR (wholeB (addL l o) (aheadS l (placeFin o.pl))) l H o = markR H (homeF (livesF l) o.pl) o.id := by
        unfold behR
        rw [hi, if_neg (by decide), if_pos k2, he]; rfl
      obtain ⟨t1, t2⟩ := mark_tells hf ho
      rw [if_neg hnb, hB] at n
      unfold turnN turnL refTL
      rw [hB, n, hK]
      show markN l H o = _ ∧ markL l H o = _
      rw [t1, t2]
      refine ⟨rfl, ?_⟩
      by_cases c : 65 < (markR H (homeF (livesF l) o.pl) o.id).length
      · rw [if_pos c, if_pos c]; rfl
      · rw [if_neg c, if_neg c]; rfl
  · rw [if_neg (by omega), if_pos k4] at hK
    have hne : placeFin o.pl ≠ ⟨0, 0⟩ := fin_nz (opMay_pl20 ho)
    have hw1 : whereF (livesF l) (placeFin o.pl) ≠ 0 := fun q => by
      have g := idxOf_get (n := 0) (show idxOf (sectF (livesF l)) (placeFin o.pl) = ((0 : Nat) : Int) from q)
      unfold sectF at g
      rw [List.getElem?_cons_zero] at g
      injection g with g
      exact hne g.symm
    by_cases hw : whereF (livesF l) (placeFin o.pl) < 1
    · have hm : memId (sectF (livesF l)) (placeFin o.pl) = false := (where_mem (livesF l) (placeFin o.pl)).1 (by omega)
      refine stay rfl (by rw [hK, hm]; rfl) hnb ?_
      unfold behR
      rw [hi, if_neg (by decide), if_neg (by omega), if_pos hw]
    · have hm : memId (sectF (livesF l)) (placeFin o.pl) = true := (where_mem (livesF l) (placeFin o.pl)).2 (by omega)
      rw [hm, if_pos rfl] at hK
      have hB : behR (wholeB (addL l o) (aheadS l (placeFin o.pl))) l H o = joinR (wholeB (addL l o) (aheadS l (placeFin o.pl))) H (aheadS l (placeFin o.pl)) (placeFin o.pl) := by
        unfold behR
        rw [hi, if_neg (by decide), if_neg (by omega), if_neg hw]
      obtain ⟨t1, t2⟩ := join_tells hf ha (ahead_may f1 _)
      rw [if_neg hnb, hB] at n
      unfold turnN turnL refTL
      rw [hB, n, hK]
      show joinEN l H o = _ ∧ joinEL l H o = _
      rw [t1, t2]
      refine ⟨rfl, ?_⟩
      by_cases c : 65 < (joinR (wholeB (addL l o) (aheadS l (placeFin o.pl))) H (aheadS l (placeFin o.pl)) (placeFin o.pl)).length
      · rw [if_pos c, if_pos c]; rfl
      · rw [if_neg c, if_neg c]; rfl

end Go.Proofs.YteoodmilcpmmpaaGreat

namespace Go.Proofs.YteoodmilcpmmpaaGreat

open Go.RowKit

theorem ofE_ok {w : World} {B : Option Addr} {H : List Entry} (hB : R cEntry 0 w B H) (s : Id) : (ofE H s).ok := by
  unfold ofE
  cases he : entOf H s with
  | none => exact zeroE_ok
  | some x =>
    obtain ⟨k, hk, -⟩ := ent_some he
    exact hB.oksE _ (List.mem_of_getElem? hk)

/-- The operations that are taken, in this order: p: it yields without the memory, u: it is not wanted, l: it loads. -/
inductive Tk
  | p
  | u
  | l

def Todo (_ : List (Nat × Tk)) (p : Prop) : Prop := p

theorem todo_start {p : Prop} (t : List (Nat × Tk)) (h : Todo t p) : p := h

theorem todo_end {p : Prop} (h : p) : Todo [] p := h

section

variable {P : Program} {ops : Array Oper} {Q : Exit → Act → World → Prop} {md : Region.Mode} {F : World → Prop} {n : Nat} {L : List (Nat × (World → Prop))} {i : Nat} {t : List (Nat × Tk)} {oi : Oper} {v : Value} {fuel : Nat} {listed : Array Bool} {a : Act} {w : World}

def bitsT (md : Region.Mode) (ops : Array Oper) (L : List (Nat × (World → Prop))) (listed : Array Bool) (i : Nat) : Bool := Region.noSelect ops && Region.free md ops listed i && (Region.ready md ops listed).contains i && outT L i

theorem todo_p (hi : ops[i]? = some oi) (hb : bitsT md ops L listed i = true) (hQ : ∀ c a w, Q (.panic c) (a.put oi.dst v) w → Q (.panic c) a w) (hy : YieldsIf P ops (fun _ => True) oi v a) (hF : HoldT L listed w)
    (h : Todo t (wpAnyT P md ops Q L fuel (listed.setIfInBounds i true) (a.put oi.dst v) w)) : Todo ((i, .p) :: t) (wpAnyT P md ops Q L (fuel + 1) listed a w) := by
  unfold bitsT at hb
  simp only [Bool.and_eq_true] at hb
  exact wpAnyT_pure hi hb.1.1.1 hb.1.1.2 hb.1.2 hb.2 hQ hy hF h

theorem todo_u (hi : ops[i]? = some oi) (hb : bitsT md ops L listed i = true) (hQ : ∀ c a w, Q (.panic c) (a.put oi.dst v) w → Q (.panic c) a w) (hy : YieldsIf P ops (fun _ => True) oi v a) (hF : HoldT L listed w)
    (h : Todo t (wpAnyT P md ops Q L fuel (listed.setIfInBounds i true) (a.put oi.dst v) w)) : Todo ((i, .u) :: t) (wpAnyT P md ops Q L (fuel + 1) listed a w) :=
  todo_p (t := t) hi hb hQ hy hF h

theorem todo_l (hmem : (n, F) ∈ L) (hi : ops[i]? = some oi) (hb : (bitsT md ops L listed i && waitsIn md ops i 4 n && !(listed.getD n true) && closedB md ops listed) = true) (hQ : ∀ c a w, Q (.panic c) (a.put oi.dst v) w → Q (.panic c) a w) (hy : YieldsIf P ops F oi v a) (hF : HoldT L listed w)
    (h : Todo t (wpAnyT P md ops Q L fuel (listed.setIfInBounds i true) (a.put oi.dst v) w)) : Todo ((i, .l) :: t) (wpAnyT P md ops Q L (fuel + 1) listed a w) := by
  unfold bitsT at hb
  simp only [Bool.and_eq_true] at hb
  refine wpAnyT_take hmem hi hb.1.1.1.1.1.1 hb.1.1.1.1.1.2 hb.1.1.1.1.2 ?_ hQ hy hF h
  rw [hb.1.1.2, hb.1.1.1.2, hb.1.2, hb.2]
  rfl

end

theorem ok_max {s : Id} {x y : Entry} {a b k : Bool} (hs : s.ok) (hx : x.ok) (hy : y.ok) : (Entry.mk s a b (max x.used y.used) k [] []).ok := by
  refine ⟨hs, ?_⟩
  obtain ⟨u1, u2⟩ := hx.2
  obtain ⟨u3, u4⟩ := hy.2
  unfold i64ok
  dsimp only
  omega

set_option maxRecDepth 100000 in
set_option maxHeartbeats 4000000 in
theorem refJoined20FF (A B : Option Addr) (c d : Nat) (l2 : List Op) (H : List Entry) (s m : Id) (wr : Bool) (w : World) (hh : H.length ≤ 100) (hd1 : H.length ≤ d) (hd2 : d ≤ maxLen) (_hs : s.ok) (hB : R cEntry 0 w B H)
    (_hwh : ∀ V, Bl w V → Calls Tryz.prog 191 #[.slice A l2.length c, .agg #[.int .u32 s.t, .int .u8 s.r]] V fun e w' => e = .returned (.bool wr) ∧ Bl V w') (his : ofB H s = false) (hwas : ofB H m = false) :
    Calls Tryz.prog 141 #[.slice A l2.length c, .slice B H.length d, .agg #[.int .u32 s.t, .int .u8 s.r], .agg #[.int .u32 m.t, .int .u8 m.r]] w (NewSh (joinR wr H s m) w) := by
  obtain ⟨W, hW⟩ : ∃ W, W = (w.alloc (.cells #[Value.int IntKind.u32 s.t, Value.int IntKind.u8 s.r] 25)).alloc (.cells #[Value.int IntKind.u32 m.t, Value.int IntKind.u8 m.r] 25) := ⟨_, rfl⟩
  have hbW : Bl w W := by rw [hW]; exact ((Bl.refl _).alloc _).alloc _
  have at0 : IdBox W w.heap.size s := by rw [hW]; exact (IdBox.new w s _).bl ((Bl.refl _).alloc _)
  have at1 : IdBox W (w.heap.size + 1) m := by
    have h := IdBox.new (w.alloc (.cells #[Value.int IntKind.u32 s.t, Value.int IntKind.u8 s.r] 25)) m 25
    rw [World.size_alloc w] at h
    rw [hW]
    exact h
  have ho1 := hide (refOf19 B d H s W (by omega) (hB.bl hbW))
  have ho2 := hide fun V (hv : Bl w V) => refOf19 B d H m V (by omega) (hB.bl hv)
  have hxo := ofE_ok hB s
  have hyo := ofE_ok hB m
  obtain ⟨J, hJ⟩ : ∃ J, J = joinR wr H s m := ⟨_, rfl⟩
  rw [← hJ]
  unfold joinR joinZR at hJ
  rw [his, hwas] at hJ
  replace ho1 := ho1.out
  rw [his] at ho1
  replace ho1 := hide ho1
  rw [hwas] at ho2
  generalize ofE H s = x at *
  generalize ofE H m = y at *
  clear his hwas
  replace hJ := hide hJ
  have il := at0.lt
  obtain ⟨i0, i1, -, -⟩ := id at0
  go_enter Tryz.func141, Tryz.ntmps141
  go_upto_region 1 with fail
  rw [← hW]
  clear hW
  go_wp2_with fail
  refine ho1.out.mono ?_
  rintro e w1 ⟨XA, xc, XB, xd, rfl, -, hb1⟩
  obtain ⟨V1, hV1⟩ : ∃ V1, V1 = w1.alloc (.cells #[Value.int IntKind.u32 x.id.t, Value.int IntKind.u8 x.id.r, Value.bool x.ready, Value.bool x.pin, Value.int IntKind.i64 x.used, Value.bool x.known, Value.slice XA x.snap.length xc, Value.slice XB x.got.length xd] 62) := ⟨_, rfl⟩
  have e1 : EntAt V1 w1.heap.size x XA xc XB xd := by rw [hV1]; exact EntAt.new w1 x XA xc XB xd _
  have hb1V : Bl w1 V1 := by rw [hV1]; exact (Bl.refl _).alloc _
  have hbW1 := hb1.trans hb1V
  clear i0 i1 il ho1
  obtain ⟨i0, i1, -, -⟩ := at1.bl hbW1
  have il := (at1.bl hbW1).lt
  go_upto_region 2 with fail
  rw [← hV1]
  clear hV1
  go_wp2_with fail
  refine (ho2.out _ (hbW.trans hbW1)).mono ?_
  rintro e w2 ⟨YA, yc, YB, yd, rfl, -, hb2⟩
  obtain ⟨V2, hV2⟩ : ∃ V2, V2 = w2.alloc (.cells #[Value.int IntKind.u32 y.id.t, Value.int IntKind.u8 y.id.r, Value.bool y.ready, Value.bool y.pin, Value.int IntKind.i64 y.used, Value.bool y.known, Value.slice YA y.snap.length yc, Value.slice YB y.got.length yd] 62) := ⟨_, rfl⟩
  have e2 : EntAt V2 w2.heap.size y YA yc YB yd := by rw [hV2]; exact EntAt.new w2 y YA yc YB yd _
  have hb2V : Bl w2 V2 := by rw [hV2]; exact (Bl.refl _).alloc _
  have hbW2 := hbW1.trans (hb2.trans hb2V)
  clear i0 i1 il ho2
  go_upto_region 3 with fail
  rw [← hV2]
  clear hV2
  have hJ : J = H := hJ.out
  go_wp2_with fail
  go_ret
  rw [hJ]
  exact ⟨B, d, rfl, hd1, hd2, hB.bl (hbW.trans hbW2), hbW.trans hbW2⟩

set_option maxRecDepth 100000 in
set_option maxHeartbeats 4000000 in
theorem refJoined20FT (A B : Option Addr) (c d : Nat) (l2 : List Op) (H : List Entry) (s m : Id) (wr : Bool) (w : World) (hh : H.length ≤ 100) (_hd1 : H.length ≤ d) (_hd2 : d ≤ maxLen) (hs : s.ok) (hB : R cEntry 0 w B H)
    (_hwh : ∀ V, Bl w V → Calls Tryz.prog 191 #[.slice A l2.length c, .agg #[.int .u32 s.t, .int .u8 s.r]] V fun e w' => e = .returned (.bool wr) ∧ Bl V w') (his : ofB H s = false) (hwas : ofB H m = true) :
    Calls Tryz.prog 141 #[.slice A l2.length c, .slice B H.length d, .agg #[.int .u32 s.t, .int .u8 s.r], .agg #[.int .u32 m.t, .int .u8 m.r]] w (NewSh (joinR wr H s m) w) := by
  obtain ⟨W, hW⟩ : ∃ W, W = (w.alloc (.cells #[Value.int IntKind.u32 s.t, Value.int IntKind.u8 s.r] 25)).alloc (.cells #[Value.int IntKind.u32 m.t, Value.int IntKind.u8 m.r] 25) := ⟨_, rfl⟩
  have hbW : Bl w W := by rw [hW]; exact ((Bl.refl _).alloc _).alloc _
  have at0 : IdBox W w.heap.size s := by rw [hW]; exact (IdBox.new w s _).bl ((Bl.refl _).alloc _)
  have at1 : IdBox W (w.heap.size + 1) m := by
    have h := IdBox.new (w.alloc (.cells #[Value.int IntKind.u32 s.t, Value.int IntKind.u8 s.r] 25)) m 25
    rw [World.size_alloc w] at h
    rw [hW]
    exact h
  have ho1 := hide (refOf19 B d H s W (by omega) (hB.bl hbW))
  have ho2 := hide fun V (hv : Bl w V) => refOf19 B d H m V (by omega) (hB.bl hv)
  have hxo := ofE_ok hB s
  have hyo := ofE_ok hB m
  obtain ⟨J, hJ⟩ : ∃ J, J = joinR wr H s m := ⟨_, rfl⟩
  rw [← hJ]
  unfold joinR joinZR at hJ
  rw [his, hwas] at hJ
  replace ho1 := ho1.out
  rw [his] at ho1
  replace ho1 := hide ho1
  rw [hwas] at ho2
  generalize ofE H s = x at *
  generalize ofE H m = y at *
  clear his hwas
  replace hJ := hide hJ
  have il := at0.lt
  obtain ⟨i0, i1, -, -⟩ := id at0
  go_enter Tryz.func141, Tryz.ntmps141
  go_upto_region 1 with fail
  rw [← hW]
  clear hW
  go_wp2_with fail
  refine ho1.out.mono ?_
  rintro e w1 ⟨XA, xc, XB, xd, rfl, -, hb1⟩
  obtain ⟨V1, hV1⟩ : ∃ V1, V1 = w1.alloc (.cells #[Value.int IntKind.u32 x.id.t, Value.int IntKind.u8 x.id.r, Value.bool x.ready, Value.bool x.pin, Value.int IntKind.i64 x.used, Value.bool x.known, Value.slice XA x.snap.length xc, Value.slice XB x.got.length xd] 62) := ⟨_, rfl⟩
  have e1 : EntAt V1 w1.heap.size x XA xc XB xd := by rw [hV1]; exact EntAt.new w1 x XA xc XB xd _
  have hb1V : Bl w1 V1 := by rw [hV1]; exact (Bl.refl _).alloc _
  have hbW1 := hb1.trans hb1V
  clear i0 i1 il ho1
  obtain ⟨i0, i1, -, -⟩ := at1.bl hbW1
  have il := (at1.bl hbW1).lt
  go_upto_region 2 with fail
  rw [← hV1]
  clear hV1
  go_wp2_with fail
  refine (ho2.out _ (hbW.trans hbW1)).mono ?_
  rintro e w2 ⟨YA, yc, YB, yd, rfl, -, hb2⟩
  obtain ⟨V2, hV2⟩ : ∃ V2, V2 = w2.alloc (.cells #[Value.int IntKind.u32 y.id.t, Value.int IntKind.u8 y.id.r, Value.bool y.ready, Value.bool y.pin, Value.int IntKind.i64 y.used, Value.bool y.known, Value.slice YA y.snap.length yc, Value.slice YB y.got.length yd] 62) := ⟨_, rfl⟩
  have e2 : EntAt V2 w2.heap.size y YA yc YB yd := by rw [hV2]; exact EntAt.new w2 y YA yc YB yd _
  have hb2V : Bl w2 V2 := by rw [hV2]; exact (Bl.refl _).alloc _
  have hbW2 := hbW1.trans (hb2.trans hb2V)
  clear i0 i1 il ho2
  go_upto_region 3 with fail
  rw [← hV2]
  clear hV2
  have hwo := hide fun V (hv : Bl w V) => refWithout19 B d H m V (by omega) (hB.bl hv)
  have hoL : (outL H m).length ≤ 100 := Nat.le_trans (List.length_filter_le _ _) hh
  have hwi := hide fun Z (X : Option Addr) (xc : Nat) V (hX : R cEntry 0 V X (outL H m)) (hzo : Z.ok) (hzh : Held V Z none 0 none 0) => refWith19 X xc (outL H m) Z none none 0 0 V (by omega) hX hzo hzh
  clear hoL
  obtain ⟨i0, i1, -, -⟩ := at0.bl hbW2
  have il := (at0.bl hbW2).lt
  obtain ⟨j0, j1, -, -⟩ := at1.bl hbW2
  have jl := (at1.bl hbW2).lt
  obtain ⟨x0, x1, x2, x3, x4, x5, x6, x7⟩ := (e1.bl (hb2.trans hb2V)).cells
  have xl := (e1.bl (hb2.trans hb2V)).lt
  obtain ⟨y0, y1, y2, y3, y4, y5, y6, y7⟩ := e2.cells
  have yl := e2.lt
  go_upto_region 5 with fail
  obtain ⟨px, hpx⟩ : ∃ px, px = x.pin := ⟨_, rfl⟩
  have hGA : ∀ (V : World) (px : Bool), Bl V2 V → px = x.pin → W6F w.heap.size w1.heap.size w2.heap.size s x.ready px x.used y.ready y.pin y.used V := fun V px hb hpx => by
    rw [hpx]; exact ⟨(hb.cell il).trans i0, (hb.cell il).trans i1, (hb.cell xl).trans x2, (hb.cell xl).trans x3, (hb.cell xl).trans x4, (hb.cell yl).trans y2, (hb.cell yl).trans y3, (hb.cell yl).trans y4⟩
  have hF : ∀ listed, HoldT [(31, W6F w.heap.size w1.heap.size w2.heap.size s x.ready px x.used y.ready y.pin y.used)] listed V2.drew := fun listed q hq hc => by rw [List.mem_singleton] at hq; subst hq; exact hGA _ _ (Bl.refl V2).drew hpx
  replace hGA := hide hGA
  clear i0 i1 il j0 j1 jl x0 x1 x2 x3 x4 x5 x6 x7 xl y0 y1 y2 y3 y4 y5 y6 y7 yl
  replace hpx := hide hpx
  refine wp_region_tail [(31, W6F w.heap.size w1.heap.size w2.heap.size s x.ready px x.used y.ready y.pin y.used)] (by kernel_rfl) ?_
  try (change wpAnyT _ _ _ _ _ _ _ _ (World.drew _))
  cases px
  · refine todo_start [(0, .l), (1, .p), (2, .p), (3, .u), (4, .p), (5, .p), (6, .u), (7, .u), (8, .p), (9, .p), (10, .u), (11, .u), (12, .p), (13, .p), (14, .u), (15, .u), (16, .u), (17, .p), (18, .p), (19, .l), (20, .p), (21, .p), (22, .l), (23, .p), (24, .p), (25, .l), (26, .p), (27, .l), (28, .p), (29, .p)] ?_
    repeat (first
      | refine todo_p (v := ?_) rfl (by kernel_rfl) (fun _ _ _ h => h) (Or.inl ⟨by kernel_rfl, by intro w _; go_simp; try with_reducible rfl⟩) (hF _) ?_
      | refine todo_u (v := undef) rfl (by kernel_rfl) (fun _ _ _ h => h) (Or.inr ⟨by kernel_rfl, rfl⟩) (hF _) ?_
      | refine todo_l (v := ?_) (List.mem_cons_self ..) rfl (by kernel_rfl) (fun _ _ _ h => h) (Or.inl ⟨by kernel_rfl, by rintro w ⟨g0, g1, g2, g3, g4, g5, g6, g7⟩; go_simp; try with_reducible rfl⟩) (hF _) ?_)
    refine todo_end ?_
    refine wpAnyT_ready (rs := [30]) (by kernel_rfl) (by simp) ?_
    refine AllReadyT.cons rfl (fun K hK => ?_) AllReadyT.nil
    go_simp
    refine hK _ _ ⟨fun q hq _ => by rw [List.mem_singleton] at hq; subst hq; exact hGA.out _ _ ((Bl.refl V2).drew.alloc _) hpx.out, ?_⟩
    clear hK K
    refine wpAnyT_ready (rs := [31]) (by kernel_rfl) (by simp) ?_
    refine AllReadyT.cons rfl (fun K hK => ?_) AllReadyT.nil
    go_simp
    refine hK _ _ ⟨HoldT.none (by kernel_rfl), ?_⟩
    clear hK K
    refine wpAnyT_done (by kernel_rfl) ?_ _
    obtain ⟨Z, hZ⟩ : ∃ Z : Entry, Z = ⟨s, false, y.pin, max x.used y.used, false, [], []⟩ := ⟨_, rfl⟩
    have hJ : J = withL (outL H m) Z := by rw [hZ]; exact hJ.out.trans (by rw [← hpx.out]; rfl)
    have hzo : Z.ok := by rw [hZ]; exact ok_max hs hxo hyo
    have hzh := hide fun V : World => (show Held V Z none 0 none 0 by rw [hZ]; exact ⟨Nat.le_refl _, Nat.zero_le _, Nat.le_refl _, Nat.zero_le _, R.nil, R.nil⟩)
    obtain ⟨V3, hV3⟩ : ∃ V3, V3 = (V2.alloc (.cells #[Value.int IntKind.u32 Z.id.t, Value.int IntKind.u8 Z.id.r, Value.bool Z.ready, Value.bool Z.pin, Value.int IntKind.i64 Z.used, Value.bool Z.known, Value.slice none Z.snap.length 0, Value.slice none Z.got.length 0] 62)).drew := ⟨_, rfl⟩
    have e3 : EntAt V3 V2.heap.size Z none 0 none 0 := by rw [hV3]; exact EntAt.new V2 Z none 0 none 0 _
    have hb3 : Bl V2 V3 := by rw [hV3]; exact ((Bl.refl _).alloc _).drew
    rw [hZ] at hV3
    simp only [List.length_nil] at hV3
    clear hF hGA hpx hZ
    go_wp2_with fail
    go_upto_region 6 with fail
    rw [← hV3]
    clear hV3
    have hW3 := hbW2.trans hb3
    have hbw3 := hbW.trans hW3
    obtain ⟨j0, j1, -, -⟩ := at1.bl hW3
    have jl := (at1.bl hW3).lt
    obtain ⟨z0, z1, z2, z3, z4, z5, z6, z7⟩ := e3.cells
    have zl := e3.lt
    go_region_with (first
      | (go_at_call 190; refine (hwi.out Z Xa xa _ hXa hzo (hzh.out _)).mono ?_; rintro e wb ⟨Xb, xb, rfl, r1, r2, hXb, hbb⟩)
      | (go_at_call 192; refine (hwo.out _ (hbw3.trans (Bl.refl V3).drew)).mono ?_; rintro e wa ⟨Xa, xa, rfl, -, -, hXa, hba0⟩; have hba : Bl V3 wa := (Bl.refl V3).drew.trans hba0; clear hba0; obtain ⟨u0, u1, u2, u3, u4, u5, u6, u7⟩ := (e3.bl hba).cells; have ul := (e3.bl hba).lt))
    all_goals
      go_wp2_with fail
      go_ret
      rw [hJ]
      exact ⟨Xb, xb, rfl, r1, r2, hXb, hbw3.trans (hba.trans hbb)⟩
  · refine todo_start [(0, .l), (1, .p), (2, .p), (3, .u), (4, .p), (5, .p), (6, .u), (7, .u), (8, .p), (9, .p), (10, .u), (11, .u), (12, .p), (13, .p), (14, .u), (15, .u), (16, .u), (17, .p), (18, .p), (19, .l), (20, .p), (21, .u), (22, .u), (23, .p), (24, .p), (25, .l), (26, .p), (27, .l), (28, .p), (29, .p)] ?_
    repeat (first
      | refine todo_p (v := ?_) rfl (by kernel_rfl) (fun _ _ _ h => h) (Or.inl ⟨by kernel_rfl, by intro w _; go_simp; try with_reducible rfl⟩) (hF _) ?_
      | refine todo_u (v := undef) rfl (by kernel_rfl) (fun _ _ _ h => h) (Or.inr ⟨by kernel_rfl, rfl⟩) (hF _) ?_
      | refine todo_l (v := ?_) (List.mem_cons_self ..) rfl (by kernel_rfl) (fun _ _ _ h => h) (Or.inl ⟨by kernel_rfl, by rintro w ⟨g0, g1, g2, g3, g4, g5, g6, g7⟩; go_simp; try with_reducible rfl⟩) (hF _) ?_)
    refine todo_end ?_
    refine wpAnyT_ready (rs := [30]) (by kernel_rfl) (by simp) ?_
    refine AllReadyT.cons rfl (fun K hK => ?_) AllReadyT.nil
    go_simp
    refine hK _ _ ⟨fun q hq _ => by rw [List.mem_singleton] at hq; subst hq; exact hGA.out _ _ ((Bl.refl V2).drew.alloc _) hpx.out, ?_⟩
    clear hK K
    refine wpAnyT_ready (rs := [31]) (by kernel_rfl) (by simp) ?_
    refine AllReadyT.cons rfl (fun K hK => ?_) AllReadyT.nil
    go_simp
    refine hK _ _ ⟨HoldT.none (by kernel_rfl), ?_⟩
    clear hK K
    refine wpAnyT_done (by kernel_rfl) ?_ _
    obtain ⟨Z, hZ⟩ : ∃ Z : Entry, Z = ⟨s, false, true, max x.used y.used, false, [], []⟩ := ⟨_, rfl⟩
    have hJ : J = withL (outL H m) Z := by rw [hZ]; exact hJ.out.trans (by rw [← hpx.out]; rfl)
    have hzo : Z.ok := by rw [hZ]; exact ok_max hs hxo hyo
    have hzh := hide fun V : World => (show Held V Z none 0 none 0 by rw [hZ]; exact ⟨Nat.le_refl _, Nat.zero_le _, Nat.le_refl _, Nat.zero_le _, R.nil, R.nil⟩)
    obtain ⟨V3, hV3⟩ : ∃ V3, V3 = (V2.alloc (.cells #[Value.int IntKind.u32 Z.id.t, Value.int IntKind.u8 Z.id.r, Value.bool Z.ready, Value.bool Z.pin, Value.int IntKind.i64 Z.used, Value.bool Z.known, Value.slice none Z.snap.length 0, Value.slice none Z.got.length 0] 62)).drew := ⟨_, rfl⟩
    have e3 : EntAt V3 V2.heap.size Z none 0 none 0 := by rw [hV3]; exact EntAt.new V2 Z none 0 none 0 _
    have hb3 : Bl V2 V3 := by rw [hV3]; exact ((Bl.refl _).alloc _).drew
    rw [hZ] at hV3
    simp only [List.length_nil] at hV3
    clear hF hGA hpx hZ
    go_wp2_with fail
    go_upto_region 6 with fail
    rw [← hV3]
    clear hV3
    have hW3 := hbW2.trans hb3
    have hbw3 := hbW.trans hW3
    obtain ⟨j0, j1, -, -⟩ := at1.bl hW3
    have jl := (at1.bl hW3).lt
    obtain ⟨z0, z1, z2, z3, z4, z5, z6, z7⟩ := e3.cells
    have zl := e3.lt
    go_region_with (first
      | (go_at_call 190; refine (hwi.out Z Xa xa _ hXa hzo (hzh.out _)).mono ?_; rintro e wb ⟨Xb, xb, rfl, r1, r2, hXb, hbb⟩)
      | (go_at_call 192; refine (hwo.out _ (hbw3.trans (Bl.refl V3).drew)).mono ?_; rintro e wa ⟨Xa, xa, rfl, -, -, hXa, hba0⟩; have hba : Bl V3 wa := (Bl.refl V3).drew.trans hba0; clear hba0; obtain ⟨u0, u1, u2, u3, u4, u5, u6, u7⟩ := (e3.bl hba).cells; have ul := (e3.bl hba).lt))
    all_goals
      go_wp2_with fail
      go_ret
      rw [hJ]
      exact ⟨Xb, xb, rfl, r1, r2, hXb, hbw3.trans (hba.trans hbb)⟩

set_option maxRecDepth 100000 in
set_option maxHeartbeats 4000000 in
theorem refJoined20TF (A B : Option Addr) (c d : Nat) (l2 : List Op) (H : List Entry) (s m : Id) (wr : Bool) (w : World) (hh : H.length ≤ 100) (_hd1 : H.length ≤ d) (_hd2 : d ≤ maxLen) (hs : s.ok) (hB : R cEntry 0 w B H)
    (_hwh : ∀ V, Bl w V → Calls Tryz.prog 191 #[.slice A l2.length c, .agg #[.int .u32 s.t, .int .u8 s.r]] V fun e w' => e = .returned (.bool wr) ∧ Bl V w') (his : ofB H s = true) (hwas : ofB H m = false) :
    Calls Tryz.prog 141 #[.slice A l2.length c, .slice B H.length d, .agg #[.int .u32 s.t, .int .u8 s.r], .agg #[.int .u32 m.t, .int .u8 m.r]] w (NewSh (joinR wr H s m) w) := by
  obtain ⟨W, hW⟩ : ∃ W, W = (w.alloc (.cells #[Value.int IntKind.u32 s.t, Value.int IntKind.u8 s.r] 25)).alloc (.cells #[Value.int IntKind.u32 m.t, Value.int IntKind.u8 m.r] 25) := ⟨_, rfl⟩
  have hbW : Bl w W := by rw [hW]; exact ((Bl.refl _).alloc _).alloc _
  have at0 : IdBox W w.heap.size s := by rw [hW]; exact (IdBox.new w s _).bl ((Bl.refl _).alloc _)
  have at1 : IdBox W (w.heap.size + 1) m := by
    have h := IdBox.new (w.alloc (.cells #[Value.int IntKind.u32 s.t, Value.int IntKind.u8 s.r] 25)) m 25
    rw [World.size_alloc w] at h
    rw [hW]
    exact h
  have ho1 := hide (refOf19 B d H s W (by omega) (hB.bl hbW))
  have ho2 := hide fun V (hv : Bl w V) => refOf19 B d H m V (by omega) (hB.bl hv)
  have hxo := ofE_ok hB s
  have hyo := ofE_ok hB m
  obtain ⟨J, hJ⟩ : ∃ J, J = joinR wr H s m := ⟨_, rfl⟩
  rw [← hJ]
  unfold joinR joinZR at hJ
  rw [his, hwas] at hJ
  replace ho1 := ho1.out
  rw [his] at ho1
  replace ho1 := hide ho1
  rw [hwas] at ho2
  generalize ofE H s = x at *
  generalize ofE H m = y at *
  clear his hwas
  replace hJ := hide hJ
  have il := at0.lt
  obtain ⟨i0, i1, -, -⟩ := id at0
  go_enter Tryz.func141, Tryz.ntmps141
  go_upto_region 1 with fail
  rw [← hW]
  clear hW
  go_wp2_with fail
  refine ho1.out.mono ?_
  rintro e w1 ⟨XA, xc, XB, xd, rfl, -, hb1⟩
  obtain ⟨V1, hV1⟩ : ∃ V1, V1 = w1.alloc (.cells #[Value.int IntKind.u32 x.id.t, Value.int IntKind.u8 x.id.r, Value.bool x.ready, Value.bool x.pin, Value.int IntKind.i64 x.used, Value.bool x.known, Value.slice XA x.snap.length xc, Value.slice XB x.got.length xd] 62) := ⟨_, rfl⟩
  have e1 : EntAt V1 w1.heap.size x XA xc XB xd := by rw [hV1]; exact EntAt.new w1 x XA xc XB xd _
  have hb1V : Bl w1 V1 := by rw [hV1]; exact (Bl.refl _).alloc _
  have hbW1 := hb1.trans hb1V
  clear i0 i1 il ho1
  obtain ⟨i0, i1, -, -⟩ := at1.bl hbW1
  have il := (at1.bl hbW1).lt
  go_upto_region 2 with fail
  rw [← hV1]
  clear hV1
  go_wp2_with fail
  refine (ho2.out _ (hbW.trans hbW1)).mono ?_
  rintro e w2 ⟨YA, yc, YB, yd, rfl, -, hb2⟩
  obtain ⟨V2, hV2⟩ : ∃ V2, V2 = w2.alloc (.cells #[Value.int IntKind.u32 y.id.t, Value.int IntKind.u8 y.id.r, Value.bool y.ready, Value.bool y.pin, Value.int IntKind.i64 y.used, Value.bool y.known, Value.slice YA y.snap.length yc, Value.slice YB y.got.length yd] 62) := ⟨_, rfl⟩
  have e2 : EntAt V2 w2.heap.size y YA yc YB yd := by rw [hV2]; exact EntAt.new w2 y YA yc YB yd _
  have hb2V : Bl w2 V2 := by rw [hV2]; exact (Bl.refl _).alloc _
  have hbW2 := hbW1.trans (hb2.trans hb2V)
  clear i0 i1 il ho2
  go_upto_region 3 with fail
  rw [← hV2]
  clear hV2
  have hwo := hide fun V (hv : Bl w V) => refWithout19 B d H m V (by omega) (hB.bl hv)
  have hoL : (outL H m).length ≤ 100 := Nat.le_trans (List.length_filter_le _ _) hh
  have hwi := hide fun Z (X : Option Addr) (xc : Nat) V (hX : R cEntry 0 V X (outL H m)) (hzo : Z.ok) (hzh : Held V Z none 0 none 0) => refWith19 X xc (outL H m) Z none none 0 0 V (by omega) hX hzo hzh
  clear hoL
  obtain ⟨i0, i1, -, -⟩ := at0.bl hbW2
  have il := (at0.bl hbW2).lt
  obtain ⟨j0, j1, -, -⟩ := at1.bl hbW2
  have jl := (at1.bl hbW2).lt
  obtain ⟨x0, x1, x2, x3, x4, x5, x6, x7⟩ := (e1.bl (hb2.trans hb2V)).cells
  have xl := (e1.bl (hb2.trans hb2V)).lt
  obtain ⟨y0, y1, y2, y3, y4, y5, y6, y7⟩ := e2.cells
  have yl := e2.lt
  go_upto_region 5 with fail
  obtain ⟨px, hpx⟩ : ∃ px, px = x.pin := ⟨_, rfl⟩
  have hGA : ∀ (V : World) (px : Bool), Bl V2 V → px = x.pin → W6F w.heap.size w1.heap.size w2.heap.size s x.ready px x.used y.ready y.pin y.used V := fun V px hb hpx => by
    rw [hpx]; exact ⟨(hb.cell il).trans i0, (hb.cell il).trans i1, (hb.cell xl).trans x2, (hb.cell xl).trans x3, (hb.cell xl).trans x4, (hb.cell yl).trans y2, (hb.cell yl).trans y3, (hb.cell yl).trans y4⟩
  have hF : ∀ listed, HoldT [(31, W6F w.heap.size w1.heap.size w2.heap.size s x.ready px x.used y.ready y.pin y.used)] listed V2.drew := fun listed q hq hc => by rw [List.mem_singleton] at hq; subst hq; exact hGA _ _ (Bl.refl V2).drew hpx
  replace hGA := hide hGA
  clear i0 i1 il j0 j1 jl x0 x1 x2 x3 x4 x5 x6 x7 xl y0 y1 y2 y3 y4 y5 y6 y7 yl
  replace hpx := hide hpx
  refine wp_region_tail [(31, W6F w.heap.size w1.heap.size w2.heap.size s x.ready px x.used y.ready y.pin y.used)] (by kernel_rfl) ?_
  try (change wpAnyT _ _ _ _ _ _ _ _ (World.drew _))
  cases px
  · refine todo_start [(0, .l), (1, .p), (2, .p), (3, .p), (4, .p), (5, .p), (6, .u), (7, .u), (8, .p), (9, .p), (10, .u), (11, .u), (12, .p), (13, .p), (14, .u), (15, .u), (16, .u), (17, .p), (18, .p), (19, .l), (20, .p), (21, .p), (22, .l), (23, .p), (24, .p), (25, .l), (26, .p), (27, .l), (28, .p), (29, .p)] ?_
    repeat (first
      | refine todo_p (v := ?_) rfl (by kernel_rfl) (fun _ _ _ h => h) (Or.inl ⟨by kernel_rfl, by intro w _; go_simp; try with_reducible rfl⟩) (hF _) ?_
      | refine todo_u (v := undef) rfl (by kernel_rfl) (fun _ _ _ h => h) (Or.inr ⟨by kernel_rfl, rfl⟩) (hF _) ?_
      | refine todo_l (v := ?_) (List.mem_cons_self ..) rfl (by kernel_rfl) (fun _ _ _ h => h) (Or.inl ⟨by kernel_rfl, by rintro w ⟨g0, g1, g2, g3, g4, g5, g6, g7⟩; go_simp; try with_reducible rfl⟩) (hF _) ?_)
    refine todo_end ?_
    refine wpAnyT_ready (rs := [30]) (by kernel_rfl) (by simp) ?_
    refine AllReadyT.cons rfl (fun K hK => ?_) AllReadyT.nil
    go_simp
    refine hK _ _ ⟨fun q hq _ => by rw [List.mem_singleton] at hq; subst hq; exact hGA.out _ _ ((Bl.refl V2).drew.alloc _) hpx.out, ?_⟩
    clear hK K
    refine wpAnyT_ready (rs := [31]) (by kernel_rfl) (by simp) ?_
    refine AllReadyT.cons rfl (fun K hK => ?_) AllReadyT.nil
    go_simp
    refine hK _ _ ⟨HoldT.none (by kernel_rfl), ?_⟩
    clear hK K
    refine wpAnyT_done (by kernel_rfl) ?_ _
    obtain ⟨Z, hZ⟩ : ∃ Z : Entry, Z = ⟨s, false, y.pin, max x.used y.used, false, [], []⟩ := ⟨_, rfl⟩
    have hJ : J = withL (outL H m) Z := by rw [hZ]; exact hJ.out.trans (by rw [← hpx.out]; rfl)
    have hzo : Z.ok := by rw [hZ]; exact ok_max hs hxo hyo
    have hzh := hide fun V : World => (show Held V Z none 0 none 0 by rw [hZ]; exact ⟨Nat.le_refl _, Nat.zero_le _, Nat.le_refl _, Nat.zero_le _, R.nil, R.nil⟩)
    obtain ⟨V3, hV3⟩ : ∃ V3, V3 = (V2.alloc (.cells #[Value.int IntKind.u32 Z.id.t, Value.int IntKind.u8 Z.id.r, Value.bool Z.ready, Value.bool Z.pin, Value.int IntKind.i64 Z.used, Value.bool Z.known, Value.slice none Z.snap.length 0, Value.slice none Z.got.length 0] 62)).drew := ⟨_, rfl⟩
    have e3 : EntAt V3 V2.heap.size Z none 0 none 0 := by rw [hV3]; exact EntAt.new V2 Z none 0 none 0 _
    have hb3 : Bl V2 V3 := by rw [hV3]; exact ((Bl.refl _).alloc _).drew
    rw [hZ] at hV3
    simp only [List.length_nil] at hV3
    clear hF hGA hpx hZ
    go_wp2_with fail
    go_upto_region 6 with fail
    rw [← hV3]
    clear hV3
    have hW3 := hbW2.trans hb3
    have hbw3 := hbW.trans hW3
    obtain ⟨j0, j1, -, -⟩ := at1.bl hW3
    have jl := (at1.bl hW3).lt
    obtain ⟨z0, z1, z2, z3, z4, z5, z6, z7⟩ := e3.cells
    have zl := e3.lt
    go_region_with (first
      | (go_at_call 190; refine (hwi.out Z Xa xa _ hXa hzo (hzh.out _)).mono ?_; rintro e wb ⟨Xb, xb, rfl, r1, r2, hXb, hbb⟩)
      | (go_at_call 192; refine (hwo.out _ (hbw3.trans (Bl.refl V3).drew)).mono ?_; rintro e wa ⟨Xa, xa, rfl, -, -, hXa, hba0⟩; have hba : Bl V3 wa := (Bl.refl V3).drew.trans hba0; clear hba0; obtain ⟨u0, u1, u2, u3, u4, u5, u6, u7⟩ := (e3.bl hba).cells; have ul := (e3.bl hba).lt))
    all_goals
      go_wp2_with fail
      go_ret
      rw [hJ]
      exact ⟨Xb, xb, rfl, r1, r2, hXb, hbw3.trans (hba.trans hbb)⟩
  · refine todo_start [(0, .l), (1, .p), (2, .p), (3, .p), (4, .p), (5, .p), (6, .u), (7, .u), (8, .p), (9, .p), (10, .u), (11, .u), (12, .p), (13, .p), (14, .u), (15, .u), (16, .u), (17, .p), (18, .p), (19, .l), (20, .p), (21, .u), (22, .u), (23, .p), (24, .p), (25, .l), (26, .p), (27, .l), (28, .p), (29, .p)] ?_
    repeat (first
      | refine todo_p (v := ?_) rfl (by kernel_rfl) (fun _ _ _ h => h) (Or.inl ⟨by kernel_rfl, by intro w _; go_simp; try with_reducible rfl⟩) (hF _) ?_
      | refine todo_u (v := undef) rfl (by kernel_rfl) (fun _ _ _ h => h) (Or.inr ⟨by kernel_rfl, rfl⟩) (hF _) ?_
      | refine todo_l (v := ?_) (List.mem_cons_self ..) rfl (by kernel_rfl) (fun _ _ _ h => h) (Or.inl ⟨by kernel_rfl, by rintro w ⟨g0, g1, g2, g3, g4, g5, g6, g7⟩; go_simp; try with_reducible rfl⟩) (hF _) ?_)
    refine todo_end ?_
    refine wpAnyT_ready (rs := [30]) (by kernel_rfl) (by simp) ?_
    refine AllReadyT.cons rfl (fun K hK => ?_) AllReadyT.nil
    go_simp
    refine hK _ _ ⟨fun q hq _ => by rw [List.mem_singleton] at hq; subst hq; exact hGA.out _ _ ((Bl.refl V2).drew.alloc _) hpx.out, ?_⟩
    clear hK K
    refine wpAnyT_ready (rs := [31]) (by kernel_rfl) (by simp) ?_
    refine AllReadyT.cons rfl (fun K hK => ?_) AllReadyT.nil
    go_simp
    refine hK _ _ ⟨HoldT.none (by kernel_rfl), ?_⟩
    clear hK K
    refine wpAnyT_done (by kernel_rfl) ?_ _
    obtain ⟨Z, hZ⟩ : ∃ Z : Entry, Z = ⟨s, false, true, max x.used y.used, false, [], []⟩ := ⟨_, rfl⟩
    have hJ : J = withL (outL H m) Z := by rw [hZ]; exact hJ.out.trans (by rw [← hpx.out]; rfl)
    have hzo : Z.ok := by rw [hZ]; exact ok_max hs hxo hyo
    have hzh := hide fun V : World => (show Held V Z none 0 none 0 by rw [hZ]; exact ⟨Nat.le_refl _, Nat.zero_le _, Nat.le_refl _, Nat.zero_le _, R.nil, R.nil⟩)
    obtain ⟨V3, hV3⟩ : ∃ V3, V3 = (V2.alloc (.cells #[Value.int IntKind.u32 Z.id.t, Value.int IntKind.u8 Z.id.r, Value.bool Z.ready, Value.bool Z.pin, Value.int IntKind.i64 Z.used, Value.bool Z.known, Value.slice none Z.snap.length 0, Value.slice none Z.got.length 0] 62)).drew := ⟨_, rfl⟩
    have e3 : EntAt V3 V2.heap.size Z none 0 none 0 := by rw [hV3]; exact EntAt.new V2 Z none 0 none 0 _
    have hb3 : Bl V2 V3 := by rw [hV3]; exact ((Bl.refl _).alloc _).drew
    rw [hZ] at hV3
    simp only [List.length_nil] at hV3
    clear hF hGA hpx hZ
    go_wp2_with fail
    go_upto_region 6 with fail
    rw [← hV3]
    clear hV3
    have hW3 := hbW2.trans hb3
    have hbw3 := hbW.trans hW3
    obtain ⟨j0, j1, -, -⟩ := at1.bl hW3
    have jl := (at1.bl hW3).lt
    obtain ⟨z0, z1, z2, z3, z4, z5, z6, z7⟩ := e3.cells
    have zl := e3.lt
    go_region_with (first
      | (go_at_call 190; refine (hwi.out Z Xa xa _ hXa hzo (hzh.out _)).mono ?_; rintro e wb ⟨Xb, xb, rfl, r1, r2, hXb, hbb⟩)
      | (go_at_call 192; refine (hwo.out _ (hbw3.trans (Bl.refl V3).drew)).mono ?_; rintro e wa ⟨Xa, xa, rfl, -, -, hXa, hba0⟩; have hba : Bl V3 wa := (Bl.refl V3).drew.trans hba0; clear hba0; obtain ⟨u0, u1, u2, u3, u4, u5, u6, u7⟩ := (e3.bl hba).cells; have ul := (e3.bl hba).lt))
    all_goals
      go_wp2_with fail
      go_ret
      rw [hJ]
      exact ⟨Xb, xb, rfl, r1, r2, hXb, hbw3.trans (hba.trans hbb)⟩

set_option maxRecDepth 100000 in
set_option maxHeartbeats 4000000 in
theorem refJoined20TT (A B : Option Addr) (c d : Nat) (l2 : List Op) (H : List Entry) (s m : Id) (wr : Bool) (w : World) (hh : H.length ≤ 100) (_hd1 : H.length ≤ d) (_hd2 : d ≤ maxLen) (hs : s.ok) (hB : R cEntry 0 w B H)
    (hwh : ∀ V, Bl w V → Calls Tryz.prog 191 #[.slice A l2.length c, .agg #[.int .u32 s.t, .int .u8 s.r]] V fun e w' => e = .returned (.bool wr) ∧ Bl V w') (his : ofB H s = true) (hwas : ofB H m = true) :
    Calls Tryz.prog 141 #[.slice A l2.length c, .slice B H.length d, .agg #[.int .u32 s.t, .int .u8 s.r], .agg #[.int .u32 m.t, .int .u8 m.r]] w (NewSh (joinR wr H s m) w) := by
  obtain ⟨W, hW⟩ : ∃ W, W = (w.alloc (.cells #[Value.int IntKind.u32 s.t, Value.int IntKind.u8 s.r] 25)).alloc (.cells #[Value.int IntKind.u32 m.t, Value.int IntKind.u8 m.r] 25) := ⟨_, rfl⟩
  have hbW : Bl w W := by rw [hW]; exact ((Bl.refl _).alloc _).alloc _
  have at0 : IdBox W w.heap.size s := by rw [hW]; exact (IdBox.new w s _).bl ((Bl.refl _).alloc _)
  have at1 : IdBox W (w.heap.size + 1) m := by
    have h := IdBox.new (w.alloc (.cells #[Value.int IntKind.u32 s.t, Value.int IntKind.u8 s.r] 25)) m 25
    rw [World.size_alloc w] at h
    rw [hW]
    exact h
  have ho1 := hide (refOf19 B d H s W (by omega) (hB.bl hbW))
  have ho2 := hide fun V (hv : Bl w V) => refOf19 B d H m V (by omega) (hB.bl hv)
  replace hwh := hide hwh
  have hxo := ofE_ok hB s
  have hyo := ofE_ok hB m
  obtain ⟨J, hJ⟩ : ∃ J, J = joinR wr H s m := ⟨_, rfl⟩
  rw [← hJ]
  unfold joinR joinZR at hJ
  rw [his, hwas] at hJ
  replace ho1 := ho1.out
  rw [his] at ho1
  replace ho1 := hide ho1
  rw [hwas] at ho2
  generalize ofE H s = x at *
  generalize ofE H m = y at *
  clear his hwas
  replace hJ := hide hJ
  have il := at0.lt
  obtain ⟨i0, i1, -, -⟩ := id at0
  go_enter Tryz.func141, Tryz.ntmps141
  go_upto_region 1 with fail
  rw [← hW]
  clear hW
  go_wp2_with fail
  refine ho1.out.mono ?_
  rintro e w1 ⟨XA, xc, XB, xd, rfl, -, hb1⟩
  obtain ⟨V1, hV1⟩ : ∃ V1, V1 = w1.alloc (.cells #[Value.int IntKind.u32 x.id.t, Value.int IntKind.u8 x.id.r, Value.bool x.ready, Value.bool x.pin, Value.int IntKind.i64 x.used, Value.bool x.known, Value.slice XA x.snap.length xc, Value.slice XB x.got.length xd] 62) := ⟨_, rfl⟩
  have e1 : EntAt V1 w1.heap.size x XA xc XB xd := by rw [hV1]; exact EntAt.new w1 x XA xc XB xd _
  have hb1V : Bl w1 V1 := by rw [hV1]; exact (Bl.refl _).alloc _
  have hbW1 := hb1.trans hb1V
  clear i0 i1 il ho1
  obtain ⟨i0, i1, -, -⟩ := at1.bl hbW1
  have il := (at1.bl hbW1).lt
  go_upto_region 2 with fail
  rw [← hV1]
  clear hV1
  go_wp2_with fail
  refine (ho2.out _ (hbW.trans hbW1)).mono ?_
  rintro e w2 ⟨YA, yc, YB, yd, rfl, -, hb2⟩
  obtain ⟨V2, hV2⟩ : ∃ V2, V2 = w2.alloc (.cells #[Value.int IntKind.u32 y.id.t, Value.int IntKind.u8 y.id.r, Value.bool y.ready, Value.bool y.pin, Value.int IntKind.i64 y.used, Value.bool y.known, Value.slice YA y.snap.length yc, Value.slice YB y.got.length yd] 62) := ⟨_, rfl⟩
  have e2 : EntAt V2 w2.heap.size y YA yc YB yd := by rw [hV2]; exact EntAt.new w2 y YA yc YB yd _
  have hb2V : Bl w2 V2 := by rw [hV2]; exact (Bl.refl _).alloc _
  have hbW2 := hbW1.trans (hb2.trans hb2V)
  clear i0 i1 il ho2
  go_upto_region 3 with fail
  rw [← hV2]
  clear hV2
  have hwo := hide fun V (hv : Bl w V) => refWithout19 B d H m V (by omega) (hB.bl hv)
  have hoL : (outL H m).length ≤ 100 := Nat.le_trans (List.length_filter_le _ _) hh
  have hwi := hide fun Z (X : Option Addr) (xc : Nat) V (hX : R cEntry 0 V X (outL H m)) (hzo : Z.ok) (hzh : Held V Z none 0 none 0) => refWith19 X xc (outL H m) Z none none 0 0 V (by omega) hX hzo hzh
  clear hoL
  obtain ⟨i0, i1, -, -⟩ := at0.bl hbW2
  have il := (at0.bl hbW2).lt
  obtain ⟨j0, j1, -, -⟩ := at1.bl hbW2
  have jl := (at1.bl hbW2).lt
  obtain ⟨x0, x1, x2, x3, x4, x5, x6, x7⟩ := (e1.bl (hb2.trans hb2V)).cells
  have xl := (e1.bl (hb2.trans hb2V)).lt
  obtain ⟨y0, y1, y2, y3, y4, y5, y6, y7⟩ := e2.cells
  have yl := e2.lt
  go_upto_region 5 with fail
  obtain ⟨px, hpx⟩ : ∃ px, px = x.pin := ⟨_, rfl⟩
  obtain ⟨rx, hrx⟩ : ∃ rx, rx = x.ready := ⟨_, rfl⟩
  obtain ⟨ry, hry⟩ : ∃ ry, ry = y.ready := ⟨_, rfl⟩
  have hGA : ∀ (V : World) (px rx ry : Bool), Bl V2 V → px = x.pin → rx = x.ready → ry = y.ready → W6F w.heap.size w1.heap.size w2.heap.size s rx px x.used ry y.pin y.used V := fun V px rx ry hb hpx hrx hry => by
    rw [hpx, hrx, hry]; exact ⟨(hb.cell il).trans i0, (hb.cell il).trans i1, (hb.cell xl).trans x2, (hb.cell xl).trans x3, (hb.cell xl).trans x4, (hb.cell yl).trans y2, (hb.cell yl).trans y3, (hb.cell yl).trans y4⟩
  have hF : ∀ listed, HoldT [(31, W6F w.heap.size w1.heap.size w2.heap.size s rx px x.used ry y.pin y.used)] listed V2.drew := fun listed q hq hc => by rw [List.mem_singleton] at hq; subst hq; exact hGA _ _ _ _ (Bl.refl V2).drew hpx hrx hry
  replace hGA := hide hGA
  clear i0 i1 il j0 j1 jl x0 x1 x2 x3 x4 x5 x6 x7 xl y0 y1 y2 y3 y4 y5 y6 y7 yl
  replace hpx := hide hpx
  replace hrx := hide hrx
  replace hry := hide hry
  refine wp_region_tail [(31, W6F w.heap.size w1.heap.size w2.heap.size s rx px x.used ry y.pin y.used)] (by kernel_rfl) ?_
  try (change wpAnyT _ _ _ _ _ _ _ _ (World.drew _))
  cases rx
  · cases px
    · refine todo_start [(0, .l), (1, .p), (2, .p), (3, .p), (4, .p), (5, .p), (6, .p), (7, .l), (8, .p), (9, .p), (10, .u), (11, .u), (12, .p), (13, .p), (14, .u), (15, .u), (16, .u), (17, .p), (18, .p), (19, .l), (20, .p), (21, .p), (22, .l), (23, .p), (24, .p), (25, .l), (26, .p), (27, .l), (28, .p), (29, .p)] ?_
      repeat (first
        | refine todo_p (v := ?_) rfl (by kernel_rfl) (fun _ _ _ h => h) (Or.inl ⟨by kernel_rfl, by intro w _; go_simp; try with_reducible rfl⟩) (hF _) ?_
        | refine todo_u (v := undef) rfl (by kernel_rfl) (fun _ _ _ h => h) (Or.inr ⟨by kernel_rfl, rfl⟩) (hF _) ?_
        | refine todo_l (v := ?_) (List.mem_cons_self ..) rfl (by kernel_rfl) (fun _ _ _ h => h) (Or.inl ⟨by kernel_rfl, by rintro w ⟨g0, g1, g2, g3, g4, g5, g6, g7⟩; go_simp; try with_reducible rfl⟩) (hF _) ?_)
      refine todo_end ?_
      refine wpAnyT_ready (rs := [30]) (by kernel_rfl) (by simp) ?_
      refine AllReadyT.cons rfl (fun K hK => ?_) AllReadyT.nil
      go_simp
      refine hK _ _ ⟨fun q hq _ => by rw [List.mem_singleton] at hq; subst hq; exact hGA.out _ _ _ _ ((Bl.refl V2).drew.alloc _) hpx.out hrx.out hry.out, ?_⟩
      clear hK K
      refine wpAnyT_ready (rs := [31]) (by kernel_rfl) (by simp) ?_
      refine AllReadyT.cons rfl (fun K hK => ?_) AllReadyT.nil
      go_simp
      refine hK _ _ ⟨HoldT.none (by kernel_rfl), ?_⟩
      clear hK K
      refine wpAnyT_done (by kernel_rfl) ?_ _
      obtain ⟨Z, hZ⟩ : ∃ Z : Entry, Z = ⟨s, false, y.pin, max x.used y.used, false, [], []⟩ := ⟨_, rfl⟩
      have hJ : J = withL (outL H m) Z := by rw [hZ]; exact hJ.out.trans (by rw [← hpx.out, ← hrx.out, ← hry.out]; rfl)
      have hzo : Z.ok := by rw [hZ]; exact ok_max hs hxo hyo
      have hzh := hide fun V : World => (show Held V Z none 0 none 0 by rw [hZ]; exact ⟨Nat.le_refl _, Nat.zero_le _, Nat.le_refl _, Nat.zero_le _, R.nil, R.nil⟩)
      obtain ⟨V3, hV3⟩ : ∃ V3, V3 = (V2.alloc (.cells #[Value.int IntKind.u32 Z.id.t, Value.int IntKind.u8 Z.id.r, Value.bool Z.ready, Value.bool Z.pin, Value.int IntKind.i64 Z.used, Value.bool Z.known, Value.slice none Z.snap.length 0, Value.slice none Z.got.length 0] 62)).drew := ⟨_, rfl⟩
      have e3 : EntAt V3 V2.heap.size Z none 0 none 0 := by rw [hV3]; exact EntAt.new V2 Z none 0 none 0 _
      have hb3 : Bl V2 V3 := by rw [hV3]; exact ((Bl.refl _).alloc _).drew
      rw [hZ] at hV3
      simp only [List.length_nil] at hV3
      clear hF hGA hpx hrx hry hZ
      go_wp2_with fail
      go_upto_region 6 with fail
      rw [← hV3]
      clear hV3
      have hW3 := hbW2.trans hb3
      have hbw3 := hbW.trans hW3
      obtain ⟨j0, j1, -, -⟩ := at1.bl hW3
      have jl := (at1.bl hW3).lt
      obtain ⟨z0, z1, z2, z3, z4, z5, z6, z7⟩ := e3.cells
      have zl := e3.lt
      go_region_with (first
        | (go_at_call 190; refine (hwi.out Z Xa xa _ hXa hzo (hzh.out _)).mono ?_; rintro e wb ⟨Xb, xb, rfl, r1, r2, hXb, hbb⟩)
        | (go_at_call 192; refine (hwo.out _ (hbw3.trans (Bl.refl V3).drew)).mono ?_; rintro e wa ⟨Xa, xa, rfl, -, -, hXa, hba0⟩; have hba : Bl V3 wa := (Bl.refl V3).drew.trans hba0; clear hba0; obtain ⟨u0, u1, u2, u3, u4, u5, u6, u7⟩ := (e3.bl hba).cells; have ul := (e3.bl hba).lt))
      all_goals
        go_wp2_with fail
        go_ret
        rw [hJ]
        exact ⟨Xb, xb, rfl, r1, r2, hXb, hbw3.trans (hba.trans hbb)⟩
    · refine todo_start [(0, .l), (1, .p), (2, .p), (3, .p), (4, .p), (5, .p), (6, .p), (7, .l), (8, .p), (9, .p), (10, .u), (11, .u), (12, .p), (13, .p), (14, .u), (15, .u), (16, .u), (17, .p), (18, .p), (19, .l), (20, .p), (21, .u), (22, .u), (23, .p), (24, .p), (25, .l), (26, .p), (27, .l), (28, .p), (29, .p)] ?_
      repeat (first
        | refine todo_p (v := ?_) rfl (by kernel_rfl) (fun _ _ _ h => h) (Or.inl ⟨by kernel_rfl, by intro w _; go_simp; try with_reducible rfl⟩) (hF _) ?_
        | refine todo_u (v := undef) rfl (by kernel_rfl) (fun _ _ _ h => h) (Or.inr ⟨by kernel_rfl, rfl⟩) (hF _) ?_
        | refine todo_l (v := ?_) (List.mem_cons_self ..) rfl (by kernel_rfl) (fun _ _ _ h => h) (Or.inl ⟨by kernel_rfl, by rintro w ⟨g0, g1, g2, g3, g4, g5, g6, g7⟩; go_simp; try with_reducible rfl⟩) (hF _) ?_)
      refine todo_end ?_
      refine wpAnyT_ready (rs := [30]) (by kernel_rfl) (by simp) ?_
      refine AllReadyT.cons rfl (fun K hK => ?_) AllReadyT.nil
      go_simp
      refine hK _ _ ⟨fun q hq _ => by rw [List.mem_singleton] at hq; subst hq; exact hGA.out _ _ _ _ ((Bl.refl V2).drew.alloc _) hpx.out hrx.out hry.out, ?_⟩
      clear hK K
      refine wpAnyT_ready (rs := [31]) (by kernel_rfl) (by simp) ?_
      refine AllReadyT.cons rfl (fun K hK => ?_) AllReadyT.nil
      go_simp
      refine hK _ _ ⟨HoldT.none (by kernel_rfl), ?_⟩
      clear hK K
      refine wpAnyT_done (by kernel_rfl) ?_ _
      obtain ⟨Z, hZ⟩ : ∃ Z : Entry, Z = ⟨s, false, true, max x.used y.used, false, [], []⟩ := ⟨_, rfl⟩
      have hJ : J = withL (outL H m) Z := by rw [hZ]; exact hJ.out.trans (by rw [← hpx.out, ← hrx.out, ← hry.out]; rfl)
      have hzo : Z.ok := by rw [hZ]; exact ok_max hs hxo hyo
      have hzh := hide fun V : World => (show Held V Z none 0 none 0 by rw [hZ]; exact ⟨Nat.le_refl _, Nat.zero_le _, Nat.le_refl _, Nat.zero_le _, R.nil, R.nil⟩)
      obtain ⟨V3, hV3⟩ : ∃ V3, V3 = (V2.alloc (.cells #[Value.int IntKind.u32 Z.id.t, Value.int IntKind.u8 Z.id.r, Value.bool Z.ready, Value.bool Z.pin, Value.int IntKind.i64 Z.used, Value.bool Z.known, Value.slice none Z.snap.length 0, Value.slice none Z.got.length 0] 62)).drew := ⟨_, rfl⟩
      have e3 : EntAt V3 V2.heap.size Z none 0 none 0 := by rw [hV3]; exact EntAt.new V2 Z none 0 none 0 _
      have hb3 : Bl V2 V3 := by rw [hV3]; exact ((Bl.refl _).alloc _).drew
      rw [hZ] at hV3
      simp only [List.length_nil] at hV3
      clear hF hGA hpx hrx hry hZ
      go_wp2_with fail
      go_upto_region 6 with fail
      rw [← hV3]
      clear hV3
      have hW3 := hbW2.trans hb3
      have hbw3 := hbW.trans hW3
      obtain ⟨j0, j1, -, -⟩ := at1.bl hW3
      have jl := (at1.bl hW3).lt
      obtain ⟨z0, z1, z2, z3, z4, z5, z6, z7⟩ := e3.cells
      have zl := e3.lt
      go_region_with (first
        | (go_at_call 190; refine (hwi.out Z Xa xa _ hXa hzo (hzh.out _)).mono ?_; rintro e wb ⟨Xb, xb, rfl, r1, r2, hXb, hbb⟩)
        | (go_at_call 192; refine (hwo.out _ (hbw3.trans (Bl.refl V3).drew)).mono ?_; rintro e wa ⟨Xa, xa, rfl, -, -, hXa, hba0⟩; have hba : Bl V3 wa := (Bl.refl V3).drew.trans hba0; clear hba0; obtain ⟨u0, u1, u2, u3, u4, u5, u6, u7⟩ := (e3.bl hba).cells; have ul := (e3.bl hba).lt))
      all_goals
        go_wp2_with fail
        go_ret
        rw [hJ]
        exact ⟨Xb, xb, rfl, r1, r2, hXb, hbw3.trans (hba.trans hbb)⟩
  · cases ry
    · cases px
      · refine todo_start [(0, .l), (1, .p), (2, .p), (3, .p), (4, .p), (5, .p), (6, .p), (7, .l), (8, .p), (9, .p), (10, .p), (11, .l), (12, .p), (13, .p), (14, .u), (15, .u), (16, .u), (17, .p), (18, .p), (19, .l), (20, .p), (21, .p), (22, .l), (23, .p), (24, .p), (25, .l), (26, .p), (27, .l), (28, .p), (29, .p)] ?_
        repeat (first
          | refine todo_p (v := ?_) rfl (by kernel_rfl) (fun _ _ _ h => h) (Or.inl ⟨by kernel_rfl, by intro w _; go_simp; try with_reducible rfl⟩) (hF _) ?_
          | refine todo_u (v := undef) rfl (by kernel_rfl) (fun _ _ _ h => h) (Or.inr ⟨by kernel_rfl, rfl⟩) (hF _) ?_
          | refine todo_l (v := ?_) (List.mem_cons_self ..) rfl (by kernel_rfl) (fun _ _ _ h => h) (Or.inl ⟨by kernel_rfl, by rintro w ⟨g0, g1, g2, g3, g4, g5, g6, g7⟩; go_simp; try with_reducible rfl⟩) (hF _) ?_)
        refine todo_end ?_
        refine wpAnyT_ready (rs := [30]) (by kernel_rfl) (by simp) ?_
        refine AllReadyT.cons rfl (fun K hK => ?_) AllReadyT.nil
        go_simp
        refine hK _ _ ⟨fun q hq _ => by rw [List.mem_singleton] at hq; subst hq; exact hGA.out _ _ _ _ ((Bl.refl V2).drew.alloc _) hpx.out hrx.out hry.out, ?_⟩
        clear hK K
        refine wpAnyT_ready (rs := [31]) (by kernel_rfl) (by simp) ?_
        refine AllReadyT.cons rfl (fun K hK => ?_) AllReadyT.nil
        go_simp
        refine hK _ _ ⟨HoldT.none (by kernel_rfl), ?_⟩
        clear hK K
        refine wpAnyT_done (by kernel_rfl) ?_ _
        obtain ⟨Z, hZ⟩ : ∃ Z : Entry, Z = ⟨s, false, y.pin, max x.used y.used, false, [], []⟩ := ⟨_, rfl⟩
        have hJ : J = withL (outL H m) Z := by rw [hZ]; exact hJ.out.trans (by rw [← hpx.out, ← hrx.out, ← hry.out]; rfl)
        have hzo : Z.ok := by rw [hZ]; exact ok_max hs hxo hyo
        have hzh := hide fun V : World => (show Held V Z none 0 none 0 by rw [hZ]; exact ⟨Nat.le_refl _, Nat.zero_le _, Nat.le_refl _, Nat.zero_le _, R.nil, R.nil⟩)
        obtain ⟨V3, hV3⟩ : ∃ V3, V3 = (V2.alloc (.cells #[Value.int IntKind.u32 Z.id.t, Value.int IntKind.u8 Z.id.r, Value.bool Z.ready, Value.bool Z.pin, Value.int IntKind.i64 Z.used, Value.bool Z.known, Value.slice none Z.snap.length 0, Value.slice none Z.got.length 0] 62)).drew := ⟨_, rfl⟩
        have e3 : EntAt V3 V2.heap.size Z none 0 none 0 := by rw [hV3]; exact EntAt.new V2 Z none 0 none 0 _
        have hb3 : Bl V2 V3 := by rw [hV3]; exact ((Bl.refl _).alloc _).drew
        rw [hZ] at hV3
        simp only [List.length_nil] at hV3
        clear hF hGA hpx hrx hry hZ
        go_wp2_with fail
        go_upto_region 6 with fail
        rw [← hV3]
        clear hV3
        have hW3 := hbW2.trans hb3
        have hbw3 := hbW.trans hW3
        obtain ⟨j0, j1, -, -⟩ := at1.bl hW3
        have jl := (at1.bl hW3).lt
        obtain ⟨z0, z1, z2, z3, z4, z5, z6, z7⟩ := e3.cells
        have zl := e3.lt
        go_region_with (first
          | (go_at_call 190; refine (hwi.out Z Xa xa _ hXa hzo (hzh.out _)).mono ?_; rintro e wb ⟨Xb, xb, rfl, r1, r2, hXb, hbb⟩)
          | (go_at_call 192; refine (hwo.out _ (hbw3.trans (Bl.refl V3).drew)).mono ?_; rintro e wa ⟨Xa, xa, rfl, -, -, hXa, hba0⟩; have hba : Bl V3 wa := (Bl.refl V3).drew.trans hba0; clear hba0; obtain ⟨u0, u1, u2, u3, u4, u5, u6, u7⟩ := (e3.bl hba).cells; have ul := (e3.bl hba).lt))
        all_goals
          go_wp2_with fail
          go_ret
          rw [hJ]
          exact ⟨Xb, xb, rfl, r1, r2, hXb, hbw3.trans (hba.trans hbb)⟩
      · refine todo_start [(0, .l), (1, .p), (2, .p), (3, .p), (4, .p), (5, .p), (6, .p), (7, .l), (8, .p), (9, .p), (10, .p), (11, .l), (12, .p), (13, .p), (14, .u), (15, .u), (16, .u), (17, .p), (18, .p), (19, .l), (20, .p), (21, .u), (22, .u), (23, .p), (24, .p), (25, .l), (26, .p), (27, .l), (28, .p), (29, .p)] ?_
        repeat (first
          | refine todo_p (v := ?_) rfl (by kernel_rfl) (fun _ _ _ h => h) (Or.inl ⟨by kernel_rfl, by intro w _; go_simp; try with_reducible rfl⟩) (hF _) ?_
          | refine todo_u (v := undef) rfl (by kernel_rfl) (fun _ _ _ h => h) (Or.inr ⟨by kernel_rfl, rfl⟩) (hF _) ?_
          | refine todo_l (v := ?_) (List.mem_cons_self ..) rfl (by kernel_rfl) (fun _ _ _ h => h) (Or.inl ⟨by kernel_rfl, by rintro w ⟨g0, g1, g2, g3, g4, g5, g6, g7⟩; go_simp; try with_reducible rfl⟩) (hF _) ?_)
        refine todo_end ?_
        refine wpAnyT_ready (rs := [30]) (by kernel_rfl) (by simp) ?_
        refine AllReadyT.cons rfl (fun K hK => ?_) AllReadyT.nil
        go_simp
        refine hK _ _ ⟨fun q hq _ => by rw [List.mem_singleton] at hq; subst hq; exact hGA.out _ _ _ _ ((Bl.refl V2).drew.alloc _) hpx.out hrx.out hry.out, ?_⟩
        clear hK K
        refine wpAnyT_ready (rs := [31]) (by kernel_rfl) (by simp) ?_
        refine AllReadyT.cons rfl (fun K hK => ?_) AllReadyT.nil
        go_simp
        refine hK _ _ ⟨HoldT.none (by kernel_rfl), ?_⟩
        clear hK K
        refine wpAnyT_done (by kernel_rfl) ?_ _
        obtain ⟨Z, hZ⟩ : ∃ Z : Entry, Z = ⟨s, false, true, max x.used y.used, false, [], []⟩ := ⟨_, rfl⟩
        have hJ : J = withL (outL H m) Z := by rw [hZ]; exact hJ.out.trans (by rw [← hpx.out, ← hrx.out, ← hry.out]; rfl)
        have hzo : Z.ok := by rw [hZ]; exact ok_max hs hxo hyo
        have hzh := hide fun V : World => (show Held V Z none 0 none 0 by rw [hZ]; exact ⟨Nat.le_refl _, Nat.zero_le _, Nat.le_refl _, Nat.zero_le _, R.nil, R.nil⟩)
        obtain ⟨V3, hV3⟩ : ∃ V3, V3 = (V2.alloc (.cells #[Value.int IntKind.u32 Z.id.t, Value.int IntKind.u8 Z.id.r, Value.bool Z.ready, Value.bool Z.pin, Value.int IntKind.i64 Z.used, Value.bool Z.known, Value.slice none Z.snap.length 0, Value.slice none Z.got.length 0] 62)).drew := ⟨_, rfl⟩
        have e3 : EntAt V3 V2.heap.size Z none 0 none 0 := by rw [hV3]; exact EntAt.new V2 Z none 0 none 0 _
        have hb3 : Bl V2 V3 := by rw [hV3]; exact ((Bl.refl _).alloc _).drew
        rw [hZ] at hV3
        simp only [List.length_nil] at hV3
        clear hF hGA hpx hrx hry hZ
        go_wp2_with fail
        go_upto_region 6 with fail
        rw [← hV3]
        clear hV3
        have hW3 := hbW2.trans hb3
        have hbw3 := hbW.trans hW3
        obtain ⟨j0, j1, -, -⟩ := at1.bl hW3
        have jl := (at1.bl hW3).lt
        obtain ⟨z0, z1, z2, z3, z4, z5, z6, z7⟩ := e3.cells
        have zl := e3.lt
        go_region_with (first
          | (go_at_call 190; refine (hwi.out Z Xa xa _ hXa hzo (hzh.out _)).mono ?_; rintro e wb ⟨Xb, xb, rfl, r1, r2, hXb, hbb⟩)
          | (go_at_call 192; refine (hwo.out _ (hbw3.trans (Bl.refl V3).drew)).mono ?_; rintro e wa ⟨Xa, xa, rfl, -, -, hXa, hba0⟩; have hba : Bl V3 wa := (Bl.refl V3).drew.trans hba0; clear hba0; obtain ⟨u0, u1, u2, u3, u4, u5, u6, u7⟩ := (e3.bl hba).cells; have ul := (e3.bl hba).lt))
        all_goals
          go_wp2_with fail
          go_ret
          rw [hJ]
          exact ⟨Xb, xb, rfl, r1, r2, hXb, hbw3.trans (hba.trans hbb)⟩
    · cases px
      · refine todo_start [(0, .l), (1, .p), (2, .p), (3, .p), (4, .p), (5, .p), (6, .p), (7, .l), (8, .p), (9, .p), (10, .p), (11, .l), (12, .p), (13, .p), (14, .p), (15, .l), (18, .p), (19, .l), (24, .p), (25, .l), (26, .p), (27, .l), (28, .p)] ?_
        repeat (first
          | refine todo_p (v := ?_) rfl (by kernel_rfl) (fun _ _ _ h => h) (Or.inl ⟨by kernel_rfl, by intro w _; go_simp; try with_reducible rfl⟩) (hF _) ?_
          | refine todo_u (v := undef) rfl (by kernel_rfl) (fun _ _ _ h => h) (Or.inr ⟨by kernel_rfl, rfl⟩) (hF _) ?_
          | refine todo_l (v := ?_) (List.mem_cons_self ..) rfl (by kernel_rfl) (fun _ _ _ h => h) (Or.inl ⟨by kernel_rfl, by rintro w ⟨g0, g1, g2, g3, g4, g5, g6, g7⟩; go_simp; try with_reducible rfl⟩) (hF _) ?_)
        refine todo_end ?_
        refine wpAnyT_ready (rs := [16, 30]) (by kernel_rfl) (by simp) ?_
        refine AllReadyT.cons rfl (fun K hK => ?_) (AllReadyT.cons rfl (fun K hK => ?_) AllReadyT.nil)
        · go_simp
          go_wp2_with (go_at_call 191; refine (hwh.out _ (hbW.trans hbW2).drew).mono ?_; rintro e w7 ⟨rfl, hb7⟩)
          try (refine hK _ _ ?_)
          try clear hK K
          have hG7 := hGA.out _ _ _ _ ((Bl.refl V2).drew.trans hb7) hpx.out hrx.out hry.out
          replace hF : ∀ listed, HoldT [(31, W6F w.heap.size w1.heap.size w2.heap.size s true false x.used true y.pin y.used)] listed w7 := fun listed q hq hc => by rw [List.mem_singleton] at hq; subst hq; exact hG7
          clear hG7
          refine ⟨hF _, ?_⟩
          refine todo_start [(17, .p), (20, .p), (21, .p), (22, .l), (23, .p), (29, .p)] ?_
          repeat (first
            | refine todo_p (v := ?_) rfl (by kernel_rfl) (fun _ _ _ h => h) (Or.inl ⟨by kernel_rfl, by intro w _; go_simp; try with_reducible rfl⟩) (hF _) ?_
            | refine todo_u (v := undef) rfl (by kernel_rfl) (fun _ _ _ h => h) (Or.inr ⟨by kernel_rfl, rfl⟩) (hF _) ?_
            | refine todo_l (v := ?_) (List.mem_cons_self ..) rfl (by kernel_rfl) (fun _ _ _ h => h) (Or.inl ⟨by kernel_rfl, by rintro w ⟨g0, g1, g2, g3, g4, g5, g6, g7⟩; go_simp; try with_reducible rfl⟩) (hF _) ?_)
          refine todo_end ?_
          refine wpAnyT_ready (rs := [30]) (by kernel_rfl) (by simp) ?_
          refine AllReadyT.cons rfl (fun K hK => ?_) AllReadyT.nil
          go_simp
          refine hK _ _ ⟨fun q hq _ => by rw [List.mem_singleton] at hq; subst hq; exact hGA.out _ _ _ _ (((Bl.refl V2).drew.trans hb7).alloc _) hpx.out hrx.out hry.out, ?_⟩
          clear hK K
          refine wpAnyT_ready (rs := [31]) (by kernel_rfl) (by simp) ?_
          refine AllReadyT.cons rfl (fun K hK => ?_) AllReadyT.nil
          go_simp
          refine hK _ _ ⟨HoldT.none (by kernel_rfl), ?_⟩
          clear hK K
          refine wpAnyT_done (by kernel_rfl) ?_ _
          obtain ⟨Z, hZ⟩ : ∃ Z : Entry, Z = ⟨s, wr, y.pin, max x.used y.used, false, [], []⟩ := ⟨_, rfl⟩
          have hJ : J = withL (outL H m) Z := by rw [hZ]; exact hJ.out.trans (by rw [← hpx.out, ← hrx.out, ← hry.out]; rfl)
          have hzo : Z.ok := by rw [hZ]; exact ok_max hs hxo hyo
          have hzh := hide fun V : World => (show Held V Z none 0 none 0 by rw [hZ]; exact ⟨Nat.le_refl _, Nat.zero_le _, Nat.le_refl _, Nat.zero_le _, R.nil, R.nil⟩)
          obtain ⟨V3, hV3⟩ : ∃ V3, V3 = w7.alloc (.cells #[Value.int IntKind.u32 Z.id.t, Value.int IntKind.u8 Z.id.r, Value.bool Z.ready, Value.bool Z.pin, Value.int IntKind.i64 Z.used, Value.bool Z.known, Value.slice none Z.snap.length 0, Value.slice none Z.got.length 0] 62) := ⟨_, rfl⟩
          have e3 : EntAt V3 w7.heap.size Z none 0 none 0 := by rw [hV3]; exact EntAt.new w7 Z none 0 none 0 _
          have hb3 : Bl V2 V3 := by rw [hV3]; exact ((Bl.refl V2).drew.trans hb7).alloc _
          rw [hZ] at hV3
          simp only [List.length_nil] at hV3
          clear hF hGA hpx hrx hry hZ
          go_wp2_with fail
          go_upto_region 6 with fail
          rw [← hV3]
          clear hV3
          have hW3 := hbW2.trans hb3
          have hbw3 := hbW.trans hW3
          obtain ⟨j0, j1, -, -⟩ := at1.bl hW3
          have jl := (at1.bl hW3).lt
          obtain ⟨z0, z1, z2, z3, z4, z5, z6, z7⟩ := e3.cells
          have zl := e3.lt
          go_region_with (first
            | (go_at_call 190; refine (hwi.out Z Xa xa _ hXa hzo (hzh.out _)).mono ?_; rintro e wb ⟨Xb, xb, rfl, r1, r2, hXb, hbb⟩)
            | (go_at_call 192; refine (hwo.out _ (hbw3.trans (Bl.refl V3).drew)).mono ?_; rintro e wa ⟨Xa, xa, rfl, -, -, hXa, hba0⟩; have hba : Bl V3 wa := (Bl.refl V3).drew.trans hba0; clear hba0; obtain ⟨u0, u1, u2, u3, u4, u5, u6, u7⟩ := (e3.bl hba).cells; have ul := (e3.bl hba).lt))
          all_goals
            go_wp2_with fail
            go_ret
            rw [hJ]
            exact ⟨Xb, xb, rfl, r1, r2, hXb, hbw3.trans (hba.trans hbb)⟩
        · go_simp
          refine hK _ _ ⟨fun q hq _ => by rw [List.mem_singleton] at hq; subst hq; exact hGA.out _ _ _ _ ((Bl.refl V2).drew.alloc _) hpx.out hrx.out hry.out, ?_⟩
          clear hK K
          obtain ⟨V4, hV4⟩ : ∃ V4, V4 = (V2.alloc (.cells #[Value.int IntKind.u32 0, Value.int IntKind.u8 0, Value.bool false, Value.bool false, Value.int IntKind.i64 0, Value.bool false, Value.slice none 0 0, Value.slice none 0 0] 62)).drew := ⟨_, rfl⟩
          have z4 : EntAt V4 V2.heap.size zeroE none 0 none 0 := by rw [hV4]; exact EntAt.new V2 zeroE none 0 none 0 _
          have hb4 : Bl V2 V4 := by rw [hV4]; exact ((Bl.refl _).alloc _).drew
          try (change wpAnyT _ _ _ _ _ _ _ _ (World.drew (World.alloc V2 _)))
          rw [← hV4]
          clear hV4
          refine wpAnyT_ready (rs := [16]) (by kernel_rfl) (by simp) ?_
          refine AllReadyT.cons rfl (fun K hK => ?_) AllReadyT.nil
          go_simp
          go_wp2_with (go_at_call 191; refine (hwh.out _ (hbW.trans (hbW2.trans hb4))).mono ?_; rintro e w7 ⟨rfl, hb7⟩)
          try (refine hK _ _ ?_)
          try clear hK K
          have hb47 := hb4.trans hb7
          have hG7 := hGA.out _ _ _ _ hb47 hpx.out hrx.out hry.out
          replace hF : ∀ listed, HoldT [(31, W6F w.heap.size w1.heap.size w2.heap.size s true false x.used true y.pin y.used)] listed w7 := fun listed q hq hc => by rw [List.mem_singleton] at hq; subst hq; exact hG7
          clear hG7
          refine ⟨hF _, ?_⟩
          refine todo_start [(17, .p), (20, .p), (21, .p), (22, .l), (23, .p), (29, .p)] ?_
          repeat (first
            | refine todo_p (v := ?_) rfl (by kernel_rfl) (fun _ _ _ h => h) (Or.inl ⟨by kernel_rfl, by intro w _; go_simp; try with_reducible rfl⟩) (hF _) ?_
            | refine todo_u (v := undef) rfl (by kernel_rfl) (fun _ _ _ h => h) (Or.inr ⟨by kernel_rfl, rfl⟩) (hF _) ?_
            | refine todo_l (v := ?_) (List.mem_cons_self ..) rfl (by kernel_rfl) (fun _ _ _ h => h) (Or.inl ⟨by kernel_rfl, by rintro w ⟨g0, g1, g2, g3, g4, g5, g6, g7⟩; go_simp; try with_reducible rfl⟩) (hF _) ?_)
          refine todo_end ?_
          have z7 := z4.bl hb7
          obtain ⟨z0, z1, z2, z3, z4', z5, z6, z7'⟩ := z7.cells
          obtain ⟨g0, g1, g2, g3, g4, g5, g6, g7⟩ := z7.frozens
          have zl := z7.lt
          refine wpAnyT_ready (rs := [31]) (by kernel_rfl) (by simp) ?_
          refine AllReadyT.cons rfl (fun K hK => ?_) AllReadyT.nil
          go_simp
          refine hK _ _ ⟨HoldT.none (by kernel_rfl), ?_⟩
          clear hK K
          refine wpAnyT_done (by kernel_rfl) ?_ _
          clear z0 z1 z2 z3 z4' z5 z6 z7' g0 g1 g2 g3 g4 g5 g6 g7 zl
          obtain ⟨Z, hZ⟩ : ∃ Z : Entry, Z = ⟨s, wr, y.pin, max x.used y.used, false, [], []⟩ := ⟨_, rfl⟩
          have hJ : J = withL (outL H m) Z := by rw [hZ]; exact hJ.out.trans (by rw [← hpx.out, ← hrx.out, ← hry.out]; rfl)
          have hzo : Z.ok := by rw [hZ]; exact ok_max hs hxo hyo
          have hzh := hide fun V : World => (show Held V Z none 0 none 0 by rw [hZ]; exact ⟨Nat.le_refl _, Nat.zero_le _, Nat.le_refl _, Nat.zero_le _, R.nil, R.nil⟩)
          obtain ⟨V3, hV3⟩ : ∃ V3, V3 = set8 w7 V2.heap.size Z none 0 none 0 := ⟨_, rfl⟩
          have e3 : EntAt V3 V2.heap.size Z none 0 none 0 := by rw [hV3]; exact set8_at z7 _ _ _ _ _
          have hb3 : Bl V2 V3 := by rw [hV3]; exact set8_bl hb47 (Nat.le_refl _) _ _ _ _ _
          unfold set8 at hV3
          rw [hZ] at hV3
          simp only [List.length_nil] at hV3
          clear hF hGA hpx hrx hry hZ z7 z4
          go_wp2_with fail
          go_upto_region 6 with fail
          rw [← hV3]
          clear hV3
          have hW3 := hbW2.trans hb3
          have hbw3 := hbW.trans hW3
          obtain ⟨j0, j1, -, -⟩ := at1.bl hW3
          have jl := (at1.bl hW3).lt
          obtain ⟨z0, z1, z2, z3, z4, z5, z6, z7⟩ := e3.cells
          have zl := e3.lt
          go_region_with (first
            | (go_at_call 190; refine (hwi.out Z Xa xa _ hXa hzo (hzh.out _)).mono ?_; rintro e wb ⟨Xb, xb, rfl, r1, r2, hXb, hbb⟩)
            | (go_at_call 192; refine (hwo.out _ (hbw3.trans (Bl.refl V3).drew)).mono ?_; rintro e wa ⟨Xa, xa, rfl, -, -, hXa, hba0⟩; have hba : Bl V3 wa := (Bl.refl V3).drew.trans hba0; clear hba0; obtain ⟨u0, u1, u2, u3, u4, u5, u6, u7⟩ := (e3.bl hba).cells; have ul := (e3.bl hba).lt))
          all_goals
            go_wp2_with fail
            go_ret
            rw [hJ]
            exact ⟨Xb, xb, rfl, r1, r2, hXb, hbw3.trans (hba.trans hbb)⟩
      · refine todo_start [(0, .l), (1, .p), (2, .p), (3, .p), (4, .p), (5, .p), (6, .p), (7, .l), (8, .p), (9, .p), (10, .p), (11, .l), (12, .p), (13, .p), (14, .p), (15, .l), (18, .p), (19, .l), (24, .p), (25, .l), (26, .p), (27, .l), (28, .p)] ?_
        repeat (first
          | refine todo_p (v := ?_) rfl (by kernel_rfl) (fun _ _ _ h => h) (Or.inl ⟨by kernel_rfl, by intro w _; go_simp; try with_reducible rfl⟩) (hF _) ?_
          | refine todo_u (v := undef) rfl (by kernel_rfl) (fun _ _ _ h => h) (Or.inr ⟨by kernel_rfl, rfl⟩) (hF _) ?_
          | refine todo_l (v := ?_) (List.mem_cons_self ..) rfl (by kernel_rfl) (fun _ _ _ h => h) (Or.inl ⟨by kernel_rfl, by rintro w ⟨g0, g1, g2, g3, g4, g5, g6, g7⟩; go_simp; try with_reducible rfl⟩) (hF _) ?_)
        refine todo_end ?_
        refine wpAnyT_ready (rs := [16, 30]) (by kernel_rfl) (by simp) ?_
        refine AllReadyT.cons rfl (fun K hK => ?_) (AllReadyT.cons rfl (fun K hK => ?_) AllReadyT.nil)
        · go_simp
          go_wp2_with (go_at_call 191; refine (hwh.out _ (hbW.trans hbW2).drew).mono ?_; rintro e w7 ⟨rfl, hb7⟩)
          try (refine hK _ _ ?_)
          try clear hK K
          have hG7 := hGA.out _ _ _ _ ((Bl.refl V2).drew.trans hb7) hpx.out hrx.out hry.out
          replace hF : ∀ listed, HoldT [(31, W6F w.heap.size w1.heap.size w2.heap.size s true true x.used true y.pin y.used)] listed w7 := fun listed q hq hc => by rw [List.mem_singleton] at hq; subst hq; exact hG7
          clear hG7
          refine ⟨hF _, ?_⟩
          refine todo_start [(17, .p), (20, .p), (21, .u), (22, .u), (23, .p), (29, .p)] ?_
          repeat (first
            | refine todo_p (v := ?_) rfl (by kernel_rfl) (fun _ _ _ h => h) (Or.inl ⟨by kernel_rfl, by intro w _; go_simp; try with_reducible rfl⟩) (hF _) ?_
            | refine todo_u (v := undef) rfl (by kernel_rfl) (fun _ _ _ h => h) (Or.inr ⟨by kernel_rfl, rfl⟩) (hF _) ?_
            | refine todo_l (v := ?_) (List.mem_cons_self ..) rfl (by kernel_rfl) (fun _ _ _ h => h) (Or.inl ⟨by kernel_rfl, by rintro w ⟨g0, g1, g2, g3, g4, g5, g6, g7⟩; go_simp; try with_reducible rfl⟩) (hF _) ?_)
          refine todo_end ?_
          refine wpAnyT_ready (rs := [30]) (by kernel_rfl) (by simp) ?_
          refine AllReadyT.cons rfl (fun K hK => ?_) AllReadyT.nil
          go_simp
          refine hK _ _ ⟨fun q hq _ => by rw [List.mem_singleton] at hq; subst hq; exact hGA.out _ _ _ _ (((Bl.refl V2).drew.trans hb7).alloc _) hpx.out hrx.out hry.out, ?_⟩
          clear hK K
          refine wpAnyT_ready (rs := [31]) (by kernel_rfl) (by simp) ?_
          refine AllReadyT.cons rfl (fun K hK => ?_) AllReadyT.nil
          go_simp
          refine hK _ _ ⟨HoldT.none (by kernel_rfl), ?_⟩
          clear hK K
          refine wpAnyT_done (by kernel_rfl) ?_ _
          obtain ⟨Z, hZ⟩ : ∃ Z : Entry, Z = ⟨s, wr, true, max x.used y.used, false, [], []⟩ := ⟨_, rfl⟩
          have hJ : J = withL (outL H m) Z := by rw [hZ]; exact hJ.out.trans (by rw [← hpx.out, ← hrx.out, ← hry.out]; rfl)
          have hzo : Z.ok := by rw [hZ]; exact ok_max hs hxo hyo
          have hzh := hide fun V : World => (show Held V Z none 0 none 0 by rw [hZ]; exact ⟨Nat.le_refl _, Nat.zero_le _, Nat.le_refl _, Nat.zero_le _, R.nil, R.nil⟩)
          obtain ⟨V3, hV3⟩ : ∃ V3, V3 = w7.alloc (.cells #[Value.int IntKind.u32 Z.id.t, Value.int IntKind.u8 Z.id.r, Value.bool Z.ready, Value.bool Z.pin, Value.int IntKind.i64 Z.used, Value.bool Z.known, Value.slice none Z.snap.length 0, Value.slice none Z.got.length 0] 62) := ⟨_, rfl⟩
          have e3 : EntAt V3 w7.heap.size Z none 0 none 0 := by rw [hV3]; exact EntAt.new w7 Z none 0 none 0 _
          have hb3 : Bl V2 V3 := by rw [hV3]; exact ((Bl.refl V2).drew.trans hb7).alloc _
          rw [hZ] at hV3
          simp only [List.length_nil] at hV3
          clear hF hGA hpx hrx hry hZ
          go_wp2_with fail
          go_upto_region 6 with fail
          rw [← hV3]
          clear hV3
          have hW3 := hbW2.trans hb3
          have hbw3 := hbW.trans hW3
          obtain ⟨j0, j1, -, -⟩ := at1.bl hW3
          have jl := (at1.bl hW3).lt
          obtain ⟨z0, z1, z2, z3, z4, z5, z6, z7⟩ := e3.cells
          have zl := e3.lt
          go_region_with (first
            | (go_at_call 190; refine (hwi.out Z Xa xa _ hXa hzo (hzh.out _)).mono ?_; rintro e wb ⟨Xb, xb, rfl, r1, r2, hXb, hbb⟩)
            | (go_at_call 192; refine (hwo.out _ (hbw3.trans (Bl.refl V3).drew)).mono ?_; rintro e wa ⟨Xa, xa, rfl, -, -, hXa, hba0⟩; have hba : Bl V3 wa := (Bl.refl V3).drew.trans hba0; clear hba0; obtain ⟨u0, u1, u2, u3, u4, u5, u6, u7⟩ := (e3.bl hba).cells; have ul := (e3.bl hba).lt))
          all_goals
            go_wp2_with fail
            go_ret
            rw [hJ]
            exact ⟨Xb, xb, rfl, r1, r2, hXb, hbw3.trans (hba.trans hbb)⟩
        · go_simp
          refine hK _ _ ⟨fun q hq _ => by rw [List.mem_singleton] at hq; subst hq; exact hGA.out _ _ _ _ ((Bl.refl V2).drew.alloc _) hpx.out hrx.out hry.out, ?_⟩
          clear hK K
          obtain ⟨V4, hV4⟩ : ∃ V4, V4 = (V2.alloc (.cells #[Value.int IntKind.u32 0, Value.int IntKind.u8 0, Value.bool false, Value.bool false, Value.int IntKind.i64 0, Value.bool false, Value.slice none 0 0, Value.slice none 0 0] 62)).drew := ⟨_, rfl⟩
          have z4 : EntAt V4 V2.heap.size zeroE none 0 none 0 := by rw [hV4]; exact EntAt.new V2 zeroE none 0 none 0 _
          have hb4 : Bl V2 V4 := by rw [hV4]; exact ((Bl.refl _).alloc _).drew
          try (change wpAnyT _ _ _ _ _ _ _ _ (World.drew (World.alloc V2 _)))
          rw [← hV4]
          clear hV4
          refine wpAnyT_ready (rs := [16]) (by kernel_rfl) (by simp) ?_
          refine AllReadyT.cons rfl (fun K hK => ?_) AllReadyT.nil
          go_simp
          go_wp2_with (go_at_call 191; refine (hwh.out _ (hbW.trans (hbW2.trans hb4))).mono ?_; rintro e w7 ⟨rfl, hb7⟩)
          try (refine hK _ _ ?_)
          try clear hK K
          have hb47 := hb4.trans hb7
          have hG7 := hGA.out _ _ _ _ hb47 hpx.out hrx.out hry.out
          replace hF : ∀ listed, HoldT [(31, W6F w.heap.size w1.heap.size w2.heap.size s true true x.used true y.pin y.used)] listed w7 := fun listed q hq hc => by rw [List.mem_singleton] at hq; subst hq; exact hG7
          clear hG7
          refine ⟨hF _, ?_⟩
          refine todo_start [(17, .p), (20, .p), (21, .u), (22, .u), (23, .p), (29, .p)] ?_
          repeat (first
            | refine todo_p (v := ?_) rfl (by kernel_rfl) (fun _ _ _ h => h) (Or.inl ⟨by kernel_rfl, by intro w _; go_simp; try with_reducible rfl⟩) (hF _) ?_
            | refine todo_u (v := undef) rfl (by kernel_rfl) (fun _ _ _ h => h) (Or.inr ⟨by kernel_rfl, rfl⟩) (hF _) ?_
            | refine todo_l (v := ?_) (List.mem_cons_self ..) rfl (by kernel_rfl) (fun _ _ _ h => h) (Or.inl ⟨by kernel_rfl, by rintro w ⟨g0, g1, g2, g3, g4, g5, g6, g7⟩; go_simp; try with_reducible rfl⟩) (hF _) ?_)
          refine todo_end ?_
          have z7 := z4.bl hb7
          obtain ⟨z0, z1, z2, z3, z4', z5, z6, z7'⟩ := z7.cells
          obtain ⟨g0, g1, g2, g3, g4, g5, g6, g7⟩ := z7.frozens
          have zl := z7.lt
          refine wpAnyT_ready (rs := [31]) (by kernel_rfl) (by simp) ?_
          refine AllReadyT.cons rfl (fun K hK => ?_) AllReadyT.nil
          go_simp
          refine hK _ _ ⟨HoldT.none (by kernel_rfl), ?_⟩
          clear hK K
          refine wpAnyT_done (by kernel_rfl) ?_ _
          clear z0 z1 z2 z3 z4' z5 z6 z7' g0 g1 g2 g3 g4 g5 g6 g7 zl
          obtain ⟨Z, hZ⟩ : ∃ Z : Entry, Z = ⟨s, wr, true, max x.used y.used, false, [], []⟩ := ⟨_, rfl⟩
          have hJ : J = withL (outL H m) Z := by rw [hZ]; exact hJ.out.trans (by rw [← hpx.out, ← hrx.out, ← hry.out]; rfl)
          have hzo : Z.ok := by rw [hZ]; exact ok_max hs hxo hyo
          have hzh := hide fun V : World => (show Held V Z none 0 none 0 by rw [hZ]; exact ⟨Nat.le_refl _, Nat.zero_le _, Nat.le_refl _, Nat.zero_le _, R.nil, R.nil⟩)
          obtain ⟨V3, hV3⟩ : ∃ V3, V3 = set8 w7 V2.heap.size Z none 0 none 0 := ⟨_, rfl⟩
          have e3 : EntAt V3 V2.heap.size Z none 0 none 0 := by rw [hV3]; exact set8_at z7 _ _ _ _ _
          have hb3 : Bl V2 V3 := by rw [hV3]; exact set8_bl hb47 (Nat.le_refl _) _ _ _ _ _
          unfold set8 at hV3
          rw [hZ] at hV3
          simp only [List.length_nil] at hV3
          clear hF hGA hpx hrx hry hZ z7 z4
          go_wp2_with fail
          go_upto_region 6 with fail
          rw [← hV3]
          clear hV3
          have hW3 := hbW2.trans hb3
          have hbw3 := hbW.trans hW3
          obtain ⟨j0, j1, -, -⟩ := at1.bl hW3
          have jl := (at1.bl hW3).lt
          obtain ⟨z0, z1, z2, z3, z4, z5, z6, z7⟩ := e3.cells
          have zl := e3.lt
          go_region_with (first
            | (go_at_call 190; refine (hwi.out Z Xa xa _ hXa hzo (hzh.out _)).mono ?_; rintro e wb ⟨Xb, xb, rfl, r1, r2, hXb, hbb⟩)
            | (go_at_call 192; refine (hwo.out _ (hbw3.trans (Bl.refl V3).drew)).mono ?_; rintro e wa ⟨Xa, xa, rfl, -, -, hXa, hba0⟩; have hba : Bl V3 wa := (Bl.refl V3).drew.trans hba0; clear hba0; obtain ⟨u0, u1, u2, u3, u4, u5, u6, u7⟩ := (e3.bl hba).cells; have ul := (e3.bl hba).lt))
          all_goals
            go_wp2_with fail
            go_ret
            rw [hJ]
            exact ⟨Xb, xb, rfl, r1, r2, hXb, hbw3.trans (hba.trans hbb)⟩

theorem refJoined20 (A B : Option Addr) (c d : Nat) (l2 : List Op) (H : List Entry) (s m : Id) (wr : Bool) (w : World) (hh : H.length ≤ 100) (hd1 : H.length ≤ d) (hd2 : d ≤ maxLen) (hs : s.ok) (hB : R cEntry 0 w B H)
    (hwh : ∀ V, Bl w V → Calls Tryz.prog 191 #[.slice A l2.length c, .agg #[.int .u32 s.t, .int .u8 s.r]] V fun e w' => e = .returned (.bool wr) ∧ Bl V w') :
    Calls Tryz.prog 141 #[.slice A l2.length c, .slice B H.length d, .agg #[.int .u32 s.t, .int .u8 s.r], .agg #[.int .u32 m.t, .int .u8 m.r]] w (NewSh (joinR wr H s m) w) := by
  cases h1 : ofB H s <;> cases h2 : ofB H m
  · exact refJoined20FF A B c d l2 H s m wr w hh hd1 hd2 hs hB hwh h1 h2
  · exact refJoined20FT A B c d l2 H s m wr w hh hd1 hd2 hs hB hwh h1 h2
  · exact refJoined20TF A B c d l2 H s m wr w hh hd1 hd2 hs hB hwh h1 h2
  · exact refJoined20TT A B c d l2 H s m wr w hh hd1 hd2 hs hB hwh h1 h2

end Go.Proofs.YteoodmilcpmmpaaGreat

namespace Go.Proofs.YteoodmilcpmmpaaGreat

open Go.RowKit

theorem ahead_get {l : List Op} {m : Id} {n : Nat} (hb : bagMay l = true) (h : whereF (livesF l) m = ((n + 1 : Nat) : Int)) : (sectF (livesF l))[n]? = some (aheadS l m) := by
  have hw : whereN l m 1 = 0 := by
    unfold whereN
    rw [hb, if_pos rfl, if_neg]
    unfold whereF at h
    omega
  unfold whereF at h
  have h1 := idxOf_get h
  have hlt : n < (sectF (livesF l)).length := by have := (List.getElem?_eq_some_iff.1 h1).1; omega
  obtain ⟨y, hy⟩ := get_lt hlt
  unfold aheadS
  rw [if_pos hw, h, Int.toNat_natCast, Nat.add_sub_cancel, hy]
  rfl

set_option maxRecDepth 100000 in
set_option maxHeartbeats 8000000 in
theorem refBehind20 (A B S : Option Addr) (c d sc : Nat) (l : List Op) (H : List Entry) (o : Op) (w : World) (hf : fitsB l H = true) (hm : opMay o = true) (hc : contentO o = false) (hfull : 1024 ≤ l.length → hasId l o.id = true) (hlc : l.length ≤ c) (hcm : c ≤ maxLen) (hh : H.length ≤ 100) (hd1 : H.length ≤ d) (hd2 : d ≤ maxLen) (hA : R cOp 0 w A l) (hB : R cEntry 0 w B H) (ho : OpIn w o S sc) :
    Calls Tryz.prog 85 #[.slice A l.length c, .slice B H.length d, .agg #[.int .u8 o.kind, .int .u32 o.id.t, .int .u8 o.id.r, .slice S o.pl.length sc, .int .i64 o.pt]] w (NewSh (behR (wholeB (addL l o) (aheadS l (placeFin o.pl))) l H o) w) := by
  obtain ⟨f1, f2, -⟩ := fits_iff.1 hf
  have hl1 : l.length ≤ 1024 := (bagMay_parts f1).1
  have hlm : l.length ≤ maxLen := by unfold maxLen; omega
  obtain ⟨W, hW⟩ : ∃ W, W = w.alloc (.cells #[Value.int IntKind.u8 o.kind, Value.int IntKind.u32 o.id.t, Value.int IntKind.u8 o.id.r, Value.slice S o.pl.length sc, Value.int IntKind.i64 o.pt] 47) := ⟨_, rfl⟩
  have hbW : Bl w W := by rw [hW]; exact (Bl.refl _).alloc _
  have at0 : OpBox W w.heap.size o S sc := by rw [hW]; exact OpBox.new w o S sc _
  have hha := hide (refHas11 A c l o.id W hlm (hA.bl hbW))
  have hli := hide fun V (hv : Bl w V) => refLives12 A c l V (by omega) (bag_places f1) (hA.bl hv)
  have hen := hide fun V (hv : Bl w V) => refEnded12 A c l o.id V hlm (bag_places f1) (hA.bl hv)
  have hLl : (livesF l).length ≤ 1048576 := by have := lives_small f1; omega
  have hhm := hide fun X x V (hv : Bl w V) (hX : R cOp 0 V X (livesF l)) => refHome13 X S x sc (livesF l) o.pl V (by unfold maxLen; omega) (lives_places f1) (opAny20 hm) ho.h1 ho.h2 hX (ho.hR.bl hv)
  have hmk := hide fun s V (hv : Bl w V) => refMarked20 B d H s o.id V hh hd1 hd2 ho.ok.2.1 (hB.bl hv)
  have hta := hide fun V (hv : Bl w V) => refTarget09 o S sc V (ho.bl hv) (opMay_pl20 hm)
  have hwh := hide fun X x V (hX : R cOp 0 V X (livesF l)) => refWhere13 X x (livesF l) (placeFin o.pl) V hLl hX
  have hse := hide fun X x V (hX : R cOp 0 V X (livesF l)) => refSect13 X x (livesF l) V hLl hX
  have hwi := hide fun V (hv : Bl w V) => refWith11 A S c sc l o V (by omega) hlc hcm (hA.bl hv) (ho.bl hv)
  have hag := hide fun n (h : whereF (livesF l) (placeFin o.pl) = ((n + 1 : Nat) : Int)) => ahead_get f1 h
  have hjo := hide fun (hno : hasId l o.id = false) Y y V (hv : Bl w V) (hY : R cOp 0 V Y (withB l o)) =>
    have hz := add_zero20 f1 hm (by rcases Nat.lt_or_ge l.length 1024 with h | h; exact h; exact absurd (hfull h) (by rw [hno]; decide))
    have ht := whole_tells hz hno
    refJoined20 Y B y d (withB l o) H (aheadS l (placeFin o.pl)) (placeFin o.pl) (wholeB (addL l o) (aheadS l (placeFin o.pl))) V hh hd1 hd2 (aheadS_ok hA.oksO _) (hB.bl hv) (fun V' hv' => by
      rw [ht.1]
      exact refWhole20 Y y (withB l o) (aheadS l (placeFin o.pl)) V' ht.2 (hY.bl hv'))
  have hk := kind_two hm hc
  obtain ⟨J, hJ⟩ : ∃ J, J = behR (wholeB (addL l o) (aheadS l (placeFin o.pl))) l H o := ⟨_, rfl⟩
  rw [← hJ]
  unfold behR at hJ
  generalize wholeB (addL l o) (aheadS l (placeFin o.pl)) = wr at *
  obtain ⟨x0, x1, x2, x3, x4⟩ := at0.cells
  have xl := at0.lt
  clear hfull hc hm hf f2
  cases hi : hasId l o.id
  rotate_left
  · rw [hi] at hha hJ
    replace hJ : J = H := hJ
    clear hi hli hen hhm hmk hta hwh hse hwi hag hjo hk
    go_enter Tryz.func85, Tryz.ntmps85
    go_wp2_with fail
    rw [← hW]
    clear hW
    refine hha.out.mono ?_
    rintro e w1 ⟨rfl, hb1⟩
    go_wp2_with fail
    go_ret
    rw [hJ]
    exact ⟨B, d, rfl, hd1, hd2, hB.bl (hbW.trans hb1), hbW.trans hb1⟩
  rw [hi] at hha hJ
  rw [if_neg (by decide)] at hJ
  replace hjo := hide (hjo.out hi)
  clear hi
  by_cases k2 : o.kind = 2
  · have ek : (o.kind == 2) = true := by simp [k2]
    rw [if_pos k2] at hJ
    replace k2 := hide k2
    clear hk hta hwh hse hwi hag hjo
    cases he : endedF l o.id
    rotate_left
    · rw [he] at hen hJ
      replace hJ : J = H := hJ
      clear he hhm hmk
      go_enter Tryz.func85, Tryz.ntmps85
      go_wp2_with fail
      rw [← hW]
      clear hW
      refine hha.out.mono ?_
      rintro e w1 ⟨rfl, hb1⟩
      have hbw1 := hbW.trans hb1
      go_wp2_with fail
      refine (hli.out _ hbw1).mono ?_
      rintro e w2 ⟨X, x, rfl, -, -, hX, hb2⟩
      have hbw2 := hbw1.trans hb2
      have hbW2 := hb1.trans hb2
      clear x0 x1 x2 x3 x4 xl
      obtain ⟨x0, x1, x2, x3, x4⟩ := (at0.bl hbW2).cells
      have xl := (at0.bl hbW2).lt
      go_wp2_with fail
      refine (hen.out _ hbw2).mono ?_
      rintro e w3 ⟨rfl, hb3⟩
      go_wp2_with fail
      go_ret
      rw [hJ]
      exact ⟨B, d, rfl, hd1, hd2, hB.bl (hbw2.trans hb3), hbw2.trans hb3⟩
    rw [he] at hen hJ
    replace hJ : J = markR H (homeF (livesF l) o.pl) o.id := hJ
    clear he
    replace hJ := hide hJ
    generalize homeF (livesF l) o.pl = s at *
    go_enter Tryz.func85, Tryz.ntmps85
    go_wp2_with fail
    rw [← hW]
    clear hW
    refine hha.out.mono ?_
    rintro e w1 ⟨rfl, hb1⟩
    have hbw1 := hbW.trans hb1
    go_wp2_with fail
    refine (hli.out _ hbw1).mono ?_
    rintro e w2 ⟨X, x, rfl, -, -, hX, hb2⟩
    have hbw2 := hbw1.trans hb2
    have hbW2 := hb1.trans hb2
    clear x0 x1 x2 x3 x4 xl
    obtain ⟨x0, x1, x2, x3, x4⟩ := (at0.bl hbW2).cells
    have xl := (at0.bl hbW2).lt
    go_wp2_with fail
    refine (hen.out _ hbw2).mono ?_
    rintro e w3 ⟨rfl, hb3⟩
    have hbw3 := hbw2.trans hb3
    have hX3 := hX.bl hb3
    have hbW3 := hbW2.trans hb3
    clear x0 x1 x2 x3 x4 xl
    obtain ⟨x0, x1, x2, x3, x4⟩ := (at0.bl hbW3).cells
    have xl := (at0.bl hbW3).lt
    go_upto_region 7 with fail
    go_region_with (first
      | (go_at_call 139; refine (hmk.out s _ (hbw3.trans hba)).mono ?_; rintro e wb ⟨Xb, xb, rfl, r1, r2, hXb, hbb⟩)
      | (go_at_call 47; refine (hhm.out X x _ (hbw3.trans (Bl.refl w3).drew) (hX3.bl (Bl.refl w3).drew)).mono ?_; rintro e wa ⟨rfl, hba0⟩; have hba : Bl w3 wa := (Bl.refl w3).drew.trans hba0; clear hba0; obtain ⟨u0, u1, u2, u3, u4⟩ := (at0.bl (hbW3.trans hba)).cells; have ul := (at0.bl (hbW3.trans hba)).lt))
    all_goals
      go_wp2_with fail
      go_ret
      rw [hJ.out]
      exact ⟨Xb, xb, rfl, r1, r2, hXb, hbw3.trans (hba.trans hbb)⟩
  have ek : (o.kind == 2) = false := by simp [k2]
  rw [if_neg k2] at hJ
  replace k2 := hide k2
  clear hk hhm hmk hen
  by_cases hw1 : whereF (livesF l) (placeFin o.pl) < 1
  · have ew : decide (whereF (livesF l) (placeFin o.pl) < 1) = true := decide_eq_true hw1
    rw [if_pos hw1] at hJ
    replace hJ : J = H := hJ
    clear hag hse hwi hjo
    generalize whereF (livesF l) (placeFin o.pl) = at1 at *
    generalize placeFin o.pl = m at *
    replace hw1 := hide hw1
    go_enter Tryz.func85, Tryz.ntmps85
    go_wp2_with fail
    rw [← hW]
    clear hW
    refine hha.out.mono ?_
    rintro e w1 ⟨rfl, hb1⟩
    have hbw1 := hbW.trans hb1
    go_wp2_with fail
    refine (hli.out _ hbw1).mono ?_
    rintro e w2 ⟨X, x, rfl, -, -, hX, hb2⟩
    have hbw2 := hbw1.trans hb2
    have hbW2 := hb1.trans hb2
    clear x0 x1 x2 x3 x4 xl
    obtain ⟨x0, x1, x2, x3, x4⟩ := (at0.bl hbW2).cells
    have xl := (at0.bl hbW2).lt
    go_wp2_with fail
    refine (hta.out _ hbw2).mono ?_
    rintro e w3 ⟨rfl, hb3⟩
    obtain ⟨V3, hV3⟩ : ∃ V3, V3 = w3.alloc (.cells #[Value.int IntKind.u32 m.t, Value.int IntKind.u8 m.r] 25) := ⟨_, rfl⟩
    have at3 : IdBox V3 w3.heap.size m := by rw [hV3]; exact IdBox.new w3 m _
    have hb3V : Bl w2 V3 := by rw [hV3]; exact hb3.alloc _
    obtain ⟨i0, i1, -, -⟩ := id at3
    have il := at3.lt
    go_upto_region 9 with fail
    rw [← hV3]
    clear hV3
    go_wp2_with fail
    refine (hwh.out X x V3 (hX.bl hb3V)).mono ?_
    rintro e w4 ⟨rfl, hb4⟩
    go_wp2_with fail
    go_ret
    rw [hJ]
    exact ⟨B, d, rfl, hd1, hd2, hB.bl (hbw2.trans (hb3V.trans hb4)), hbw2.trans (hb3V.trans hb4)⟩
  have ew : decide (whereF (livesF l) (placeFin o.pl) < 1) = false := decide_eq_false hw1
  rw [if_neg hw1] at hJ
  obtain ⟨n, hn⟩ : ∃ n : Nat, whereF (livesF l) (placeFin o.pl) = ((n + 1 : Nat) : Int) := ⟨(whereF (livesF l) (placeFin o.pl)).toNat - 1, by omega⟩
  have hgn := hag.out n hn
  have hnl : n < (sectF (livesF l)).length := (List.getElem?_eq_some_iff.1 hgn).1
  have hsl : (sectF (livesF l)).length ≤ 1048577 := by rw [sect_length]; omega
  rw [hn] at hwh ew
  clear hag hw1 hn
  replace hJ := hide hJ
  generalize aheadS l (placeFin o.pl) = s at *
  generalize placeFin o.pl = m at *
  replace hgn := hide hgn
  generalize sectF (livesF l) = SE at *
  go_enter Tryz.func85, Tryz.ntmps85
  go_wp2_with fail
  rw [← hW]
  clear hW
  refine hha.out.mono ?_
  rintro e w1 ⟨rfl, hb1⟩
  have hbw1 := hbW.trans hb1
  go_wp2_with fail
  refine (hli.out _ hbw1).mono ?_
  rintro e w2 ⟨X, x, rfl, -, -, hX, hb2⟩
  have hbw2 := hbw1.trans hb2
  have hbW2 := hb1.trans hb2
  clear x0 x1 x2 x3 x4 xl
  obtain ⟨x0, x1, x2, x3, x4⟩ := (at0.bl hbW2).cells
  have xl := (at0.bl hbW2).lt
  go_wp2_with fail
  refine (hta.out _ hbw2).mono ?_
  rintro e w3 ⟨rfl, hb3⟩
  obtain ⟨V3, hV3⟩ : ∃ V3, V3 = w3.alloc (.cells #[Value.int IntKind.u32 m.t, Value.int IntKind.u8 m.r] 25) := ⟨_, rfl⟩
  have at3 : IdBox V3 w3.heap.size m := by rw [hV3]; exact IdBox.new w3 m _
  have hb3V : Bl w2 V3 := by rw [hV3]; exact hb3.alloc _
  obtain ⟨i0, i1, -, -⟩ := id at3
  have il := at3.lt
  clear x0 x1 x2 x3 x4 xl
  go_upto_region 9 with fail
  rw [← hV3]
  clear hV3
  go_wp2_with fail
  refine (hwh.out X x V3 (hX.bl hb3V)).mono ?_
  rintro e w4 ⟨rfl, hb4⟩
  have hb24 := hb3V.trans hb4
  have hbW4 := hbW2.trans hb24
  have hbw4 := hbw2.trans hb24
  have hX4 := hX.bl hb24
  have at4 := at3.bl hb4
  obtain ⟨x0, x1, x2, x3, x4⟩ := (at0.bl hbW4).cells
  have xl := (at0.bl hbW4).lt
  clear i0 i1 il
  obtain ⟨i0, i1, -, -⟩ := id at4
  have il := at4.lt
  have hwn : IntKind.i64.wrap (n : Int) = (n : Int) := IntWalk.i64_in _ (by omega)
  have hni : (n : Int) < (SE.length : Int) := by omega
  have hn0 : (0 : Int) ≤ (n : Int) := by omega
  go_upto_region 12 with fail
  go_region_with (first
    | (go_at_call 141; refine (hjo.out Y y _ (hbw4.trans hbj) (hY.bl hbyj)).mono ?_; rintro e wj ⟨Xb, xb, rfl, r1, r2, hXb, hbb⟩)
    | (go_at_call 142; first
        | (refine (hwi.out _ (hbw4.trans hbs)).mono ?_; rintro e wy ⟨Y, y, rfl, -, -, hY, hby0⟩; have hbj : Bl w4 wy := hbs.trans hby0; have hbyj : Bl wy wy := Bl.refl _; have c0' := (hby0.cell hTl).trans hT0; have c1' := (hby0.cell hTl).trans hT1; have hTl' := Nat.lt_of_lt_of_le hTl hby0.size; obtain ⟨u0, u1, -, -⟩ := at4.bl hbj; have ul := (at4.bl hbj).lt)
        | (refine (hwi.out _ (hbw4.trans (Bl.refl w4).drew)).mono ?_; rintro e wy ⟨Y, y, rfl, -, -, hY, hby0⟩; have hby : Bl w4 wy := (Bl.refl w4).drew.trans hby0; obtain ⟨u0, u1, -, -⟩ := at4.bl hby; have ul := (at4.bl hby).lt))
    | (go_at_call 143; first
        | (refine (hse.out X x _ (hX4.bl hby)).mono ?_; rintro e ws ⟨T, t, rfl, -, -, hT, hbs0⟩; have hbj : Bl w4 ws := hby.trans hbs0; have hbyj : Bl wy ws := hbs0; obtain ⟨tb, toff, rfl, -, hTl⟩ := hT.addr (Nat.lt_of_le_of_lt (Nat.zero_le _) hnl); obtain ⟨-, -, hT0, hT1⟩ := hT.id hgn.out; obtain ⟨u0, u1, -, -⟩ := at4.bl hbj; have ul := (at4.bl hbj).lt)
        | (refine (hse.out X x _ (hX4.bl (Bl.refl w4).drew)).mono ?_; rintro e ws ⟨T, t, rfl, -, -, hT, hbs0⟩; have hbs : Bl w4 ws := (Bl.refl w4).drew.trans hbs0; obtain ⟨tb, toff, rfl, -, hTl⟩ := hT.addr (Nat.lt_of_le_of_lt (Nat.zero_le _) hnl); obtain ⟨-, -, hT0, hT1⟩ := hT.id hgn.out; obtain ⟨u0, u1, -, -⟩ := at4.bl hbs; have ul := (at4.bl hbs).lt; obtain ⟨v0, v1, v2, v3, v4⟩ := (at0.bl (hbW4.trans hbs)).cells; have vl := (at0.bl (hbW4.trans hbs)).lt)))
  all_goals
    go_wp2_with fail
    go_ret
    rw [hJ.out]
    exact ⟨Xb, xb, rfl, r1, r2, hXb, hbw4.trans (hbj.trans hbb)⟩

end Go.Proofs.YteoodmilcpmmpaaGreat

namespace Go.Proofs.YteoodmilcpmmpaaGreat

open Go.RowKit

theorem with_small {l : List Entry} {x : Entry} (hl : ∀ y ∈ l, smallE y) (hx : smallE x) : ∀ y ∈ withL l x, smallE y := fun y hy => by
  rcases with_entry hy with e | hy
  · rw [e]; exact hx
  · exact hl y hy

theorem nil_small {x : Entry} (h1 : x.snap = []) (h2 : x.got = []) : smallE x := by
  unfold smallE
  rw [h1, h2]
  exact ⟨⟨by simp, fun y hy => by cases hy⟩, by simp⟩

theorem behR_small {wr : Bool} {l : List Op} {H : List Entry} {o : Op} (hh : H.length ≤ 100) (hs : ∀ y ∈ H, smallE y) : smallS (behR wr l H o) := by
  unfold behR
  have h0 : smallS H := ⟨by omega, hs⟩
  split
  · exact h0
  · split
    · split
      · exact h0
      · unfold markR
        split
        · refine ⟨?_, with_small (with_small hs (nil_small rfl rfl)) (nil_small rfl rfl)⟩
          refine Nat.le_trans (with_len1 _ _) ?_
          have := with_len1 H (blankE (ofE H (homeF (livesF l) o.pl)))
          omega
        · exact h0
    · split
      · exact h0
      · unfold joinR
        split
        · refine ⟨?_, with_small (fun y hy => hs y (out_entry hy)) (nil_small rfl rfl)⟩
          refine Nat.le_trans (with_len1 _ _) ?_
          have h2 : (outL H (placeFin o.pl)).length ≤ H.length := List.length_filter_le _ _
          omega
        · exact h0

end Go.Proofs.YteoodmilcpmmpaaGreat

namespace Go.Proofs.YteoodmilcpmmpaaGreat

open Go.RowKit

/-- Of one kind: a bool, a small number, a number; or the same. -/
inductive Kin : Value → Value → Prop
  | bool (a b : Bool) : Kin (.bool a) (.bool b)
  | u8 (a b : Int) : Kin (.int .u8 a) (.int .u8 b)
  | u32 (a b : Int) : Kin (.int .u32 a) (.int .u32 b)
  | i64 (a b : Int) : Kin (.int .i64 a) (.int .i64 b)
  | same (u : Value) : Kin u u

theorem Kin.trans {u v x : Value} (h : Kin u v) (k : Kin v x) : Kin u x := by
  cases h <;> cases k <;> first | exact Kin.bool _ _ | exact Kin.u8 _ _ | exact Kin.u32 _ _ | exact Kin.i64 _ _ | exact Kin.same _

theorem Kin.ofBool {a : Bool} {v : Value} (h : Kin (.bool a) v) : ∃ b, v = .bool b := by
  cases h
  · exact ⟨_, rfl⟩
  · exact ⟨_, rfl⟩

theorem Kin.ofI64 {a : Int} {v : Value} (h : Kin (.int .i64 a) v) : ∃ b, v = .int .i64 b := by
  cases h
  · exact ⟨_, rfl⟩
  · exact ⟨_, rfl⟩

theorem Kin.ofSlice {A : Option Addr} {n c : Nat} {v : Value} (h : Kin (.slice A n c) v) : v = .slice A n c := by cases h; rfl

/-- Each cell holds what it held, or another one of that kind. -/
def Sim (w w' : World) : Prop := ∀ b o u, w.cell? ⟨b, o, none⟩ = some u → (∃ u', w'.cell? ⟨b, o, none⟩ = some u' ∧ Kin u u') ∧ w'.frozen? ⟨b, o, none⟩ = w.frozen? ⟨b, o, none⟩

theorem Sim.refl (w : World) : Sim w w := fun _ _ u h => ⟨⟨u, h, Kin.same u⟩, rfl⟩

theorem Sim.set {w w' : World} (h : Sim w w') {b o : Nat} {v u : Value} (hc : w'.cell? ⟨b, o, none⟩ = some v) (hk : Kin v u) : Sim w (w'.setCell ⟨b, o, none⟩ u) := fun b' o' x hx => by
  obtain ⟨⟨u', h1, h2⟩, h3⟩ := h b' o' x hx
  refine ⟨?_, by rw [World.frozen?_setCell]; exact h3⟩
  by_cases e : (⟨b', o', none⟩ : Addr) = ⟨b, o, none⟩
  · injection e with e1 e2 _
    subst e1 e2
    rw [hc] at h1
    obtain rfl := Option.some.inj h1
    exact ⟨u, cell_set_same hc, h2.trans hk⟩
  · exact ⟨u', cell_set_other e h1, h2⟩

theorem Sim.drew {w w' : World} (h : Sim w w') : Sim w w'.drew := h

theorem Sim.slice {w w' : World} (h : Sim w w') {b o : Nat} {A : Option Addr} {n c : Nat} (hc : w.cell? ⟨b, o, none⟩ = some (.slice A n c)) : w'.cell? ⟨b, o, none⟩ = some (.slice A n c) := by
  obtain ⟨⟨u, h1, h2⟩, _⟩ := h b o _ hc
  rw [h1, h2.ofSlice]

theorem R.entryUsed {lo : Nat} {w : World} {b off k : Nat} {l : List Entry} {x : Entry} (h : R cEntry lo w (some ⟨b, off, none⟩) l) (hk : l[k]? = some x) : w.cell? ⟨b, off + k * 8 + 4, none⟩ = some (.int .i64 x.used) ∧ w.frozen? ⟨b, off + k * 8 + 4, none⟩ = false := by
  obtain ⟨h1, m, ⟨ho, A, c, B, d, a1, a2, a3, a4, rfl, hr, hs⟩, ha⟩ := R.get h hk
  exact ha 4 _ rfl

theorem sameE_self (l : List Entry) {A B : Option Addr} {c d : Nat} {w : World} (hl : l.length ≤ maxLen) (hA : R cEntry 0 w A l) (hB : R cEntry 0 w B l) :
    Calls Tryz.prog 31 #[.slice A l.length c, .slice B l.length d] w fun e w' => e = .returned (.bool true) ∧ Bl w w' := by
  have h := refSame19 A B c d l l w hl hl hA hB
  rwa [show same l l = true by unfold same; simp] at h

theorem sameO_self (l : List Op) {A B : Option Addr} {c d : Nat} {w : World} (hl : l.length ≤ maxLen) (hA : R cOp 0 w A l) (hB : R cOp 0 w B l) :
    Calls Tryz.prog 16 #[.slice A l.length c, .slice B l.length d] w fun e w' => e = .returned (.bool true) ∧ Bl w w' := by
  have h := refSame11 A B c d l l w hl hl hA hB
  rwa [show same l l = true by unfold same; simp] at h

set_option maxRecDepth 100000 in
set_option maxHeartbeats 16000000 in
theorem shiftTells20 (A B S : Option Addr) (c d sc : Nat) (l : List Op) (H : List Entry) (o : Op) (w : World) (hl : l.length ≤ 140737488355328) (hh : H.length ≤ 140737488355328) (hq : QShelf H) (hlc : l.length ≤ c) (hcm : c ≤ maxLen) (hd1 : H.length ≤ d) (hd2 : d ≤ maxLen) (hA : R cOp 0 w A l) (hB : R cEntry 0 w B H) (ho : OpIn w o S sc) :
    Calls Tryz.prog 6 #[.slice A l.length c, .slice B H.length d, .agg #[.int .u8 o.kind, .int .u32 o.id.t, .int .u8 o.id.r, .slice S o.pl.length sc, .int .i64 o.pt]] w fun e w' => e = .returned (.bool true) ∧ Bl w w' := by
  have hlm : l.length ≤ maxLen := by unfold maxLen; omega
  have hhm : H.length ≤ maxLen := by unfold maxLen; omega
  obtain ⟨W, hW⟩ : ∃ W, W = w.alloc (.cells #[Value.int IntKind.u8 o.kind, Value.int IntKind.u32 o.id.t, Value.int IntKind.u8 o.id.r, Value.slice S o.pl.length sc, Value.int IntKind.i64 o.pt] 47) := ⟨_, rfl⟩
  have hbW : Bl w W := by rw [hW]; exact (Bl.refl _).alloc _
  have at0 : OpBox W w.heap.size o S sc := by rw [hW]; exact OpBox.new w o S sc _
  have hga := hide (fun V (hb : Bl w V) => refGreat10 A c l 40 V hl (hA.bl hb))
  have hgb := hide (fun V (hb : Bl w V) => refGreat19 B d H V hh hq (hB.bl hb))
  clear hq
  go_enter Tryz.func6, Tryz.ntmps6
  go_wp2_with fail
  rw [← hW]
  clear hW
  refine (hga.out _ hbW).mono ?_
  rintro e w1 ⟨ba, rfl, hfa, hb1⟩
  have hbw1 := hbW.trans hb1
  cases ba
  rotate_left
  · clear hfa hgb
    go_wp2_with fail
    go_ret
    exact ⟨rfl, hbw1⟩
  obtain ⟨hl40, hpl⟩ := hfa rfl
  clear hfa hga
  rw [List.take_of_length_le (by omega)] at hpl
  replace hpl := hide hpl
  go_wp2_with fail
  refine (hgb.out _ hbw1).mono ?_
  rintro e w2 ⟨bb, rfl, hfb, hb2⟩
  have hbw2 := hbw1.trans hb2
  have hbW2 := hb1.trans hb2
  cases bb
  rotate_left
  · clear hfb
    go_wp2_with fail
    go_ret
    exact ⟨rfl, hbw2⟩
  obtain ⟨hh80, hfe⟩ := hfb rfl
  clear hfb hgb
  replace hfe := hide hfe
  obtain ⟨x0, x1, x2, x3, x4⟩ := (at0.bl hbW2).cells
  have hxl := (at0.bl hbW2).lt
  by_cases hp : (100 : Int) < (o.pl.length : Int)
  · go_wp2_with fail
    go_ret
    exact ⟨rfl, hbw2⟩
  have hcop : copyB l := ⟨by omega, fun x hx => by have := hpl.out x hx; omega⟩
  have hsE : ∀ y ∈ H, smallE y := fun y hy => by
    obtain ⟨⟨h1, h2⟩, h3⟩ := hfe.out y hy
    exact ⟨⟨by omega, fun z hz => by have := h2 z hz; omega⟩, by omega⟩
  have hsm : smallS H := ⟨by omega, hsE⟩
  have htl := hide (refTwin11 A c l w2 hcop (hA.bl hbw2))
  have hth := hide fun V (hv : Bl w V) => refTwin19 B d H V hsm (hB.bl hv)
  have hF := behR_small (wr := wholeB (addL l o) (aheadS l (placeFin o.pl))) (l := l) (o := o) (H := H) (by omega) hsE
  have hsh := hide fun O oc M mc V (hv : Bl w V) (hO : R cOp 0 V O l) (hM : R cEntry 0 V M H) => shiftTurn O M S oc mc sc l H o V hlm hhm hO hM (ho.bl hv)
  have hrt := hide fun V (hv : Bl w V) => refTurn20 A B S c d sc l H _ o V hlm hhm hF (hA.bl hv) (hB.bl hv) (ho.bl hv) (fun f1 f2 f3 f4 V' hv' => refBehind20 A B S c d sc l H o V' f1 f2 f3 f4 hlc hcm (by omega) hd1 hd2 (hA.bl (hv.trans hv')) (hB.bl (hv.trans hv')) (ho.bl (hv.trans hv')))
  have hck := hide fun O oc M mc V (hO : R cOp 0 V O l) (hM : R cEntry 0 V M H) => shiftCheck O M oc mc l H V hlm hhm hO hM
  have hrc := hide fun V (hv : Bl w V) => refCheck20 A B c d l H V hlm hhm (hA.bl hv) (hB.bl hv)
  obtain ⟨t1, t2⟩ := turn_tells l H o
  have hTl : (turnL l H o).length ≤ maxLen := by
    rw [t2]
    unfold refTL
    split
    · have := hF.1
      unfold maxLen; omega
    · simp
  rw [← t1, ← t2] at hrt
  clear t1 t2 hF hcop hsE hsm hfe hpl
  generalize turnL l H o = T at *
  generalize turnN l H o = N at *
  generalize okOr 8 (fitsB l H) = n at *
  go_wp2_with fail
  refine htl.out.mono ?_
  rintro e w3 ⟨O, oc, rfl, -, -, hO, hb3⟩
  have hbw3 := hbw2.trans hb3
  replace hO := hO.zero
  go_wp2_with fail
  refine (hth.out _ hbw3).mono ?_
  rintro e w4 ⟨M, mc, rfl, -, -, hM, hb4⟩
  have hbw4 := hbw3.trans hb4
  replace hO := hO.bl hb4
  replace hM := hM.zero
  clear htl hth
  clear x0 x1 x2 x3 x4 hxl
  obtain ⟨x0, x1, x2, x3, x4⟩ := (at0.bl (hbW2.trans (hb3.trans hb4))).cells
  have hxl := (at0.bl (hbW2.trans (hb3.trans hb4))).lt
  go_wp2_with fail
  refine (hsh.out O oc M mc w4 hbw4 hO hM).mono ?_
  rintro e w5 ⟨X, xc, rfl, -, -, hX, hb5⟩
  have hbw5 := hbw4.trans hb5
  clear hsh
  clear x0 x1 x2 x3 x4 hxl
  obtain ⟨x0, x1, x2, x3, x4⟩ := (at0.bl (hbW2.trans (hb3.trans (hb4.trans hb5)))).cells
  have hxl := (at0.bl (hbW2.trans (hb3.trans (hb4.trans hb5)))).lt
  go_wp2_with fail
  refine (hrt.out w5 hbw5).mono ?_
  rintro e w6 ⟨Y, yc, rfl, -, -, hY, hb6⟩
  have hbw6 := hbw5.trans hb6
  have hX6 := hX.bl hb6
  clear hrt hX
  clear x0 x1 x2 x3 x4 hxl
  have hsa := hide (sameE_self T (c := xc) (d := yc) (w := w6) hTl hX6.zero hY.zero)
  have e1 : (N == N) = true := by simp
  have e2 : (n == n) = true := by simp
  go_wp2_with fail
  refine hsa.out.mono ?_
  rintro e w7 ⟨rfl, hb7⟩
  have hb47 := hb5.trans (hb6.trans hb7)
  go_wp2_with fail
  refine (hck.out O oc M mc w7 (hO.bl hb47) (hM.bl hb47)).mono ?_
  rintro e w8 ⟨rfl, hb8⟩
  have hb48 := hb47.trans hb8
  go_wp2_with fail
  refine (hrc.out w8 (hbw4.trans hb48)).mono ?_
  rintro e w9 ⟨rfl, hb9⟩
  have hb49 := hb48.trans hb9
  have hX9 := hX6.bl (hb7.trans (hb8.trans hb9))
  clear hck hrc hsa hX6 hY e1 e2
  have hTl2 := hTl
  unfold maxLen at hTl2
  go_upto_region 9 with fail
  go_loopw [14] (fun i wr => Sim w9 wr ∧ Bl w4 wr ∧ ∃ k : Nat, k ≤ T.length ∧ i = .int .i64 k) (fun i _ => T.length - (intOf i).toNat)
  case atStart => exact ⟨Sim.refl _, hb49, 0, Nat.zero_le _, rfl⟩
  case round =>
    obtain ⟨hsim, hbl, k, hk, rfl⟩ := hrel
    by_cases hlt : k < T.length
    · obtain ⟨b, off, rfl, hlo, hb⟩ := hX9.addr (by omega)
      obtain ⟨x, hx⟩ := get_lt hlt
      obtain ⟨_, hxo, S, sc, G, gc, q1, q2, q3, q4, hS, hG, -, -, -, -, -, -, c6, c7⟩ := hX9.entry hx
      obtain ⟨u4, f4⟩ := hX9.entryUsed hx
      have hi : (k : Int) < (T.length : Int) := by omega
      have hi0 : (0 : Int) ≤ (k : Int) := by omega
      have q2' := q2
      have q4' := q4
      unfold maxLen at q2' q4'
      clear hx
      go_upto_region 12 with fail
      obtain ⟨wo, rfl⟩ : ∃ wo, wo = wr := ⟨_, rfl⟩
      go_loopw [15] (fun i wr => Sim w9 wr ∧ Bl w4 wr ∧ ∃ j : Nat, j ≤ x.got.length ∧ i = .int .i64 j) (fun i _ => x.got.length - (intOf i).toNat)
      case atStart => exact ⟨hsim, hbl, 0, Nat.zero_le _, rfl⟩
      case round =>
        clear hsim hbl
        obtain ⟨hsim, hbl, j, hj, rfl⟩ := hrel
        have k7 := hsim.slice c7
        by_cases hlt2 : j < x.got.length
        · obtain ⟨g, goff, rfl, hg1, hg2⟩ := hG.addr (by omega)
          obtain ⟨v, hv⟩ := get_lt hlt2
          obtain ⟨_, hc, hf⟩ := hG.bool hv
          obtain ⟨⟨u', hc1, hku⟩, hf1⟩ := hsim g (goff + j) _ hc
          obtain ⟨v', rfl⟩ := hku.ofBool
          rw [hf] at hf1
          have hj0 : (j : Int) < (x.got.length : Int) := by omega
          have hsim2 := hsim.set hc1 (Kin.bool v' (!v'))
          have hB2 := hbl.setCell (p := ⟨g, goff + j, none⟩) hg1 (.bool (!v'))
          clear hv hc hf
          go_upto_region 14 with fail
          go_still_tail 16, (by kernel_rfl)
          go_wp2
          go_roundw
          case rel => exact ⟨hsim2.drew, hB2.drew, j + 1, by omega, by go_num⟩
          case measure => simp [intOf]; omega
        · obtain ⟨⟨u', hc1, hku⟩, hf1⟩ := hsim b (off + k * 8 + 4) _ u4
          obtain ⟨v', rfl⟩ := hku.ofI64
          rw [f4] at hf1
          have hsim2 := hsim.set hc1 (Kin.i64 v' (-7))
          have hB2 := hbl.setCell (p := ⟨b, off + k * 8 + 4, none⟩) hlo (.int .i64 (-7))
          clear u4 f4
          go_wp2
          go_roundw
          case rel => exact ⟨hsim2, hB2, k + 1, by omega, by go_num⟩
          case measure => simp [intOf]; omega
    · have hi : ¬ (k : Int) < (T.length : Int) := by omega
      have hso := hide (sameO_self l (c := oc) (d := c) (w := wr) hlm (hO.bl hbl) (hA.bl (hbw4.trans hbl)))
      clear hX9
      go_wp2_with fail
      refine hso.out.mono ?_
      rintro e w10 ⟨rfl, hb10⟩
      have hse := hide (sameE_self H (c := mc) (d := d) (w := w10) hhm (hM.bl (hbl.trans hb10)) (hB.bl (hbw4.trans (hbl.trans hb10))))
      go_wp2_with fail
      refine hse.out.mono ?_
      rintro e w11 ⟨rfl, hb11⟩
      go_wp2_with fail
      go_ret
      exact ⟨rfl, hbw4.trans (hbl.trans (hb10.trans hb11))⟩

end Go.Proofs.YteoodmilcpmmpaaGreat
