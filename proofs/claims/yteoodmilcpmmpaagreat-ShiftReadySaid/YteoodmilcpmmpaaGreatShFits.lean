/-
  Plain: the shelf behind an operation fits the bag with it. The walk of ShiftFits.
-/
import Derived.Test.YteoodmilcpmmpaaGreatShiftT
namespace Go.Proofs.YteoodmilcpmmpaaGreat
open Go.RowKit

theorem memId_iff {l : List Id} {s : Id} : memId l s = true ↔ s ∈ l := by
  unfold memId
  rw [List.any_eq_true]
  constructor
  · rintro ⟨x, hx, e⟩
    rw [decide_eq_true_eq] at e
    rw [← e]; exact hx
  · intro h
    exact ⟨s, h, by simp⟩

theorem fits_iff {l : List Op} {h : List Entry} : fitsB l h = true ↔ bagMay l = true ∧ shelfMay h = true ∧ ∀ x ∈ h, x.id ∈ sectF (livesF l) := by
  unfold fitsB
  rw [Bool.and_eq_true, Bool.and_eq_true, Bool.not_eq_true', List.any_eq_false]
  refine and_congr_right fun _ => and_congr_right fun _ => ⟨fun k x hx => ?_, fun k x hx => ?_⟩
  · have := k x hx
    rw [Bool.not_eq_true', Bool.not_eq_false] at this
    exact memId_iff.1 this
  · rw [Bool.not_eq_true', Bool.not_eq_false]
    exact memId_iff.2 (k x hx)

theorem sect_keep {l : List Op} {o : Op} {s : Id} (h : addN l o = 0) (hno : hasId l o.id = false) (hs : s ∈ sectF (livesF l)) (hk : s = ⟨0, 0⟩ ∨ ¬ (o.kind = 4 ∧ placeFin o.pl = s)) : s ∈ sectF (livesF (addL l o)) := by
  rcases List.mem_cons.1 hs with e | e
  · rw [e]; exact List.mem_cons_self ..
  · obtain ⟨x, hx, e⟩ := List.mem_map.1 e
    rcases hk with hk | hk
    · rw [hk]; exact List.mem_cons_self ..
    · refine List.mem_cons_of_mem _ (List.mem_map.2 ⟨x, (lives_add h hno).2 (.inl ⟨hx, ?_⟩), e⟩)
      rw [e]; exact hk

theorem putEL_mem {l : List Entry} {x y : Entry} (h : y ∈ putEL l x) : y = x ∨ y ∈ l := by
  by_cases hn : putN l x = 0
  · rw [put_with hn] at h
    exact with_entry h
  · unfold putEL at h
    rw [if_neg hn] at h
    cases h

theorem putEL_may {l : List Entry} {x : Entry} (h : putN l x = 0) : shelfMay (putEL l x) = true := by
  rw [put_with h]
  exact (put_may h).2.2

theorem put_none {l : List Entry} {x : Entry} (h : putN l x ≠ 0) : putEL l x = [] := by unfold putEL; rw [if_neg h]

theorem findE_id {h : List Entry} {s : Id} (k : findB h s = true) : findE h s ∈ h ∧ (findE h s).id = s := by
  unfold findB at k
  rw [Bool.and_eq_true] at k
  unfold findE
  rw [if_pos k.1]
  cases he : entOf h s with
  | none => rw [he] at k; cases k.2
  | some x =>
    obtain ⟨n, hn, hid⟩ := ent_some he
    exact ⟨List.mem_of_getElem? hn, hid⟩

theorem findB_no {h : List Entry} {s : Id} (hm : shelfMay h = true) (k : findB h s = false) : ∀ x ∈ h, x.id ≠ s := by
  unfold findB at k
  rw [hm, Bool.true_and] at k
  refine ent_none ?_
  cases he : entOf h s with
  | none => rfl
  | some x => rw [he] at k; cases k

theorem joinH_mem {h : List Entry} {o : Op} {y : Entry} (hm : shelfMay h = true) (k : y ∈ joinH h o) : y ∈ h ∧ y.id ≠ placeFin o.pl := by
  unfold joinH at k
  split at k
  · rename_i hf
    by_cases hn : dropN h (placeFin o.pl) = 0
    · rw [drop_out hn] at k
      exact ⟨out_entry k, by have := (List.mem_filter.1 k).2; simpa using this⟩
    · unfold dropL at k
      rw [if_neg hn] at k
      cases k
  · rename_i hf
    exact ⟨k, findB_no hm (by simpa using hf) y k⟩

theorem ahead_sect {l : List Op} (m : Id) : aheadS l m ∈ sectF (livesF l) := by
  unfold aheadS
  split
  · cases hg : (sectF (livesF l))[(idxOf (sectF (livesF l)) m).toNat - 1]? with
    | none => exact List.mem_cons_self ..
    | some y => exact List.mem_of_getElem? hg
  · exact List.mem_cons_self ..

theorem ahead_ne {l : List Op} (hb : bagMay l = true) (m : Id) : aheadS l m = ⟨0, 0⟩ ∨ aheadS l m ≠ m := by
  by_cases hw : whereN l m 1 = 0
  · right
    unfold aheadS
    rw [if_pos hw]
    unfold whereN at hw
    rw [hb, if_pos rfl] at hw
    split at hw
    · cases hw
    · rename_i hi
      have hi : 1 ≤ idxOf (sectF (livesF l)) m := by omega
      obtain ⟨n, hn⟩ : ∃ n : Nat, idxOf (sectF (livesF l)) m = ((n + 1 : Nat) : Int) := ⟨(idxOf (sectF (livesF l)) m).toNat - 1, by omega⟩
      have h1 := idxOf_get hn
      rw [hn, Int.toNat_natCast, Nat.add_sub_cancel]
      have hlt : n < (sectF (livesF l)).length := by have := (List.getElem?_eq_some_iff.1 h1).1; omega
      obtain ⟨y, hy⟩ := get_lt hlt
      rw [hy, Option.getD_some]
      intro e
      rw [e] at hy
      have := sect_one hb hy h1
      omega
  · left
    unfold aheadS
    rw [if_neg hw]

theorem addL_len2 (l : List Op) (o : Op) : (addL l o).length ≤ l.length + 1 := by
  unfold addL
  split
  · split
    · omega
    · rw [List.length_append, List.length_cons, List.length_take, List.length_drop]
      omega
  · simp

theorem turn_bad {l : List Op} {h : List Entry} {o : Op} (k : turnN l h o ≠ 0) : (turnL l h o).length = 0 := by
  unfold turnN at k
  unfold turnL
  generalize turnK l h o = K at *
  match K, k with
  | 0, _ => rfl
  | 1, k => exact absurd rfl k
  | 2, _ => rfl
  | 3, k =>
    have k : markN l h o ≠ 0 := k
    show (markL l h o).length = 0
    unfold markN at k
    unfold markL
    split
    · rename_i hf
      rw [if_pos hf] at k
      rw [put_none k]; rfl
    · rename_i hf
      rw [if_neg hf] at k
      exact absurd rfl k
  | 4, k =>
    have k : joinEN l h o ≠ 0 := k
    show (joinEL l h o).length = 0
    unfold joinEN at k
    unfold joinEL
    split
    · rename_i hs
      rw [if_pos hs] at k
      split
      · rename_i hn
        rw [if_pos hn] at k
        rw [put_none k]; rfl
      · rfl
    · rename_i hs
      rw [if_neg hs] at k
      exact absurd rfl k
  | K + 5, _ => rfl

theorem turn_sort {l : List Op} {h : List Entry} {o : Op} (k : turnN l h o = 0) : (fitsB l h && opMay o) = true ∧
    ((turnL l h o = h ∧ (hasId l o.id = true ∨ o.kind ≠ 4 ∨ memId (sectF (livesF l)) (placeFin o.pl) = false) ∧ (hasId l o.id = true ∨ o.kind ≠ 2 ∨ endedF l o.id = true)) ∨ (hasId l o.id = false ∧ o.kind = 2 ∧ endedF l o.id = false ∧ turnL l h o = markL l h o ∧ markN l h o = 0) ∨ (hasId l o.id = false ∧ o.kind = 4 ∧ turnL l h o = joinEL l h o ∧ joinEN l h o = 0)) := by
  have L1 : turnK l h o = 1 → turnL l h o = h := fun e => by unfold turnL; rw [e]; rfl
  have L3 : turnK l h o = 3 → turnL l h o = markL l h o := fun e => by unfold turnL; rw [e]; rfl
  have L4 : turnK l h o = 4 → turnL l h o = joinEL l h o := fun e => by unfold turnL; rw [e]; rfl
  have N0 : turnK l h o = 0 → turnN l h o = 8 := fun e => by unfold turnN; rw [e]; rfl
  have N2 : turnK l h o = 2 → turnN l h o = 9 := fun e => by unfold turnN; rw [e]; rfl
  have N3 : turnK l h o = 3 → turnN l h o = markN l h o := fun e => by unfold turnN; rw [e]; rfl
  have N4 : turnK l h o = 4 → turnN l h o = joinEN l h o := fun e => by unfold turnN; rw [e]; rfl
  obtain ⟨K, hK2⟩ : ∃ K, turnK l h o = K := ⟨_, rfl⟩
  have hK := hK2
  unfold turnK at hK
  split at hK
  rotate_left
  · subst hK; rw [N0 hK2] at k; cases k
  rename_i hfo
  refine ⟨hfo, ?_⟩
  split at hK
  · subst hK; rw [N0 hK2] at k; cases k
  split at hK
  · rename_i hh
    subst hK
    exact .inl ⟨L1 hK2, .inl hh, .inl hh⟩
  rename_i hh
  have hno : hasId l o.id = false := by simpa using hh
  split at hK
  · subst hK; rw [N2 hK2] at k; cases k
  split at hK
  · rename_i k2
    split at hK
    · rename_i he
      subst hK
      exact .inl ⟨L1 hK2, .inr (.inl (by omega)), .inr (.inr he)⟩
    · rename_i he
      subst hK
      exact .inr (.inl ⟨hno, k2, by simpa using he, L3 hK2, (N3 hK2) ▸ k⟩)
  rename_i k2
  split at hK
  · rename_i k4
    split at hK
    · subst hK
      exact .inr (.inr ⟨hno, k4, L4 hK2, (N4 hK2) ▸ k⟩)
    · rename_i hme
      subst hK
      exact .inl ⟨L1 hK2, .inr (.inr (by simpa using hme)), .inr (.inl k2)⟩
  · rename_i k4
    subst hK
    exact .inl ⟨L1 hK2, .inr (.inl k4), .inr (.inl k2)⟩

theorem turn_fits {l : List Op} {h : List Entry} {o : Op} (k : turnN l h o = 0) (ha : addN l o = 0) : fitsB (addL l o) (turnL l h o) = true := by
  have hbm := addL_may ha
  obtain ⟨hfo, hs⟩ := turn_sort k
  rw [Bool.and_eq_true] at hfo
  obtain ⟨f1, f2, f3⟩ := fits_iff.1 hfo.1
  have hstay : hasId l o.id = false → (∀ x ∈ h, x.id = ⟨0, 0⟩ ∨ ¬ (o.kind = 4 ∧ placeFin o.pl = x.id)) → fitsB (addL l o) h = true := fun hno q => fits_iff.2 ⟨hbm, f2, fun x hx => sect_keep ha hno (f3 x hx) (q x hx)⟩
  rcases hs with ⟨e, hk, -⟩ | ⟨hno, k2, he, e, hn⟩ | ⟨hno, k4, e, hn⟩
  · rw [e]
    cases hno : hasId l o.id
    · refine hstay hno fun x hx => .inr fun q => ?_
      rcases hk with hk | hk | hk
      · rw [hno] at hk; cases hk
      · exact hk q.1
      · rw [q.2, memId_iff.2 (f3 x hx)] at hk
        cases hk
    · rw [addL_old ha hno]
      exact hfo.1
  · rw [e]
    have hn4 : ∀ s : Id, ¬ (o.kind = 4 ∧ placeFin o.pl = s) := fun s e => by omega
    unfold markN at hn
    unfold markL
    cases hf : findB h (ofS l o.pl)
    · rw [if_neg (by decide)]
      exact hstay hno fun x _ => .inr (hn4 _)
    · rw [if_pos rfl]
      rw [hf, if_pos rfl] at hn
      refine fits_iff.2 ⟨hbm, putEL_may hn, fun x hx => ?_⟩
      rcases putEL_mem hx with rfl | hx
      · exact List.mem_cons_of_mem _ (List.mem_map.2 ⟨o, (lives_add ha hno).2 (.inr ⟨rfl, k2, he⟩), rfl⟩)
      · rcases putEL_mem hx with rfl | hx
        · exact sect_keep (s := (findE h (ofS l o.pl)).id) ha hno (f3 _ (findE_id hf).1) (.inr (hn4 _))
        · exact sect_keep ha hno (f3 x hx) (.inr (hn4 _))
  · rw [e]
    unfold joinEN at hn
    unfold joinEL
    cases hs : someB l h o
    · rw [if_neg (by decide)]
      unfold someB at hs
      rw [Bool.or_eq_false_iff] at hs
      exact hstay hno fun x hx => .inr fun q => findB_no f2 hs.2 x hx q.2.symm
    · rw [if_pos rfl, if_pos ha]
      rw [hs, if_pos rfl, if_pos ha] at hn
      refine fits_iff.2 ⟨hbm, putEL_may hn, fun x hx => ?_⟩
      rcases putEL_mem hx with rfl | hx
      · refine sect_keep ha hno (ahead_sect _) ?_
        rcases ahead_ne f1 (placeFin o.pl) with e | e
        · exact .inl e
        · exact .inr fun q => e q.2.symm
      · obtain ⟨q1, q2⟩ := joinH_mem f2 hx
        exact sect_keep ha hno (f3 x q1) (.inr fun q => q2 q.2.symm)

theorem turn_small {l : List Op} {h : List Entry} {o : Op} (k : turnN l h o = 0) (_hl : l.length ≤ maxLen) (hh : h.length ≤ maxLen) : (turnL l h o).length ≤ maxLen := by
  obtain ⟨hfo, hs⟩ := turn_sort k
  rcases hs with ⟨e, -, -⟩ | ⟨-, -, -, e, hn⟩ | ⟨-, -, e, hn⟩
  · rw [e]; exact hh
  · rw [e]
    unfold markN at hn
    unfold markL
    split
    · rename_i hf
      rw [if_pos hf] at hn
      have := (may_from (putEL_may hn)).1
      unfold maxLen; omega
    · exact hh
  · rw [e]
    unfold joinEN at hn
    unfold joinEL
    split
    · rename_i hf
      rw [if_pos hf] at hn
      split
      · rename_i hz
        rw [if_pos hz] at hn
        have := (may_from (putEL_may hn)).1
        unfold maxLen; omega
      · simp
    · exact hh

/-! ### The walk -/
set_option maxRecDepth 100000 in
set_option maxHeartbeats 8000000 in
theorem shiftFits20 (A B S : Option Addr) (c d sc : Nat) (l : List Op) (H : List Entry) (o : Op) (w : World) (hl : l.length ≤ 140737488355328) (hh : H.length ≤ 140737488355328) (hq : QShelf H) (hA : R cOp 0 w A l) (hB : R cEntry 0 w B H) (ho : OpIn w o S sc) :
    Calls Tryz.prog 7 #[.slice A l.length c, .slice B H.length d, .agg #[.int .u8 o.kind, .int .u32 o.id.t, .int .u8 o.id.r, .slice S o.pl.length sc, .int .i64 o.pt]] w fun e w' => e = .returned (.bool true) ∧ Bl w w' := by
  have hlm : l.length ≤ maxLen := by unfold maxLen; omega
  have hhm : H.length ≤ maxLen := by unfold maxLen; omega
  obtain ⟨W, hW⟩ : ∃ W, W = w.alloc (.cells #[Value.int IntKind.u8 o.kind, Value.int IntKind.u32 o.id.t, Value.int IntKind.u8 o.id.r, Value.slice S o.pl.length sc, Value.int IntKind.i64 o.pt] 47) := ⟨_, rfl⟩
  have hbW : Bl w W := by rw [hW]; exact (Bl.refl _).alloc _
  have at0 : OpBox W w.heap.size o S sc := by rw [hW]; exact OpBox.new w o S sc _
  have hga := hide (fun V (hb : Bl w V) => refGreat10 A c l 40 V hl (hA.bl hb))
  have hgb := hide (fun V (hb : Bl w V) => refGreat19 B d H V hh hq (hB.bl hb))
  have htu := hide fun V (hv : Bl w V) => shiftTurn A B S c d sc l H o V hlm hhm (hA.bl hv) (hB.bl hv) (ho.bl hv)
  have had := hide fun V (hv : Bl w V) => bagAdd A S c sc l o V hlm (hA.bl hv) (ho.bl hv)
  clear hq
  go_enter Tryz.func7, Tryz.ntmps7
  go_wp2_with fail
  rw [← hW]
  clear hW
  refine (lawAlive20 _).mono ?_
  rintro e w0 ⟨rfl, hb0⟩
  have hbw0 := hbW.trans hb0
  go_wp2_with fail
  refine (hga.out _ hbw0).mono ?_
  rintro e w1 ⟨ba, rfl, hfa, hb1⟩
  have hbw1 := hbw0.trans hb1
  cases ba
  rotate_left
  · clear hfa hgb htu had
    go_wp2_with fail
    go_ret
    exact ⟨rfl, hbw1⟩
  have hl40 : l.length ≤ 40 := by have := (hfa rfl).1; omega
  clear hfa hga
  go_wp2_with fail
  refine (hgb.out _ hbw1).mono ?_
  rintro e w2 ⟨bb, rfl, hfb, hb2⟩
  have hbw2 := hbw1.trans hb2
  have hbW2 := hb0.trans (hb1.trans hb2)
  cases bb
  rotate_left
  · clear hfb htu had
    go_wp2_with fail
    go_ret
    exact ⟨rfl, hbw2⟩
  have hh80 : H.length ≤ 80 := (hfb rfl).1
  clear hfb hgb
  obtain ⟨x0, x1, x2, x3, x4⟩ := (at0.bl hbW2).cells
  have hxl := (at0.bl hbW2).lt
  by_cases hp : (100 : Int) < (o.pl.length : Int)
  · clear htu had
    go_wp2_with fail
    go_ret
    exact ⟨rfl, hbw2⟩
  have htN := fun (h : turnN l H o ≠ 0) => turn_bad h
  have htF := fun (h : turnN l H o = 0) (h2 : addN l o = 0) => turn_fits h h2
  have htl : turnN l H o = 0 → (turnL l H o).length ≤ maxLen := fun h => by
    by_cases ha : addN l o = 0
    · have := (may_from (fits_iff.1 (turn_fits h ha)).2.1).1
      unfold maxLen; omega
    · exact turn_small h (by unfold maxLen; omega) hhm
  have hal : (addL l o).length ≤ maxLen := by have := addL_len2 l o; unfold maxLen; omega
  have hck := hide fun Y y X x V (hY : R cOp 0 V Y (addL l o)) (hX : R cEntry 0 V X (turnL l H o)) (h : turnN l H o = 0) => shiftCheck Y X y x (addL l o) (turnL l H o) V hal (htl h) hY hX
  replace htN := hide htN
  replace htF := hide htF
  clear htl
  generalize turnL l H o = tL at *
  generalize addL l o = aL at *
  generalize turnN l H o = tN at *
  generalize addN l o = aN at *
  go_wp2_with fail
  refine (htu.out _ hbw2).mono ?_
  rintro e w3 ⟨X, x, rfl, -, -, hX, hb3⟩
  have hbw3 := hbw2.trans hb3
  clear x0 x1 x2 x3 x4 hxl
  obtain ⟨x0, x1, x2, x3, x4⟩ := (at0.bl (hbW2.trans hb3)).cells
  have hxl := (at0.bl (hbW2.trans hb3)).lt
  by_cases hN : tN = 0
  rotate_left
  · have hz := htN.out hN
    have hNz : (tN == 0) = false := by rw [beq_eq_false_iff_ne]; exact hN
    have hpz : ((tL.length : Int) == 0) = true := by rw [hz]; rfl
    replace hz := hide hz
    replace hN := hide hN
    clear had hck htF
    go_wp2_with fail
    go_ret
    exact ⟨rfl, hbw3⟩
  subst hN
  go_wp2_with fail
  refine (had.out _ hbw3).mono ?_
  rintro e w4 ⟨Y, y, rfl, -, -, hY, hb4⟩
  have hbw4 := hbw3.trans hb4
  clear x0 x1 x2 x3 x4 hxl
  by_cases hM : aN = 0
  rotate_left
  · have hMz : (aN == 0) = false := by rw [beq_eq_false_iff_ne]; exact hM
    replace hM := hide hM
    clear hck htF
    go_wp2_with fail
    go_ret
    exact ⟨rfl, hbw4⟩
  subst hM
  have hcall := hide (hck.out Y y X x w4 hY.zero (hX.zero.bl hb4) (by first | rfl | trivial))
  rw [htF.out (by first | rfl | trivial) (by first | rfl | trivial), okOr_true] at hcall
  go_wp2_with fail
  refine hcall.out.mono ?_
  rintro e w5 ⟨rfl, hb5⟩
  go_wp2_with fail
  go_ret
  exact ⟨rfl, hbw4.trans hb5⟩
end Go.Proofs.YteoodmilcpmmpaaGreat
