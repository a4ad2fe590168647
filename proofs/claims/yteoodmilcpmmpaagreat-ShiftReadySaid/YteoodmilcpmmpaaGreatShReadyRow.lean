/-
  The law ShiftReady of layer 20 (package octavolaw20) returns true and leaves its arguments as they were: for every argument, with no condition.
-/
import Derived.Test.YteoodmilcpmmpaaGreatShFits
import Derived.Test.YteoodmilcpmmpaaGreatOpenR
namespace Go.Proofs.YteoodmilcpmmpaaGreat
open Go.RowKit

theorem ofS_of {l : List Op} {p : List Run} (h : bagMay l = true) (k : plAny p = true) : ofS l p = homeF (livesF l) p := by
  unfold ofS
  rw [h, k]
  rfl

theorem opAny20 {o : Op} (h : opMay o = true) : plAny o.pl = true := by
  unfold opMay at h
  simp only [Bool.and_eq_true] at h
  unfold plAny
  rw [h.1.2, Bool.or_true]

theorem ahead_at20 {l : List Op} {i : Nat} {s t : Id} (h : bagMay l = true) (hs : (sectF (livesF l))[i + 1]? = some s) (ht : (sectF (livesF l))[i]? = some t) : aheadS l s = t := by
  have hi : idxOf (sectF (livesF l)) s = ((i + 1 : Nat) : Int) := idx_hit hs fun y hy e => by
    obtain ⟨j, hj⟩ := List.getElem?_of_mem hy
    rw [List.getElem?_take] at hj
    split at hj
    · rename_i hji
      have := sect_one h (e ▸ hj) hs
      omega
    · cases hj
  have hw : whereN l s 1 = 0 := by
    unfold whereN
    rw [h, if_pos rfl, hi, if_neg (by omega)]
  unfold aheadS
  rw [if_pos hw, hi, Int.toNat_natCast, Nat.add_sub_cancel, ht]
  rfl

theorem ent_outs20 {s m : Id} (hne : s ≠ m) : ∀ (h : List Entry), entOf (outL h m) s = entOf h s
  | [] => rfl
  | x :: t => by
    have ih := ent_outs20 hne t
    unfold entOf outL at ih ⊢
    by_cases hx : x.id = m
    · rw [List.filter_cons_of_neg (by simp [hx]), List.find?_cons_of_neg (by rw [decide_eq_true_eq, hx]; exact fun e => hne e.symm)]
      exact ih
    · rw [List.filter_cons_of_pos (by simp [hx])]
      by_cases hs : x.id = s
      · rw [List.find?_cons_of_pos (by simp [hs]), List.find?_cons_of_pos (by simp [hs])]
      · rw [List.find?_cons_of_neg (by simp [hs]), List.find?_cons_of_neg (by simp [hs])]
        exact ih

theorem findB_ent {h : List Entry} {s : Id} (k : findB h s = true) : shelfMay h = true ∧ entOf h s = some (findE h s) := by
  unfold findB at k
  rw [Bool.and_eq_true] at k
  refine ⟨k.1, ?_⟩
  unfold findE
  rw [if_pos k.1]
  cases he : entOf h s with
  | none => rw [he] at k; cases k.2
  | some x => rfl

theorem find_none {h : List Entry} {s : Id} (k : findB h s = false) : findE h s = zeroE := by
  unfold findB at k
  unfold findE
  cases hm : shelfMay h
  · rfl
  · rw [hm, Bool.true_and] at k
    rw [if_pos rfl]
    cases he : entOf h s with
    | none => rfl
    | some x => rw [he] at k; cases k

theorem find_hit {h : List Entry} {s : Id} {x : Entry} (hm : shelfMay h = true) (e : entOf h s = some x) : findE h s = x ∧ findB h s = true := by
  unfold findE findB
  rw [hm, e]
  exact ⟨rfl, rfl⟩

theorem find_ent {h h' : List Entry} {s t : Id} (hm : shelfMay h = true) (hm' : shelfMay h' = true) (e : entOf h' t = entOf h s) : findE h s = findE h' t ∧ findB h s = findB h' t := by
  unfold findE findB
  rw [hm, hm', e]
  exact ⟨rfl, rfl⟩

theorem ent_put {l : List Entry} {x : Entry} (h : putN l x = 0) (s : Id) : entOf (putEL l x) s = if s = x.id then some x else entOf l s := by
  rw [put_with h]
  exact ent_with (put_may h).1 s

theorem blank_may {x : Entry} (h : entryMay x = true) : entryMay (blankE x) = true := by
  unfold entryMay at h ⊢
  rw [Bool.and_eq_true] at h ⊢
  exact ⟨h.1, rfl⟩

theorem mark_put {l : List Op} {h : List Entry} {o : Op} (hf : findB h (ofS l o.pl) = true) : putN h (markE l h o) = 0 := by
  obtain ⟨hm, he⟩ := findB_ent hf
  obtain ⟨h1, h2⟩ := findE_id hf
  unfold putN
  rw [hm, show entryMay (markE l h o) = true from blank_may (may_entry hm _ h1), if_pos (show (true && true) = true from rfl), ent_at hm, show (markE l h o).id = ofS l o.pl from h2, he]
  rfl

/-- What ShiftReady asks of the two entries. -/
def Rdy (k : Int) (f : Entry) (fb : Bool) (g : Entry) (gb : Bool) : Prop := (g.ready = true → f.ready = true) ∧ (k = 4 ∨ (fb = gb ∧ f.ready = g.ready ∧ f.pin = g.pin))

theorem Rdy.same {k : Int} {h h' : List Entry} {s t : Id} (e : findE h s = findE h' t ∧ findB h s = findB h' t) : Rdy k (findE h s) (findB h s) (findE h' t) (findB h' t) := by
  rw [e.1, e.2]
  exact ⟨id, .inr ⟨rfl, rfl, rfl⟩⟩

theorem turn_ready {l : List Op} {h : List Entry} {o : Op} {p : List Run} (k : turnN l h o = 0) (ha : addN l o = 0) (hp : plAny p = true) :
    Rdy o.kind (findE h (ofS l p)) (findB h (ofS l p)) (findE (turnL l h o) (ofS (addL l o) p)) (findB (turnL l h o) (ofS (addL l o) p)) := by
  have hbm := addL_may ha
  obtain ⟨hfo, hs⟩ := turn_sort k
  rw [Bool.and_eq_true] at hfo
  obtain ⟨f1, f2, f3⟩ := fits_iff.1 hfo.1
  rw [ofS_of f1 hp, ofS_of hbm hp]
  obtain ⟨i, hi⟩ := home_some f1 hp
  have hin : homeF (livesF l) p ∈ sectF (livesF l) := List.mem_of_getElem? hi
  clear hi
  have hpm := any_pos hp
  rcases hs with ⟨e, hk, hk2⟩ | ⟨hno, k2, he, e, hn⟩ | ⟨hno, k4, e, hn⟩
  · rw [e]
    have ht : homeF (livesF (addL l o)) p = homeF (livesF l) p := by
      cases hno : hasId l o.id
      · by_cases k4 : o.kind = 4
        · refine (join_home ha hno hpm k4).1 fun q => ?_
          rcases hk with hk | hk | hk
          · rw [hno] at hk; cases hk
          · exact hk k4
          · rw [← q, memId_iff.2 hin] at hk; cases hk
        · refine other_home ha hno hpm k4 fun k2 => ?_
          rcases hk2 with q | q | q
          · rw [hno] at q; cases q
          · exact absurd k2 q
          · exact q
      · rw [addL_old ha hno]
    rw [ht]
    exact Rdy.same ⟨rfl, rfl⟩
  · rw [e]
    have hmh := mark_home ha hno hpm k2 he
    rw [← ofS_of f1 (opAny20 hfo.2)] at hmh
    have hnid : ∀ s ∈ sectF (livesF l), s ≠ o.id := fun s hs e => by
      rcases List.mem_cons.1 hs with e' | e'
      · have := opMay_less hfo.2
        rw [← e, e'] at this
        revert this
        decide
      · obtain ⟨x, hx, e2⟩ := List.mem_map.1 e'
        exact hasId_false hno x ((lives_mem f1).1 hx).1 (e2.trans e)
    generalize homeF (livesF l) p = s at *
    generalize homeF (livesF (addL l o)) p = t at *
    unfold markN at hn
    unfold markL
    cases hf : findB h (ofS l o.pl)
    · rw [if_neg (by decide)]
      by_cases c : s = ofS l o.pl ∧ heldF o.pl p ≤ 0
      · rw [if_pos c] at hmh
        rw [hmh, c.1]
        have hf2 : findB h o.id = false := by
          cases hg : findB h o.id
          · rfl
          · exact absurd (findE_id hg).2 (hnid _ (f3 _ (findE_id hg).1))
        exact Rdy.same ⟨(find_none hf).trans (find_none hf2).symm, hf.trans hf2.symm⟩
      · rw [if_neg c] at hmh
        rw [hmh]
        exact Rdy.same ⟨rfl, rfl⟩
    · rw [if_pos rfl]
      rw [hf, if_pos rfl] at hn
      have hid := (findE_id hf).2
      have E1 := fun s => ent_put (mark_put hf) s
      have E2 := fun s => ent_put hn s
      have hm3 := putEL_may hn
      by_cases c : s = ofS l o.pl ∧ heldF o.pl p ≤ 0
      · rw [if_pos c] at hmh
        rw [hmh, c.1]
        have g := find_hit hm3 ((E2 o.id).trans (if_pos rfl))
        rw [g.1, g.2, hf]
        exact ⟨id, .inr ⟨rfl, rfl, rfl⟩⟩
      · rw [if_neg c] at hmh
        rw [hmh]
        have e2 := (E2 s).trans (if_neg (hnid s hin))
        by_cases hsq : s = ofS l o.pl
        · have g := find_hit hm3 (e2.trans ((E1 s).trans (if_pos (hsq.trans hid.symm))))
          rw [g.1, g.2, hsq, hf]
          exact ⟨id, .inr ⟨rfl, rfl, rfl⟩⟩
        · exact Rdy.same (find_ent f2 hm3 (e2.trans ((E1 s).trans (if_neg fun q => hsq (q.trans hid)))))
  · rw [e]
    obtain ⟨j1, j2⟩ := join_home ha hno hpm k4
    have ht : homeF (livesF l) p = placeFin o.pl → homeF (livesF (addL l o)) p = aheadS l (placeFin o.pl) := fun q => by
      obtain ⟨i, h1, h2⟩ := j2 q
      exact (ahead_at20 f1 h1 h2).symm
    clear j2
    refine ⟨?_, .inl k4⟩
    generalize homeF (livesF l) p = s at *
    generalize homeF (livesF (addL l o)) p = t at *
    intro hg
    unfold joinEN at hn
    unfold joinEL at hg
    cases hs : someB l h o
    · rw [hs, if_neg (by decide)] at hg
      by_cases q : s = placeFin o.pl
      · unfold someB at hs
        rw [Bool.or_eq_false_iff] at hs
        rw [ht q, find_none hs.1] at hg
        cases hg
      · rw [j1 q] at hg
        exact hg
    · rw [hs, if_pos rfl, if_pos ha] at hg hn
      have hm3 := putEL_may hn
      have E := ent_put hn t
      by_cases ta : t = aheadS l (placeFin o.pl)
      · rw [if_pos (show t = (joinZ l h o).id from ta)] at E
        rw [(find_hit hm3 E).1] at hg
        have hz : (findB h (aheadS l (placeFin o.pl)) && (findB h (placeFin o.pl) && ((findE h (aheadS l (placeFin o.pl))).ready && ((findE h (placeFin o.pl)).ready && wholeB (addL l o) (aheadS l (placeFin o.pl)))))) = true := hg
        simp only [Bool.and_eq_true] at hz
        by_cases q : s = placeFin o.pl
        · rw [q]; exact hz.2.2.2.1
        · rw [← j1 q, ta]; exact hz.2.2.1
      · have q : s ≠ placeFin o.pl := fun q => ta (ht q)
        rw [if_neg (show ¬ t = (joinZ l h o).id from ta)] at E
        have ts := j1 q
        have Ej : entOf (joinH h o) t = entOf h t := by
          unfold joinH
          split
          · rename_i hf
            have hd : dropN h (placeFin o.pl) = 0 := by
              unfold dropN
              rw [f2, if_pos rfl, ent_at f2, (findB_ent hf).2]
              rfl
            rw [drop_out hd]
            exact ent_outs20 (fun e => q (ts.symm.trans e)) h
          · rfl
        rw [← ts, (find_ent f2 hm3 (E.trans Ej)).1]
        exact hg

theorem turn_homes {l : List Op} {h : List Entry} {o : Op} (p : List Run) (k : turnN l h o = 0) (ha : addN l o = 0) : ofN l p = okOr 8 (plAny p) ∧ ofN (addL l o) p = okOr 8 (plAny p) := by
  obtain ⟨hfo, -⟩ := turn_sort k
  rw [Bool.and_eq_true] at hfo
  unfold ofN
  rw [(fits_iff.1 hfo.1).1, addL_may ha, Bool.true_and]
  exact ⟨rfl, rfl⟩

/-! ### The walk -/
set_option maxRecDepth 100000 in
set_option maxHeartbeats 8000000 in
theorem shiftReady20 (A B S D : Option Addr) (c d sc pc : Nat) (l : List Op) (H : List Entry) (o : Op) (p : List Run) (w : World) (hl : l.length ≤ 140737488355328) (hh : H.length ≤ 140737488355328) (hq : QShelf H) (hpl : p.length ≤ maxLen) (hA : R cOp 0 w A l) (hB : R cEntry 0 w B H) (ho : OpIn w o S sc) (hD : R cRun 0 w D p) :
    Calls Tryz.prog 8 #[.slice A l.length c, .slice B H.length d, .agg #[.int .u8 o.kind, .int .u32 o.id.t, .int .u8 o.id.r, .slice S o.pl.length sc, .int .i64 o.pt], .slice D p.length pc] w fun e w' => e = .returned (.bool true) ∧ Bl w w' := by
  have hlm : l.length ≤ maxLen := by unfold maxLen; omega
  have hhm : H.length ≤ maxLen := by unfold maxLen; omega
  obtain ⟨W, hW⟩ : ∃ W, W = w.alloc (.cells #[Value.int IntKind.u8 o.kind, Value.int IntKind.u32 o.id.t, Value.int IntKind.u8 o.id.r, Value.slice S o.pl.length sc, Value.int IntKind.i64 o.pt] 47) := ⟨_, rfl⟩
  have hbW : Bl w W := by rw [hW]; exact (Bl.refl _).alloc _
  have at0 : OpBox W w.heap.size o S sc := by rw [hW]; exact OpBox.new w o S sc _
  have hga := hide (fun V (hb : Bl w V) => refGreat10 A c l 40 V hl (hA.bl hb))
  have hgb := hide (fun V (hb : Bl w V) => refGreat19 B d H V hh hq (hB.bl hb))
  have htu := hide fun V (hv : Bl w V) => shiftTurn A B S c d sc l H o V hlm hhm (hA.bl hv) (hB.bl hv) (ho.bl hv)
  have had := hide fun V (hv : Bl w V) => bagAdd A S c sc l o V hlm (hA.bl hv) (ho.bl hv)
  have hso := ofS_ok hA.oksO p
  have hof := hide fun V (hv : Bl w V) => homeOf A D c pc l p V hlm hpl (hA.bl hv) (hD.bl hv)
  clear hq
  go_enter Tryz.func8, Tryz.ntmps8
  go_wp2_with fail
  rw [← hW]
  clear hW
  refine (lawAlive20 _).mono ?_
  rintro e w0 ⟨rfl, hb0⟩
  have hbw0 := hbW.trans hb0
  go_wp2_with fail
  refine (hga.out _ hbw0).mono ?_
  rintro e w1 ⟨ba, rfl, hfa, hb1⟩
  have hbw1 := hbw0.trans hb1
  cases ba
  rotate_left
  · clear hfa hgb htu had hof
    go_wp2_with fail
    go_ret
    exact ⟨rfl, hbw1⟩
  have hl40 : l.length ≤ 40 := by have := (hfa rfl).1; omega
  clear hfa hga
  go_wp2_with fail
  refine (hgb.out _ hbw1).mono ?_
  rintro e w2 ⟨bb, rfl, hfb, hb2⟩
  have hbw2 := hbw1.trans hb2
  have hbW2 := hb0.trans (hb1.trans hb2)
  cases bb
  rotate_left
  · clear hfb htu had hof
    go_wp2_with fail
    go_ret
    exact ⟨rfl, hbw2⟩
  have hh80 : H.length ≤ 80 := (hfb rfl).1
  clear hfb hgb
  obtain ⟨x0, x1, x2, x3, x4⟩ := (at0.bl hbW2).cells
  have hxl := (at0.bl hbW2).lt
  by_cases hp : (100 : Int) < (o.pl.length : Int)
  · clear htu had hof
    go_wp2_with fail
    go_ret
    exact ⟨rfl, hbw2⟩
  by_cases hp2 : (100 : Int) < (p.length : Int)
  · clear htu had hof
    go_wp2_with fail
    go_ret
    exact ⟨rfl, hbw2⟩
  have hfi := hide fun V (hv : Bl w V) => shelfFind B d H (ofS l p) V (by omega) hso (hB.bl hv)
  clear hso
  have htl : turnN l H o = 0 → addN l o = 0 → (turnL l H o).length ≤ 65 := fun h ha => (may_from (fits_iff.1 (turn_fits h ha)).2.1).1
  have hal : (addL l o).length ≤ maxLen := by have := addL_len2 l o; unfold maxLen; omega
  have hrd := hide fun (h : turnN l H o = 0) (ha : addN l o = 0) (k : plAny p = true) => turn_ready (p := p) h ha k
  have hho := hide fun (h : turnN l H o = 0) (ha : addN l o = 0) => turn_homes p h ha
  have hof2 := hide fun Y y V (hv : Bl w V) (hY : R cOp 0 V Y (addL l o)) => homeOf Y D y pc (addL l o) p V hal hpl hY (hD.bl hv)
  have hso2 := hide fun Y V (hY : R cOp 0 V Y (addL l o)) => ofS_ok hY.oksO p
  have hfi2 := hide fun X x V (h : turnN l H o = 0) (ha : addN l o = 0) (hs : (ofS (addL l o) p).ok) (hX : R cEntry 0 V X (turnL l H o)) => shelfFind X x (turnL l H o) (ofS (addL l o) p) V (by have := htl h ha; omega) hs hX
  clear htl hal
  generalize findE (turnL l H o) (ofS (addL l o) p) = g at *
  generalize findB (turnL l H o) (ofS (addL l o) p) = gb at *
  generalize findE H (ofS l p) = f at *
  generalize findB H (ofS l p) = fb at *
  generalize ofS (addL l o) p = t at *
  generalize ofN (addL l o) p = n2 at *
  generalize ofS l p = s at *
  generalize ofN l p = n1 at *
  generalize turnL l H o = tL at *
  generalize addL l o = aL at *
  generalize turnN l H o = tN at *
  generalize addN l o = aN at *
  go_wp2_with fail
  refine (htu.out _ hbw2).mono ?_
  rintro e w3 ⟨X, x, rfl, -, -, hX, hb3⟩
  have hbw3 := hbw2.trans hb3
  clear x0 x1 x2 x3 x4 hxl htu
  obtain ⟨x0, x1, x2, x3, x4⟩ := (at0.bl (hbW2.trans hb3)).cells
  have hxl := (at0.bl (hbW2.trans hb3)).lt
  go_wp2_with fail
  refine (had.out _ hbw3).mono ?_
  rintro e w4 ⟨Y, y, rfl, -, -, hY, hb4⟩
  have hbw4 := hbw3.trans hb4
  clear x0 x1 x2 x3 x4 hxl had
  by_cases hN : tN = 0
  rotate_left
  · have hNz : (tN == 0) = false := by rw [beq_eq_false_iff_ne]; exact hN
    replace hN := hide hN
    clear hof hof2 hfi hfi2 hrd hho hso2
    go_wp2_with fail
    go_ret
    exact ⟨rfl, hbw4⟩
  by_cases hM : aN = 0
  rotate_left
  · have hMz : (aN == 0) = false := by rw [beq_eq_false_iff_ne]; exact hM
    replace hM := hide hM
    subst hN
    clear hof hof2 hfi hfi2 hrd hho hso2
    go_wp2_with fail
    go_ret
    exact ⟨rfl, hbw4⟩
  obtain ⟨e1, e2⟩ := hho.out hN hM
  replace hrd := hide (hrd.out hN hM)
  replace hfi2 := hide fun X x V => hfi2.out X x V hN hM
  subst hN hM e1 e2
  clear hho
  have hX4 := hX.zero.bl hb4
  have hY4 := hY.zero
  clear hX hY
  have htk := hso2.out Y w4 hY4
  clear hso2
  go_wp2_with fail
  refine (hof.out _ hbw4).mono ?_
  rintro e w5 ⟨rfl, hb5⟩
  clear hof
  obtain ⟨V5, hV5⟩ : ∃ V5, V5 = w5.alloc (.cells #[Value.int IntKind.u32 s.t, Value.int IntKind.u8 s.r] 25) := ⟨_, rfl⟩
  have at5 : IdBox V5 w5.heap.size s := by rw [hV5]; exact IdBox.new w5 s _
  have hb5V : Bl w5 V5 := by rw [hV5]; exact (Bl.refl _).alloc _
  have hb45 := hb5.trans hb5V
  go_wp2_with fail
  rw [← hV5]
  clear hV5
  refine (hof2.out Y _ _ (hbw4.trans hb45) (hY4.bl hb45)).mono ?_
  rintro e w6 ⟨rfl, hb6⟩
  clear hof2
  obtain ⟨V6, hV6⟩ : ∃ V6, V6 = w6.alloc (.cells #[Value.int IntKind.u32 t.t, Value.int IntKind.u8 t.r] 25) := ⟨_, rfl⟩
  have at6 : IdBox V6 w6.heap.size t := by rw [hV6]; exact IdBox.new w6 t _
  have hb6V : Bl w6 V6 := by rw [hV6]; exact (Bl.refl _).alloc _
  have hb56 := hb6.trans hb6V
  have hb46 := hb45.trans hb56
  have hbw6 := hbw4.trans hb46
  obtain ⟨i0, i1, -, -⟩ := at5.bl hb56
  have hil := (at5.bl hb56).lt
  cases hpa : plAny p
  · rw [hpa] at hrd
    clear hrd hfi hfi2
    rw [okOr_false]
    go_upto_region 10 with fail
    rw [← hV6]
    clear hV6
    go_wp2_with fail
    go_ret
    exact ⟨rfl, hbw6⟩
  rw [hpa] at hrd
  have hR := hrd.out rfl
  clear hrd
  rw [okOr_true]
  go_upto_region 10 with fail
  rw [← hV6]
  clear hV6
  go_wp2_with fail
  refine (hfi.out _ hbw6).mono ?_
  rintro e w7 ⟨XA, xc, XB, xd, rfl, -, -, -, -, -, -, hb7⟩
  obtain ⟨V7, hV7⟩ : ∃ V7, V7 = w7.alloc (.cells #[Value.int IntKind.u32 f.id.t, Value.int IntKind.u8 f.id.r, Value.bool f.ready, Value.bool f.pin, Value.int IntKind.i64 f.used, Value.bool f.known, Value.slice XA f.snap.length xc, Value.slice XB f.got.length xd] 62) := ⟨_, rfl⟩
  have at7 : EntAt V7 w7.heap.size f XA xc XB xd := by rw [hV7]; exact EntAt.new w7 f XA xc XB xd _
  have hb7V : Bl w7 V7 := by rw [hV7]; exact (Bl.refl _).alloc _
  have hb67 := hb7.trans hb7V
  clear i0 i1 hil hfi
  obtain ⟨i0, i1, -, -⟩ := at6.bl hb67
  have hil := (at6.bl hb67).lt
  go_upto_region 13 with fail
  rw [← hV7]
  clear hV7
  go_wp2_with fail
  refine (hfi2.out X _ _ htk (hX4.bl (hb46.trans hb67))).mono ?_
  rintro e w8 ⟨YA, yc, YB, yd, rfl, -, -, -, -, -, -, hb8⟩
  obtain ⟨V8, hV8⟩ : ∃ V8, V8 = w8.alloc (.cells #[Value.int IntKind.u32 g.id.t, Value.int IntKind.u8 g.id.r, Value.bool g.ready, Value.bool g.pin, Value.int IntKind.i64 g.used, Value.bool g.known, Value.slice YA g.snap.length yc, Value.slice YB g.got.length yd] 62) := ⟨_, rfl⟩
  have at8 : EntAt V8 w8.heap.size g YA yc YB yd := by rw [hV8]; exact EntAt.new w8 g YA yc YB yd _
  have hb8V : Bl w8 V8 := by rw [hV8]; exact (Bl.refl _).alloc _
  have hb78 := hb8.trans hb8V
  have hbw8 := hbw6.trans (hb67.trans hb78)
  clear i0 i1 hil hfi2
  obtain ⟨y0, y1, y2, y3, y4, y5, y6, y7⟩ := at8.cells
  have hyl := at8.lt
  obtain ⟨z0, z1, z2, z3, z4, z5, z6, z7⟩ := (at7.bl hb78).cells
  have hzl := (at7.bl hb78).lt
  obtain ⟨x0, x1, x2, x3, x4⟩ := (at0.bl (hbW2.trans (hb3.trans (hb4.trans (hb46.trans (hb67.trans hb78)))))).cells
  have hxl := (at0.bl (hbW2.trans (hb3.trans (hb4.trans (hb46.trans (hb67.trans hb78)))))).lt
  obtain ⟨r1, r2⟩ := hR
  replace r2 := hide r2
  go_upto_region 14 with fail
  rw [← hV8]
  clear hV8
  cases hgr : g.ready
  · rw [hgr] at y2
    replace hgr := hide hgr
    replace r1 := hide r1
    by_cases hk4 : o.kind = 4
    · rw [hk4] at x0
      clear hk4 r2
      go_wp2_with fail
      go_ret
      exact ⟨rfl, hbw8⟩
    · have hkz : (o.kind == 4) = false := by rw [beq_eq_false_iff_ne]; exact hk4
      obtain ⟨q1, q2, q3⟩ := r2.out.resolve_left hk4
      replace hk4 := hide hk4
      rw [q2, hgr.out] at z2
      rw [q3] at z3
      clear q2 q3 hgr
      subst q1
      generalize g.pin = gp at *
      cases fb <;> cases gp <;> (go_wp2_with fail; go_ret; exact ⟨rfl, hbw8⟩)
  · have hfr := r1 hgr
    rw [hgr] at y2
    rw [hfr] at z2
    replace hgr := hide hgr
    replace r1 := hide r1
    replace hfr := hide hfr
    by_cases hk4 : o.kind = 4
    · rw [hk4] at x0
      clear hk4 r2
      go_wp2_with fail
      go_ret
      exact ⟨rfl, hbw8⟩
    · have hkz : (o.kind == 4) = false := by rw [beq_eq_false_iff_ne]; exact hk4
      obtain ⟨q1, q2, q3⟩ := r2.out.resolve_left hk4
      replace hk4 := hide hk4
      rw [q3] at z3
      clear q2 q3 hgr hfr
      subst q1
      generalize g.pin = gp at *
      cases fb <;> cases gp <;> (go_wp2_with fail; go_ret; exact ⟨rfl, hbw8⟩)
end Go.Proofs.YteoodmilcpmmpaaGreat

namespace Go.Proofs.YteoodmilcpmmpaaGreat
open Go.ChangeShapes Go.WideShapes Go.ChangeAt Go.RowKit

set_option maxRecDepth 100000 in
theorem shiftReadyLifted (os : Os) (started : os.Started) (H : Type) (enc : TypeId × Value → H) :
    ReturnsInHanded {} Tryz.checked os 8 .any (Rows.shiftReadySpec.pre6 enc Tryz.prog Tryz.f8 Rows.shiftReadyRow.domain false) (Rows.shiftReadySpec.post enc Tryz.prog Tryz.f8 false true false false) := by
  refine returnsInHanded_of_change_sized (C := Tryz.checked) ownKnobNone started (by kernel_rfl) Tryz.func8
    (ChangeSpec.witness6 (enc := enc) (C := Tryz.checked) false ⟨#[], #[.slice none 0 0, .slice none 0 0, .agg #[.int .u8 0, .int .u32 0, .int .u8 0, .slice none 0 0, .int .i64 0], .slice none 0 0], []⟩ 8 (by kernel_rfl) (by kernel_rfl) (by kernel_rfl) (by kernel_rfl)) ?_
  intro W base args ds gs before hval0 hW hcnd0 hsz0 _
  have hval : ∀ (j : Nat) t v, Tryz.f8.params[j]? = some t → args[j]? = some v → Value.okWide Tryz.prog W .any base t v := hval0
  have hsz : (DataW.weightsEach Tryz.prog (Tryz.f8.params.toList ++ Rows.shiftReadySpec.plain.varTypes Tryz.prog) (ds ++ gs)).all (· ≤ reachBytes) = true := hsz0
  have hW' := hW
  have hlt := hW.lt
  obtain ⟨p, q, hA0, hV, rfl, hfz, hnd⟩ := hW
  have hA : DataW.TrodAll enc Tryz.prog W 0 (fun _ => true) true Tryz.f8.params.toList args.toList ds p := hA0
  have hA1 := hA
  rw [Tryz.params8] at hA hval hsz
  obtain ⟨v0, v1, v2, v3, d0, d1, d2, d3, p0, p1, p2, p3, rfl, rfl, rfl, h0, h1, h2, h3⟩ := trodAll_four hA
  obtain ⟨rfl, rfl⟩ := trodVars_none hV
  clear hA0 hval0 hsz0
  obtain ⟨l_A, l_c, l, rfl, l_h1, l_h2, l_r, l_l, l_q⟩ := arg_slice unOps coOp rd_op (hval 0 22 v0 rfl rfl) h0 (fun b off h => hfz b off (by simp [h])) (fits_of hsz 0 rfl rfl)
  obtain ⟨h_A, h_c, h, rfl, -, -, h_r, h_l, h_q⟩ := arg_slice unEntries coEntry rd_entry (hval 1 56 v1 rfl rfl) h1 (fun b off h => hfz b off (by simp [h])) (fits_of hsz 1 rfl rfl)
  obtain ⟨o, o_A, o_c, rfl, o_ok, o_h1, o_h2, o_r, o_q⟩ := arg_op (hval 2 47 v2 rfl rfl) h2 (fun b off h => hfz b off (by simp [h])) (fits_of hsz 2 rfl rfl)
  obtain ⟨p_A, p_c, pl, rfl, p_h1, p_h2, p_r, p_l, p_q⟩ := arg_slice unRuns coRun rd_run (hval 3 26 v3 rfl rfl) h3 (fun b off h => hfz b off (by simp [h])) (fits_of hsz 3 rfl rfl)
  simp only [List.append_nil] at hW' hlt
  refine (shiftReady20 l_A h_A o_A p_A l_c h_c o_c p_c l h o pl W (ops_len l_l) (entries_len h_l) h_q (Nat.le_trans p_h1 p_h2) l_r h_r ⟨o_ok, o_h1, o_h2, o_r⟩ p_r).mono fun e W' ⟨he, hg⟩ => ?_
  subst he
  exact ⟨_, rfl, post_bl2 (pa := p0 ++ p1 ++ p2 ++ p3) (pv := []) hW' hg (by simp) (fun _ _ _ => trodAll_cons_mk (shut_bool Tryz.underlying4 _) trodAll_mk0)
    (args_stay laidOutTry hg (by rw [Tryz.params8]; intro t ht; simp at ht; rcases ht with rfl | rfl | rfl | rfl; exact read_ops; exact read_entries; exact read_op; exact read_runs) hA1 hlt) (fun _ _ => rfl)⟩

/-- The statement. -/
theorem shiftReady_holds : Rows.ShiftReadySaid :=
  OpenClaim.holds_of_wide 8 Tryz.f8 rfl rfl rfl rfl rfl rfl rfl ⟨rfl, rfl, rfl, rfl, rfl⟩ rfl rfl rfl rfl rfl (by kernel_rfl) Tryz.func8 (by kernel_rfl)
    (of_decide_eq_true (by kernel_rfl)) (by unfold Func.isWrapper; first | (rw [if_pos (by decide +kernel)]; kernel_rfl) | (rw [if_neg (by decide +kernel)]; exact ⟨rfl, rfl⟩))
    (fun os started H enc _ => shiftReadyLifted os started H enc)

#print axioms shiftReady_holds
end Go.Proofs.YteoodmilcpmmpaaGreat
