/-
  A region that draws its order, loads cells and stores to them at its end: a load may be taken first where all that may come ahead of it leaves its cell, and the store that does not waits for it. No program in sight.
  Plain: the shelf behind a join; what the walk of shift.joined asks of cells.
-/
import Derived.OrdersHeld
import Derived.RegionTactic
import Derived.Test.YteoodmilcpmmpaaGreatShiftK
namespace Go.Proofs.YteoodmilcpmmpaaGreat

open Go

section

variable {P : Program} {ops : Array Oper} {Q : Exit → Act → World → Prop} {md : Region.Mode} {F : World → Prop} {n : Nat} {L : List (Nat × (World → Prop))}

/-- Each of the conditions holds whose number has not come up. -/
def HoldT (L : List (Nat × (World → Prop))) (listed : Array Bool) (w : World) : Prop := ∀ q ∈ L, listed.getD q.1 true = false → q.2 w

theorem HoldT.back {listed : Array Bool} {i : Nat} {w : World} (hin : ∀ q ∈ L, i ≠ q.1) (h : HoldT L (listed.setIfInBounds i true) w) : HoldT L listed w := fun q hq hc => h q hq (by rw [getD_set_ne true (hin q hq)]; exact hc)

theorem HoldT.on {listed : Array Bool} {i : Nat} {w : World} (hin : ∀ q ∈ L, i ≠ q.1) (h : HoldT L listed w) : HoldT L (listed.setIfInBounds i true) w := fun q hq hc => h q hq (by rwa [getD_set_ne true (hin q hq)] at hc)

/-- Whatever order is picked from here on; and each condition holds behind every operation as long as its number has not come up. -/
def wpAnyT (P : Program) (md : Region.Mode) (ops : Array Oper) (Q : Exit → Act → World → Prop) (L : List (Nat × (World → Prop))) : Nat → Array Bool → Act → World → Prop
  | 0, listed, a, w => Region.ready md ops listed = [] ∧ Q .normal a w
  | fuel + 1, listed, a, w =>
    (Region.ready md ops listed = [] → Q .normal a w) ∧
    ∀ i ∈ Region.ready md ops listed, wpOp P ops Q i (fun a' w' => HoldT L (listed.setIfInBounds i true) w' ∧ wpAnyT P md ops Q L fuel (listed.setIfInBounds i true) a' w') a w

theorem wpAny_of_tail : ∀ (fuel : Nat) (listed : Array Bool) (a : Act) (w : World), wpAnyT P md ops Q L fuel listed a w → wpAny P md ops Q fuel listed a w
  | 0, _, _, _, h => h
  | fuel + 1, _, _, _, h => ⟨h.1, fun i hi => wpOp_mono (fun a' w' h' => wpAny_of_tail fuel _ a' w' h'.2) (h.2 i hi)⟩

theorem not_both {listed : Array Bool} {i : Nat} (h0 : listed.getD i true = false) (h1 : listed.getD i false = true) : False := by
  rcases Nat.lt_or_ge i listed.size with h' | h'
  · simp [h'] at h0 h1; rw [h0] at h1; cases h1
  · simp [Array.getElem?_eq_none h'] at h1

/-- What has come up has all that it waits for behind it. -/
def ClosedT (md : Region.Mode) (ops : Array Oper) (listed : Array Bool) : Prop := ∀ k ok, ops[k]? = some ok → listed.getD k false = true → ∀ e ∈ ok.after, Region.binds md e = true → listed.getD e.on false = true

theorem ClosedT.set {listed : Array Bool} {j : Nat} (h : ClosedT md ops listed) (hj : j ∈ Region.ready md ops listed) : ClosedT md ops (listed.setIfInBounds j true) := by
  intro k ok hok hk e he hb
  refine getD_set_true ?_
  by_cases hkj : k = j
  · subst hkj
    obtain ⟨-, oj, hoj, hall⟩ := mem_ready.1 hj
    rw [hok] at hoj
    cases hoj
    exact hall e he hb
  · rw [getD_set_ne false (Ne.symm hkj)] at hk
    exact h k ok hok hk e he hb

/-- Does number n wait for number i, by way of others? -/
def waitsIn (md : Region.Mode) (ops : Array Oper) (i : Nat) : Nat → Nat → Bool
  | 0, _ => false
  | f + 1, n => match ops[n]? with
    | none => false
    | some on => on.after.any fun e => Region.binds md e && (e.on == i || waitsIn md ops i f e.on)

theorem waits_listed {listed : Array Bool} {i : Nat} (hcl : ClosedT md ops listed) : ∀ (f n : Nat), (∀ on, ops[n]? = some on → ∀ e ∈ on.after, Region.binds md e = true → listed.getD e.on false = true) → waitsIn md ops i f n = true → listed.getD i false = true
  | 0, _, _, h => by cases h
  | f + 1, n, hn, h => by
    unfold waitsIn at h
    cases hon : ops[n]? with
    | none => rw [hon] at h; cases h
    | some on =>
      rw [hon] at h
      obtain ⟨e, he, hb⟩ := Array.any_eq_true'.1 h
      simp only [Bool.and_eq_true, Bool.or_eq_true, beq_iff_eq] at hb
      have hl := hn on hon e he hb.1
      rcases hb.2 with hi | hi
      · rw [← hi]; exact hl
      · exact waits_listed hcl f e.on (fun ok hok => hcl e.on ok hok hl) hi

theorem wpAnyT_first {i f : Nat} {oi : Oper} {v : Value} (hi : ops[i]? = some oi) (hsel : ∀ (j : Nat) (o : Oper) cs b, ops[j]? = some o → o.op ≠ .select cs b)
    (hQ : ∀ c a w, Q (.panic c) (a.put oi.dst v) w → Q (.panic c) a w) (hin : ∀ q ∈ L, i ≠ q.1) (hmem : (n, F) ∈ L) (hwait : waitsIn md ops i f n = true) :
    ∀ (fuel : Nat) (listed : Array Bool) (a : Act) (w : World),
      (∀ j oj, ops[j]? = some oj → j ≠ i → listed.getD j true = false → (∀ e ∈ oj.after, Region.binds md e = true → e.on ≠ i) → oi.apart ops oj = true) →
      i ∈ Region.ready md ops listed → listed.getD n true = false → ClosedT md ops listed → YieldsIf P ops F oi v a → HoldT L listed w →
      wpAnyT P md ops Q L fuel (listed.setIfInBounds i true) (a.put oi.dst v) w → wpAnyT P md ops Q L (fuel + 1) listed a w := by
  intro fuel
  induction fuel with
  | zero =>
    intro listed a w _ hr hn _ hy hF H
    refine ⟨fun h => (by rw [h] at hr; cases hr), fun j hj => ?_⟩
    by_cases hji : j = i
    · subst hji; exact hy.wpOp hi (hF _ hmem hn) ⟨hF.on hin, H⟩
    · have := ready_mono hj hji
      rw [H.1] at this
      cases this
  | succ fuel ih =>
    intro listed a w hfree hr hn hcl hy hF H
    refine ⟨fun h => (by rw [h] at hr; cases hr), fun j hj => ?_⟩
    by_cases hji : j = i
    · subst hji; exact hy.wpOp hi (hF _ hmem hn) ⟨hF.on hin, H⟩
    · have h1 := H.2 j (ready_mono hj hji)
      obtain ⟨hjun, oj, hoj, hall⟩ := mem_ready.1 hj
      have hnoti : ∀ e ∈ oj.after, Region.binds md e = true → e.on ≠ i := fun e he hb heq => not_both (mem_ready.1 hr).1 (heq ▸ hall e he hb)
      have hjn : j ≠ n := fun e => by
        subst e
        refine not_both (mem_ready.1 hr).1 (waits_listed hcl f j (fun on hon => ?_) hwait)
        rw [hoj] at hon
        cases hon
        exact hall
      have hn' : (listed.setIfInBounds j true).getD n true = false := by rw [getD_set_ne true hjn]; exact hn
      have hcm := Array.setIfInBounds_comm (xs := listed) true true (Ne.symm hji)
      have hn2 : ∀ {w' : World}, HoldT L ((listed.setIfInBounds i true).setIfInBounds j true) w' → HoldT L (listed.setIfInBounds j true) w' := fun h => by
        rw [hcm] at h
        exact h.back hin
      have h2 := wpOp_putIf hoj (hfree j oj hoj hji hjun hnoti) (fun cs b => hsel i oi cs b hi) (fun cs b => hsel j oj cs b hoj) hQ hy h1
      have hfree' : ∀ k ok, ops[k]? = some ok → k ≠ i → (listed.setIfInBounds j true).getD k true = false →
          (∀ e ∈ ok.after, Region.binds md e = true → e.on ≠ i) → oi.apart ops ok = true := fun k ok hk hki hun hno => by
        refine hfree k ok hk hki ?_ hno
        by_cases hjk : j = k
        · subst hjk; exact hjun
        · rw [getD_set_ne true hjk] at hun; exact hun
      refine wpOp_mono (fun a' w' h3 => ⟨hn2 h3.2.1, ih (listed.setIfInBounds j true) a' w' hfree' (ready_mono hr (Ne.symm hji)) hn' (hcl.set hj) h3.1 (hn2 h3.2.1) ?_⟩) h2
      rw [Array.setIfInBounds_comm _ _ hji]
      exact h3.2.2

theorem wpAnyT_firstP {i : Nat} {oi : Oper} {v : Value} (hi : ops[i]? = some oi) (hsel : ∀ (j : Nat) (o : Oper) cs b, ops[j]? = some o → o.op ≠ .select cs b)
    (hQ : ∀ c a w, Q (.panic c) (a.put oi.dst v) w → Q (.panic c) a w) (hin : ∀ q ∈ L, i ≠ q.1) :
    ∀ (fuel : Nat) (listed : Array Bool) (a : Act) (w : World),
      (∀ j oj, ops[j]? = some oj → j ≠ i → listed.getD j true = false → (∀ e ∈ oj.after, Region.binds md e = true → e.on ≠ i) → oi.apart ops oj = true) →
      i ∈ Region.ready md ops listed → YieldsIf P ops (fun _ => True) oi v a → HoldT L listed w →
      wpAnyT P md ops Q L fuel (listed.setIfInBounds i true) (a.put oi.dst v) w → wpAnyT P md ops Q L (fuel + 1) listed a w := by
  intro fuel
  induction fuel with
  | zero =>
    intro listed a w _ hr hy hF H
    refine ⟨fun h => (by rw [h] at hr; cases hr), fun j hj => ?_⟩
    by_cases hji : j = i
    · subst hji; exact hy.wpOp hi trivial ⟨hF.on hin, H⟩
    · have := ready_mono hj hji
      rw [H.1] at this
      cases this
  | succ fuel ih =>
    intro listed a w hfree hr hy hF H
    refine ⟨fun h => (by rw [h] at hr; cases hr), fun j hj => ?_⟩
    by_cases hji : j = i
    · subst hji; exact hy.wpOp hi trivial ⟨hF.on hin, H⟩
    · have h1 := H.2 j (ready_mono hj hji)
      obtain ⟨hjun, oj, hoj, hall⟩ := mem_ready.1 hj
      have hnoti : ∀ e ∈ oj.after, Region.binds md e = true → e.on ≠ i := fun e he hb heq => by
        have h1 := hall e he hb
        have h0 := (mem_ready.1 hr).1
        rw [heq] at h1
        rcases Nat.lt_or_ge i listed.size with h' | h'
        · simp [h'] at h0 h1; rw [h0] at h1; cases h1
        · simp [Array.getElem?_eq_none h'] at h1
      have hcm := Array.setIfInBounds_comm (xs := listed) true true (Ne.symm hji)
      have hn2 : ∀ {w' : World}, HoldT L ((listed.setIfInBounds i true).setIfInBounds j true) w' → HoldT L (listed.setIfInBounds j true) w' := fun h => by
        rw [hcm] at h
        exact h.back hin
      have h2 := wpOp_putIf hoj (hfree j oj hoj hji hjun hnoti) (fun cs b => hsel i oi cs b hi) (fun cs b => hsel j oj cs b hoj) hQ hy h1
      have hfree' : ∀ k ok, ops[k]? = some ok → k ≠ i → (listed.setIfInBounds j true).getD k true = false →
          (∀ e ∈ ok.after, Region.binds md e = true → e.on ≠ i) → oi.apart ops ok = true := fun k ok hk hki hun hno => by
        refine hfree k ok hk hki ?_ hno
        by_cases hjk : j = k
        · subst hjk; exact hjun
        · rw [getD_set_ne true hjk] at hun; exact hun
      refine wpOp_mono (fun a' w' h3 => ⟨hn2 h3.2.1, ih (listed.setIfInBounds j true) a' w' hfree' (ready_mono hr (Ne.symm hji)) h3.1 (hn2 h3.2.1) ?_⟩) h2
      rw [Array.setIfInBounds_comm _ _ hji]
      exact h3.2.2

def outT (L : List (Nat × (World → Prop))) (i : Nat) : Bool := L.all fun q => !(i == q.1)

theorem outT_spec {i : Nat} (h : outT L i = true) : ∀ q ∈ L, i ≠ q.1 := fun q hq => by
  unfold outT at h
  rw [List.all_eq_true] at h
  simpa using h q hq

theorem wpAnyT_pure {i : Nat} {oi : Oper} {v : Value} {fuel : Nat} {listed : Array Bool} {a : Act} {w : World} (hi : ops[i]? = some oi)
    (hs : Region.noSelect ops = true) (hf : Region.free md ops listed i = true) (hr : (Region.ready md ops listed).contains i = true) (hw : outT L i = true)
    (hQ : ∀ c a w, Q (.panic c) (a.put oi.dst v) w → Q (.panic c) a w) (hy : YieldsIf P ops (fun _ => True) oi v a) (hF : HoldT L listed w)
    (h : wpAnyT P md ops Q L fuel (listed.setIfInBounds i true) (a.put oi.dst v) w) : wpAnyT P md ops Q L (fuel + 1) listed a w :=
  wpAnyT_firstP hi (Region.noSelect_spec hs) hQ (outT_spec hw) fuel listed a w (Region.free_spec hi hf) (by simpa using hr) hy hF h

/-- The same, to be reckoned. -/
def closedB (md : Region.Mode) (ops : Array Oper) (listed : Array Bool) : Bool := (List.range ops.size).all fun k => !(listed.getD k false) || match ops[k]? with
  | none => true
  | some ok => ok.after.all fun e => !(Region.binds md e) || listed.getD e.on false

theorem closedB_spec {listed : Array Bool} (h : closedB md ops listed = true) : ClosedT md ops listed := by
  intro k ok hok hk e he hb
  unfold closedB at h
  rw [List.all_eq_true] at h
  have h1 := h k (List.mem_range.2 (Array.getElem?_eq_some_iff.1 hok).1)
  rw [hk, hok] at h1
  simp only [Bool.not_true, Bool.false_or] at h1
  have h2 := Array.all_eq_true_iff_forall_mem.1 h1 e he
  rw [hb] at h2
  simpa using h2

theorem wpAnyT_take {i : Nat} {oi : Oper} {v : Value} {fuel : Nat} {listed : Array Bool} {a : Act} {w : World} (hmem : (n, F) ∈ L) (hi : ops[i]? = some oi)
    (hs : Region.noSelect ops = true) (hf : Region.free md ops listed i = true) (hr : (Region.ready md ops listed).contains i = true) (hw : (waitsIn md ops i 4 n && outT L i && !(listed.getD n true) && closedB md ops listed) = true)
    (hQ : ∀ c a w, Q (.panic c) (a.put oi.dst v) w → Q (.panic c) a w) (hy : YieldsIf P ops F oi v a) (hF : HoldT L listed w)
    (h : wpAnyT P md ops Q L fuel (listed.setIfInBounds i true) (a.put oi.dst v) w) : wpAnyT P md ops Q L (fuel + 1) listed a w := by
  simp only [Bool.and_eq_true, Bool.not_eq_true'] at hw
  exact wpAnyT_first hi (Region.noSelect_spec hs) hQ (outT_spec hw.1.1.2) hmem hw.1.1.1 fuel listed a w (Region.free_spec hi hf) (by simpa using hr) hw.1.2 (closedB_spec hw.2) hy hF h

def AllReadyT (P : Program) (md : Region.Mode) (ops : Array Oper) (Q : Exit → Act → World → Prop) (L : List (Nat × (World → Prop))) (fuel : Nat) (listed : Array Bool) (a : Act) (w : World) (rs : List Nat) : Prop :=
  ∀ i ∈ rs, wpOp P ops Q i (fun a' w' => HoldT L (listed.setIfInBounds i true) w' ∧ wpAnyT P md ops Q L fuel (listed.setIfInBounds i true) a' w') a w

theorem AllReadyT.nil {fuel : Nat} {listed : Array Bool} {a : Act} {w : World} : AllReadyT P md ops Q L fuel listed a w [] := fun _ h => by cases h

theorem AllReadyT.cons {fuel : Nat} {listed : Array Bool} {a : Act} {w : World} {i : Nat} {o : Oper} {rs : List Nat} (ho : ops[i]? = some o)
    (h : ∀ K' : Act → World → Prop, (∀ a w, HoldT L (listed.setIfInBounds i true) w ∧ wpAnyT P md ops Q L fuel (listed.setIfInBounds i true) a w → K' a w) → if Region.wanted o (yielded ops a.tmps) = true then Oper.wp P o a w K' Q else K' (a.put o.dst undef) w)
    (hs : AllReadyT P md ops Q L fuel listed a w rs) : AllReadyT P md ops Q L fuel listed a w (i :: rs) := fun j hj => by
  rcases List.mem_cons.1 hj with rfl | hj
  · exact wpOp_step ho h
  · exact hs j hj

theorem wpAnyT_ready {rs : List Nat} {fuel : Nat} {listed : Array Bool} {a : Act} {w : World} (hr : Region.ready md ops listed = rs) (hne : rs ≠ [])
    (h : AllReadyT P md ops Q L fuel listed a w rs) : wpAnyT P md ops Q L (fuel + 1) listed a w := ⟨fun h0 => absurd (hr ▸ h0) hne, hr ▸ h⟩

theorem wpAnyT_done {listed : Array Bool} {a : Act} {w : World} (hr : Region.ready md ops listed = []) (h : Q .normal a w) : ∀ fuel, wpAnyT P md ops Q L fuel listed a w
  | 0 => ⟨hr, h⟩
  | _ + 1 => ⟨fun _ => h, by rw [hr]; simp⟩

theorem HoldT.two {n1 n2 : Nat} {F1 F2 : World → Prop} {w : World} (h1 : F1 w) (h2 : F2 w) (listed : Array Bool) : HoldT [(n1, F1), (n2, F2)] listed w := fun q hq _ => by
  rcases List.mem_cons.1 hq with rfl | hq
  · exact h1
  · rw [List.mem_singleton] at hq
    subst hq
    exact h2

theorem HoldT.second {n1 n2 : Nat} {F1 F2 : World → Prop} {w : World} {listed : Array Bool} (hn : listed.getD n1 true = true) (h2 : F2 w) : HoldT [(n1, F1), (n2, F2)] listed w := fun q hq hc => by
  rcases List.mem_cons.1 hq with rfl | hq
  · rw [hn] at hc; cases hc
  · rw [List.mem_singleton] at hq
    subst hq
    exact h2

theorem HoldT.none {w : World} {listed : Array Bool} (hn : (L.all fun q => listed.getD q.1 true) = true) : HoldT L listed w := fun q hq hc => by
  rw [List.all_eq_true] at hn
  have h := hn q hq
  rw [hc] at h
  cases h

theorem wp_region_tail {id : Nat} {a : Act} {w : World} (L : List (Nat × (World → Prop))) (hm : P.follows .mixedOrders = true)
    (h : wpAnyT P .any ops Q L ops.size (Array.replicate ops.size false) a { w with drawn := w.drawn + 1 }) : (Code.region id ops true).wp P Q a w :=
  wp_region_any hm (wpAny_of_tail _ _ _ _ h)

end

end Go.Proofs.YteoodmilcpmmpaaGreat

namespace Go.Proofs.YteoodmilcpmmpaaGreat

open Go.RowKit

/-- The entry behind a join. -/
def joinZ (l : List Op) (h : List Entry) (o : Op) : Entry :=
  ⟨aheadS l (placeFin o.pl), findB h (aheadS l (placeFin o.pl)) && (findB h (placeFin o.pl) && ((findE h (aheadS l (placeFin o.pl))).ready && ((findE h (placeFin o.pl)).ready && wholeB (addL l o) (aheadS l (placeFin o.pl))))),
    (findE h (aheadS l (placeFin o.pl))).pin || (findE h (placeFin o.pl)).pin, max (findE h (aheadS l (placeFin o.pl))).used (findE h (placeFin o.pl)).used, false, [], []⟩

def joinH (h : List Entry) (o : Op) : List Entry := if findB h (placeFin o.pl) then dropL h (placeFin o.pl) else h

def someB (l : List Op) (h : List Entry) (o : Op) : Bool := findB h (aheadS l (placeFin o.pl)) || findB h (placeFin o.pl)

def joinEL (l : List Op) (h : List Entry) (o : Op) : List Entry := if someB l h o then (if addN l o = 0 then putEL (joinH h o) (joinZ l h o) else []) else h

def joinEN (l : List Op) (h : List Entry) (o : Op) : Int := if someB l h o then (if addN l o = 0 then putN (joinH h o) (joinZ l h o) else addN l o) else 0

theorem set4_at {w : World} {Y : Nat} {x z : Entry} (h : EntAt w Y (blankE x) none 0 none 0) (hz : z.known = false ∧ z.snap = [] ∧ z.got = []) :
    EntAt (((((w.setCell ⟨Y, 0, none⟩ (.int .u32 z.id.t)).setCell ⟨Y, 1, none⟩ (.int .u8 z.id.r)).setCell ⟨Y, 2, none⟩ (.bool z.ready)).setCell ⟨Y, 3, none⟩ (.bool z.pin)).setCell ⟨Y, 4, none⟩ (.int .i64 z.used)) Y z none 0 none 0 := by
  obtain ⟨c0, c1, c2, c3, c4, c5, c6, c7⟩ := h.cells
  obtain ⟨f0, f1, f2, f3, f4, f5, f6, f7⟩ := h.frozens
  obtain ⟨z1, z2, z3⟩ := hz
  intro j u hu
  refine ⟨?_, by
    rw [World.frozen?_setCell, World.frozen?_setCell, World.frozen?_setCell, World.frozen?_setCell, World.frozen?_setCell]
    match j, hu with
    | 0, _ => exact f0
    | 1, _ => exact f1
    | 2, _ => exact f2
    | 3, _ => exact f3
    | 4, _ => exact f4
    | 5, _ => exact f5
    | 6, _ => exact f6
    | 7, _ => exact f7
    | j + 8, hu => simp [entryCells] at hu⟩
  match j, hu with
  | 0, hu => simp [entryCells] at hu; subst hu; exact cell_set_other (by simp) (cell_set_other (by simp) (cell_set_other (by simp) (cell_set_other (by simp) (cell_set_same c0))))
  | 1, hu => simp [entryCells] at hu; subst hu; exact cell_set_other (by simp) (cell_set_other (by simp) (cell_set_other (by simp) (cell_set_same (cell_set_other (by simp) c1))))
  | 2, hu => simp [entryCells] at hu; subst hu; exact cell_set_other (by simp) (cell_set_other (by simp) (cell_set_same (cell_set_other (by simp) (cell_set_other (by simp) c2))))
  | 3, hu => simp [entryCells] at hu; subst hu; exact cell_set_other (by simp) (cell_set_same (cell_set_other (by simp) (cell_set_other (by simp) (cell_set_other (by simp) c3))))
  | 4, hu => simp [entryCells] at hu; subst hu; exact cell_set_same (cell_set_other (by simp) (cell_set_other (by simp) (cell_set_other (by simp) (cell_set_other (by simp) c4))))
  | 5, hu => simp [entryCells] at hu; subst hu; rw [z1]; exact cell_set_other (by simp) (cell_set_other (by simp) (cell_set_other (by simp) (cell_set_other (by simp) (cell_set_other (by simp) c5))))
  | 6, hu => simp [entryCells] at hu; subst hu; rw [z2]; exact cell_set_other (by simp) (cell_set_other (by simp) (cell_set_other (by simp) (cell_set_other (by simp) (cell_set_other (by simp) c6))))
  | 7, hu => simp [entryCells] at hu; subst hu; rw [z3]; exact cell_set_other (by simp) (cell_set_other (by simp) (cell_set_other (by simp) (cell_set_other (by simp) (cell_set_other (by simp) c7))))
  | j + 8, hu => simp [entryCells] at hu

theorem set4_bl {a w : World} {Y : Nat} {z : Entry} (h : Bl a w) (hY : a.heap.size ≤ Y) : Bl a (((((w.setCell ⟨Y, 0, none⟩ (.int .u32 z.id.t)).setCell ⟨Y, 1, none⟩ (.int .u8 z.id.r)).setCell ⟨Y, 2, none⟩ (.bool z.ready)).setCell ⟨Y, 3, none⟩ (.bool z.pin)).setCell ⟨Y, 4, none⟩ (.int .i64 z.used)) :=
  ((((h.setCell (p := ⟨Y, 0, none⟩) hY _).setCell (p := ⟨Y, 1, none⟩) hY _).setCell (p := ⟨Y, 2, none⟩) hY _).setCell (p := ⟨Y, 3, none⟩) hY _).setCell (p := ⟨Y, 4, none⟩) hY _

/-- The cells that the region of a join loads. -/
def W6F (A X Y : Nat) (a : Id) (rx px : Bool) (ux : Int) (ry py : Bool) (uy : Int) (W' : World) : Prop := W'.cell? ⟨A, 0, none⟩ = some (.int .u32 a.t) ∧ W'.cell? ⟨A, 1, none⟩ = some (.int .u8 a.r) ∧ W'.cell? ⟨X, 2, none⟩ = some (.bool rx) ∧ W'.cell? ⟨X, 3, none⟩ = some (.bool px) ∧ W'.cell? ⟨X, 4, none⟩ = some (.int .i64 ux) ∧ W'.cell? ⟨Y, 2, none⟩ = some (.bool ry) ∧ W'.cell? ⟨Y, 3, none⟩ = some (.bool py) ∧ W'.cell? ⟨Y, 4, none⟩ = some (.int .i64 uy)

theorem W6F.set {A X Y : Nat} {a : Id} {rx px : Bool} {ux : Int} {ry py : Bool} {uy : Int} {V : World} (n1 : A ≠ X) (n2 : Y ≠ X) (h : W6F A X Y a rx px ux ry py uy V) (s : Id) : W6F A X Y a rx px ux ry py uy ((V.setCell ⟨X, 0, none⟩ (.int .u32 s.t)).setCell ⟨X, 1, none⟩ (.int .u8 s.r)) := by
  obtain ⟨h0, h1, h2, h3, h4, h5, h6, h7⟩ := h
  have q1 : ∀ i j, (⟨A, i, none⟩ : Addr) ≠ ⟨X, j, none⟩ := fun i j e => n1 (by injection e)
  have q2 : ∀ i j, (⟨Y, i, none⟩ : Addr) ≠ ⟨X, j, none⟩ := fun i j e => n2 (by injection e)
  exact ⟨cell_set_other (q1 _ _) (cell_set_other (q1 _ _) h0), cell_set_other (q1 _ _) (cell_set_other (q1 _ _) h1), cell_set_other (by simp) (cell_set_other (by simp) h2), cell_set_other (by simp) (cell_set_other (by simp) h3), cell_set_other (by simp) (cell_set_other (by simp) h4), cell_set_other (q2 _ _) (cell_set_other (q2 _ _) h5), cell_set_other (q2 _ _) (cell_set_other (q2 _ _) h6), cell_set_other (q2 _ _) (cell_set_other (q2 _ _) h7)⟩

def Y2F (Y : Nat) (py : Bool) (uy : Int) (W' : World) : Prop := W'.cell? ⟨Y, 3, none⟩ = some (.bool py) ∧ W'.cell? ⟨Y, 4, none⟩ = some (.int .i64 uy)

theorem Y2F.set {X Y j : Nat} {py : Bool} {uy : Int} {V : World} (n2 : Y ≠ X) (h : Y2F Y py uy V) (u : Value) : Y2F Y py uy (V.setCell ⟨X, j, none⟩ u) :=
  ⟨cell_set_other (fun e => n2 (by injection e)) h.1, cell_set_other (fun e => n2 (by injection e)) h.2⟩

theorem W6F.two {A X Y : Nat} {a : Id} {rx px : Bool} {ux : Int} {ry py : Bool} {uy : Int} {V : World} (h : W6F A X Y a rx px ux ry py uy V) : Y2F Y py uy V := ⟨h.2.2.2.2.2.2.1, h.2.2.2.2.2.2.2⟩

theorem W6F.bl {A X Y : Nat} {a : Id} {rx px : Bool} {ux : Int} {ry py : Bool} {uy : Int} {V V' : World} (h : W6F A X Y a rx px ux ry py uy V) (hb : Bl V V') : W6F A X Y a rx px ux ry py uy V' := by
  obtain ⟨h0, h1, h2, h3, h4, h5, h6, h7⟩ := h
  have q : ∀ {b o : Nat} {u : Value}, V.cell? ⟨b, o, none⟩ = some u → V'.cell? ⟨b, o, none⟩ = some u := fun h => (hb.cell (World.block_lt_of_cell? _ _ h)).trans h
  exact ⟨q h0, q h1, q h2, q h3, q h4, q h5, q h6, q h7⟩

theorem aheadS_ok {l : List Op} (h : ∀ x ∈ l, x.ok) (s : Id) : (aheadS l s).ok := by
  unfold aheadS
  split
  · rename_i hw
    cases hg : (sectF (livesF l))[(idxOf (sectF (livesF l)) s).toNat - 1]? with
    | none => exact zero_ok
    | some y =>
      have hb : bagMay l = true := by
        cases hb : bagMay l
        · unfold whereN at hw
          rw [hb] at hw
          cases hw
        · rfl
      rcases List.mem_cons.1 (List.mem_of_getElem? hg) with e | e
      · rw [Option.getD_some, e]; exact zero_ok
      · obtain ⟨x, hx, e⟩ := List.mem_map.1 e
        rw [Option.getD_some, ← e]
        exact (h x ((lives_mem hb).1 hx).1).2.1
  · exact zero_ok

theorem dropL_len (l : List Entry) (s : Id) : (dropL l s).length ≤ l.length := by
  unfold dropL
  split
  · rw [List.length_append, List.length_take, List.length_drop]; omega
  · simp

theorem addL_small {l : List Op} {o : Op} (h : addN l o = 0) : (addL l o).length ≤ 1024 := (bagMay_parts (addL_may h)).1

end Go.Proofs.YteoodmilcpmmpaaGreat
