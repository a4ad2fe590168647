/-
  Plain: live marks in the order of their places; in which section a place stands; sections, one behind the other. No program in sight.
  Plain: in which section a place stands, said of the set of live marks; what a mark, a join turns; sections, one behind the other. No program in sight.
  Plain: live marks sorted by their places are the live marks in order; which stamps a map of marks has. No program in sight.
-/
import Derived.Test.YteoodmilcpmmpaaGreatBagC
import Derived.Test.YteoodmilcpmmpaaGreatCmpPlain
namespace Go.Proofs.YteoodmilcpmmpaaGreat

open Go.RowKit

/-- Is a stamp joined? -/
def endedF (l : List Op) (s : Id) : Bool := l.any fun o => decide (o.kind = 4) && decide (placeFin o.pl = s)

def markOf (l : List Op) (o : Op) : Bool := decide (o.kind = 2) && !endedF l o.id

def markedF (l : List Op) : List Op := l.filter (markOf l)

/-- Each goes ahead of the first one that is behind it. -/
def insP (out : List Op) (o : Op) : List Op := out.takeWhile (fun x => decide (heldF x.pl o.pl < 0)) ++ o :: out.dropWhile (fun x => decide (heldF x.pl o.pl < 0))

def livesF (l : List Op) : List Op := (markedF l).foldl insP []

/-- By their places, ascending. -/
def SrtP (l : List Op) : Prop := l.Pairwise fun a b => heldF a.pl b.pl < 0

/-- Marks with places that may be, each at its own. -/
structure Mk (o : Op) : Prop where
  may : placeMay o.pl = true
  fin : placeFin o.pl = o.id

theorem Mk.pos {o : Op} (h : Mk o) : posM o.pl := may_pos h.may

theorem Mk.cmp {a b : Op} (ha : Mk a) (hb : Mk b) : heldF a.pl b.pl = cmpIds (plAll a.pl) (plAll b.pl) := held_cmp ha.pos hb.pos

theorem Mk.zero {a b : Op} (ha : Mk a) (hb : Mk b) (h : heldF a.pl b.pl = 0) : a.id = b.id := by
  rw [ha.cmp hb] at h
  have e := cmpIds_zero h
  have h1 := plAll_fin ha.may
  have h2 := plAll_fin hb.may
  rw [e, h2] at h1
  injection h1 with h1
  rw [← ha.fin, ← hb.fin, h1]

theorem Mk.tr {a b c : Op} (ha : Mk a) (hb : Mk b) (hc : Mk c) (h : heldF a.pl b.pl < 0) (k : heldF b.pl c.pl < 0) : heldF a.pl c.pl < 0 := by
  rw [ha.cmp hb] at h
  rw [hb.cmp hc] at k
  rw [ha.cmp hc]
  exact cmpIds_tr h k

theorem Mk.anti {a b : Op} (ha : Mk a) (hb : Mk b) : heldF b.pl a.pl = - heldF a.pl b.pl := by
  rw [ha.cmp hb, hb.cmp ha]
  exact cmpIds_anti _ _

theorem Mk.irr {a : Op} (ha : Mk a) : ¬ heldF a.pl a.pl < 0 := by
  rw [ha.cmp ha, cmpIds_self]
  decide

theorem SrtP.ext : ∀ {a b : List Op}, (∀ x ∈ a, Mk x) → SrtP a → SrtP b → (∀ x, x ∈ a ↔ x ∈ b) → a = b
  | [], [], _, _, _, _ => rfl
  | [], y :: b, _, _, _, h => by have := (h y).2 (List.mem_cons_self ..); cases this
  | x :: a, [], _, _, _, h => by have := (h x).1 (List.mem_cons_self ..); cases this
  | x :: a, y :: b, hm, ha, hb, h => by
    have hxa := List.pairwise_cons.1 ha
    have hyb := List.pairwise_cons.1 hb
    have mx := hm x (List.mem_cons_self ..)
    have my := hm y ((h y).2 (List.mem_cons_self ..))
    have hxy : x = y := by
      rcases List.mem_cons.1 ((h x).1 (List.mem_cons_self ..)) with e | e
      · exact e
      rcases List.mem_cons.1 ((h y).2 (List.mem_cons_self ..)) with e' | e'
      · exact e'.symm
      have h1 := hyb.1 x e
      have h2 := hxa.1 y e'
      rw [mx.anti my] at h1
      omega
    subst hxy
    rw [SrtP.ext (fun z hz => hm z (List.mem_cons_of_mem _ hz)) hxa.2 hyb.2 fun z => ?_]
    have hz := h z
    simp only [List.mem_cons] at hz
    constructor
    · intro hza
      rcases hz.1 (.inr hza) with e | e
      · subst e
        exact absurd (hxa.1 z hza) mx.irr
      · exact e
    · intro hzb
      rcases hz.2 (.inr hzb) with e | e
      · subst e
        exact absurd (hyb.1 z hzb) mx.irr
      · exact e

theorem ins_memP {out : List Op} {o x : Op} : x ∈ insP out o ↔ x = o ∨ x ∈ out := by
  unfold insP
  conv => rhs; rw [← List.takeWhile_append_dropWhile (p := fun x : Op => decide (heldF x.pl o.pl < 0)) (l := out)]
  simp only [List.mem_append, List.mem_cons]
  constructor
  · rintro (h | h | h) <;> simp [h]
  · rintro (h | h | h) <;> simp [h]

/-- The first of what is left is not ahead. -/
theorem drop_notP {out : List Op} {o : Op} (hm : ∀ x ∈ out, Mk x) (ho : Mk o) (hs : SrtP out) : ∀ x ∈ out.dropWhile (fun x => decide (heldF x.pl o.pl < 0)), ¬ heldF x.pl o.pl < 0 := by
  intro x hx
  have hsd : SrtP (out.dropWhile fun x => decide (heldF x.pl o.pl < 0)) := List.Pairwise.sublist (List.dropWhile_sublist _) hs
  have hmd : ∀ z ∈ out.dropWhile (fun x => decide (heldF x.pl o.pl < 0)), Mk z := fun z hz => hm z ((List.dropWhile_sublist _).subset hz)
  cases hd : out.dropWhile fun x => decide (heldF x.pl o.pl < 0) with
  | nil => rw [hd] at hx; cases hx
  | cons y r =>
    have hy : ¬ heldF y.pl o.pl < 0 := by
      have := List.head?_dropWhile_not (p := fun x : Op => decide (heldF x.pl o.pl < 0)) (l := out)
      rw [hd] at this
      simpa using this
    rw [hd] at hx hsd hmd
    rcases List.mem_cons.1 hx with rfl | hx
    · exact hy
    · have h1 := (List.pairwise_cons.1 hsd).1 x hx
      intro h2
      exact hy ((hmd y (List.mem_cons_self ..)).tr (hmd x (List.mem_cons_of_mem _ hx)) ho h1 h2)

theorem take_isP {out : List Op} {o : Op} : ∀ x ∈ out.takeWhile (fun x => decide (heldF x.pl o.pl < 0)), heldF x.pl o.pl < 0 := by
  intro x hx
  have := List.all_takeWhile (l := out) (p := fun x : Op => decide (heldF x.pl o.pl < 0))
  rw [List.all_eq_true] at this
  exact of_decide_eq_true (this x hx)

theorem ins_srtP {out : List Op} {o : Op} (hm : ∀ x ∈ out, Mk x) (ho : Mk o) (hs : SrtP out) (hne : ∀ x ∈ out, x.id ≠ o.id) : SrtP (insP out o) := by
  unfold insP
  have hxs := List.takeWhile_append_dropWhile (p := fun x : Op => decide (heldF x.pl o.pl < 0)) (l := out)
  have hs' := hs
  rw [← hxs] at hs'
  obtain ⟨h1, h2, h3⟩ := List.pairwise_append.1 hs'
  refine List.pairwise_append.2 ⟨h1, List.pairwise_cons.2 ⟨fun x hx => ?_, h2⟩, fun x hx y hy => ?_⟩
  · have hxo := hm x ((List.dropWhile_sublist _).subset hx)
    have h4 := drop_notP hm ho hs x hx
    have h5 : heldF x.pl o.pl ≠ 0 := fun e => hne x ((List.dropWhile_sublist _).subset hx) (hxo.zero ho e)
    have h6 := hxo.anti ho
    omega
  · rcases List.mem_cons.1 hy with rfl | hy
    · exact take_isP x hx
    · exact h3 x hx y hy

theorem foldl_ins : ∀ (l out : List Op), (∀ x ∈ out, Mk x) → (∀ x ∈ l, Mk x) → SrtP out → (out ++ l).Pairwise (fun a b => a.id ≠ b.id) → SrtP (l.foldl insP out) ∧ ∀ x, x ∈ l.foldl insP out ↔ x ∈ out ∨ x ∈ l
  | [], out, _, _, hs, _ => ⟨hs, fun x => by simp⟩
  | o :: l, out, hm, hl, hs, hd => by
    have ho := hl o (List.mem_cons_self ..)
    obtain ⟨d1, d2, d3⟩ := List.pairwise_append.1 hd
    have d4 := List.pairwise_cons.1 d2
    have hne : ∀ x ∈ out, x.id ≠ o.id := fun x hx => d3 x hx o (List.mem_cons_self ..)
    have h1 := foldl_ins l (insP out o) (fun x hx => by
        rcases ins_memP.1 hx with rfl | hx
        · exact ho
        · exact hm x hx) (fun x hx => hl x (List.mem_cons_of_mem _ hx)) (ins_srtP hm ho hs hne) ?_
    · refine ⟨h1.1, fun x => (h1.2 x).trans ?_⟩
      rw [ins_memP, List.mem_cons]
      constructor
      · rintro ((h | h) | h) <;> simp [h]
      · rintro (h | h | h) <;> simp [h]
    · refine List.pairwise_append.2 ⟨?_, d4.2, fun x hx y hy => ?_⟩
      · have hi := ins_srtP hm ho hs hne
        refine List.Pairwise.imp_of_mem (fun {a b} ha hb h e => ?_) hi
        have ma : Mk a := by
          rcases ins_memP.1 ha with rfl | ha
          · exact ho
          · exact hm a ha
        have mb : Mk b := by
          rcases ins_memP.1 hb with rfl | hb
          · exact ho
          · exact hm b hb
        by_cases q : a = b
        · subst q
          exact ma.irr h
        · rcases ins_memP.1 ha with ha2 | ha2
          · rcases ins_memP.1 hb with hb2 | hb2
            · exact q (ha2.trans hb2.symm)
            · exact hne b hb2 (by rw [← e, ha2])
          · rcases ins_memP.1 hb with hb2 | hb2
            · exact hne a ha2 (by rw [e, hb2])
            · obtain ⟨i, hi⟩ := List.getElem?_of_mem ha2
              obtain ⟨j, hj⟩ := List.getElem?_of_mem hb2
              have hpw := List.pairwise_iff_getElem.1 d1
              obtain ⟨hi', ei⟩ := List.getElem?_eq_some_iff.1 hi
              obtain ⟨hj', ej⟩ := List.getElem?_eq_some_iff.1 hj
              rcases Nat.lt_trichotomy i j with hij | hij | hij
              · have := hpw i j hi' hj' hij
                rw [ei, ej] at this
                exact this e
              · subst hij
                rw [hi] at hj
                injection hj with hj
                exact q hj
              · have := hpw j i hj' hi' hij
                rw [ei, ej] at this
                exact this e.symm
      · rcases ins_memP.1 hx with rfl | hx
        · exact d4.1 y hy
        · exact d3 x hx y (List.mem_cons_of_mem _ hy)

theorem mark_mk {o : Op} (h : opMay o = true) (hk : o.kind = 2) : Mk o := by
  unfold opMay opTail at h
  rw [if_neg (by omega), if_pos hk] at h
  simp only [Bool.and_eq_true, Bool.not_eq_true'] at h
  exact ⟨h.1.2, neqId_false h.2.1⟩

theorem Srt.ids {l : List Op} (h : Srt l) : l.Pairwise fun a b => a.id ≠ b.id := List.Pairwise.imp (fun {a b} h e => by rw [e, idLess_irr] at h; cases h) h

theorem marked_mk {l : List Op} (h : bagMay l = true) : ∀ x ∈ markedF l, Mk x := fun x hx => by
  obtain ⟨hx, hp⟩ := List.mem_filter.1 hx
  unfold markOf at hp
  rw [Bool.and_eq_true, decide_eq_true_eq] at hp
  exact mark_mk ((bagMay_parts h).2.2 x hx) hp.1

theorem lives_ok {l : List Op} (h : bagMay l = true) : SrtP (livesF l) ∧ ∀ x, x ∈ livesF l ↔ x ∈ markedF l := by
  have h1 := foldl_ins (markedF l) [] (fun x hx => by cases hx) (marked_mk h) List.Pairwise.nil (by
    rw [List.nil_append]
    exact List.Pairwise.filter _ (bagMay_parts h).2.1.ids)
  exact ⟨h1.1, fun x => by rw [show x ∈ livesF l ↔ _ from h1.2 x]; simp⟩

theorem lives_mk {l : List Op} (h : bagMay l = true) : ∀ x ∈ livesF l, Mk x := fun x hx => marked_mk h x (((lives_ok h).2 x).1 hx)

def homeF (live : List Op) (p : List Run) : Id := live.foldl (fun s x => if heldF x.pl p ≤ 0 then x.id else s) ⟨0, 0⟩

def sectF (live : List Op) : List Id := (⟨0, 0⟩ : Id) :: live.map (·.id)

/-- Where it stands first; -1: nowhere. -/
def idxOf : List Id → Id → Int
  | [], _ => -1
  | x :: l, s => if x = s then 0 else if idxOf l s < 0 then -1 else idxOf l s + 1

theorem idxOf_ge (l : List Id) (s : Id) : -1 ≤ idxOf l s := by
  induction l with
  | nil => exact Int.le_refl _
  | cons x l ih =>
    unfold idxOf
    split
    · omega
    · split <;> omega

theorem idxOf_get : ∀ {l : List Id} {s : Id} {n : Nat}, idxOf l s = n → l[n]? = some s
  | [], s, n, h => by unfold idxOf at h; omega
  | x :: l, s, n, h => by
    unfold idxOf at h
    split at h
    · rename_i e
      obtain rfl : n = 0 := by omega
      simp [e]
    · split at h
      · omega
      · obtain ⟨m, rfl⟩ : ∃ m, n = m + 1 := ⟨n - 1, by have := idxOf_ge l s; omega⟩
        rw [List.getElem?_cons_succ]
        exact idxOf_get (by omega)

def posP (live : List Op) (p : List Run) : Nat := (live.takeWhile fun x => decide (heldF x.pl p < 0)).length

def isP (live : List Op) (p : List Run) : Bool := live.any fun x => decide (heldF x.pl p = 0)

/-- Up to here all are ahead of p, from here on none is. -/
structure CutP (live : List Op) (p : List Run) (i : Nat) : Prop where
  lo : ∀ k x, k < i → live[k]? = some x → heldF x.pl p < 0
  hi : ∀ k x, i ≤ k → live[k]? = some x → 0 ≤ heldF x.pl p

theorem CutP.pos {l : List Op} {p : List Run} {i : Nat} (h : CutP l p i) (hi : i ≤ l.length) : posP l p = i := by
  unfold posP
  have h1 : ∀ x ∈ l.take i, decide (heldF x.pl p < 0) = true := fun x hx => by
    obtain ⟨k, hk⟩ := List.getElem?_of_mem hx
    rw [List.getElem?_take] at hk
    split at hk
    · rename_i hki
      exact decide_eq_true (h.lo k x hki hk)
    · cases hk
  have h2 : (l.drop i).takeWhile (fun x => decide (heldF x.pl p < 0)) = [] := by
    cases hd : l.drop i with
    | nil => rfl
    | cons y r =>
      have hy : l[i]? = some y := by
        have := congrArg (·[0]?) hd
        simpa using this
      have := h.hi i y (Nat.le_refl _) hy
      rw [List.takeWhile_cons, decide_eq_false (by omega)]
      rfl
  conv => lhs; rw [← List.take_append_drop i l]
  rw [List.takeWhile_append_of_pos h1, h2, List.append_nil, List.length_take]
  omega

theorem posP_le (l : List Op) (p : List Run) : posP l p ≤ l.length := by
  unfold posP
  exact (List.takeWhile_prefix _).length_le

theorem SrtP.get {l : List Op} (h : SrtP l) {i j : Nat} {x y : Op} (hi : l[i]? = some x) (hj : l[j]? = some y) (hij : i < j) : heldF x.pl y.pl < 0 := by
  obtain ⟨hi', rfl⟩ := List.getElem?_eq_some_iff.1 hi
  obtain ⟨hj', rfl⟩ := List.getElem?_eq_some_iff.1 hj
  exact List.pairwise_iff_getElem.1 h i j hi' hj' hij

theorem held_tr {a b : Op} {p : List Run} (ha : Mk a) (hb : Mk b) (hp : posM p) (h : heldF a.pl b.pl < 0) (k : heldF b.pl p ≤ 0) : heldF a.pl p < 0 := by
  rw [ha.cmp hb] at h
  rw [held_cmp hb.pos hp] at k
  rw [held_cmp ha.pos hp]
  by_cases e : cmpIds (plAll b.pl) (plAll p) = 0
  · rw [← cmpIds_zero e]
    exact h
  · exact cmpIds_tr h (by omega)

theorem held_tr2 {a b : Op} {p : List Run} (ha : Mk a) (hb : Mk b) (hp : posM p) (h : heldF a.pl b.pl < 0) (k : 0 ≤ heldF a.pl p) : 0 < heldF b.pl p := by
  by_cases q : heldF b.pl p ≤ 0
  · have := held_tr ha hb hp h q
    omega
  · omega

/-- Where it is cut. -/
theorem cutP_pos {l : List Op} {p : List Run} (hm : ∀ x ∈ l, Mk x) (hs : SrtP l) (hp : posM p) : CutP l p (posP l p) := by
  constructor
  · intro k x hk hx
    have h1 : (l.takeWhile fun x => decide (heldF x.pl p < 0))[k]? = some x := by
      have h2 := List.takeWhile_append_dropWhile (p := fun x : Op => decide (heldF x.pl p < 0)) (l := l)
      rw [← h2, List.getElem?_append_left hk] at hx
      exact hx
    have := List.all_takeWhile (l := l) (p := fun x : Op => decide (heldF x.pl p < 0))
    rw [List.all_eq_true] at this
    exact of_decide_eq_true (this x (List.mem_of_getElem? h1))
  · intro k x hk hx
    obtain ⟨y, hy⟩ := get_lt (show posP l p < l.length by have := (List.getElem?_eq_some_iff.1 hx).1; omega)
    have hy0 : 0 ≤ heldF y.pl p := by
      have h2 := List.takeWhile_append_dropWhile (p := fun x : Op => decide (heldF x.pl p < 0)) (l := l)
      have h3 := List.head?_dropWhile_not (p := fun x : Op => decide (heldF x.pl p < 0)) (l := l)
      have h4 : (l.dropWhile fun x => decide (heldF x.pl p < 0)).head? = some y := by
        have hy2 : (List.takeWhile (fun x => decide (heldF x.pl p < 0)) l ++ List.dropWhile (fun x => decide (heldF x.pl p < 0)) l)[(List.takeWhile (fun x => decide (heldF x.pl p < 0)) l).length]? = some y := by
          rw [h2]
          exact hy
        rw [List.getElem?_append_right (Nat.le_refl _), Nat.sub_self] at hy2
        rw [List.head?_eq_getElem?]
        exact hy2
      rw [h4] at h3
      simpa using h3
    by_cases e : k = posP l p
    · subst e
      rw [hy] at hx
      injection hx with hx
      exact hx ▸ hy0
    · have := held_tr2 (hm y (List.mem_of_getElem? hy)) (hm x (List.mem_of_getElem? hx)) hp (hs.get hy hx (by omega)) hy0
      omega

theorem home_lo : ∀ (l : List Op) (p : List Run) (s : Id), (∀ x ∈ l, 0 < heldF x.pl p) → l.foldl (fun s x => if heldF x.pl p ≤ 0 then x.id else s) s = s
  | [], _, _, _ => rfl
  | x :: l, p, s, h => by
    have := h x (List.mem_cons_self ..)
    rw [List.foldl_cons, if_neg (by omega)]
    exact home_lo l p s fun y hy => h y (List.mem_cons_of_mem _ hy)

theorem home_hi {l : List Op} {x : Op} {p : List Run} {s : Id} (h : heldF x.pl p ≤ 0) : (l ++ [x]).foldl (fun s x => if heldF x.pl p ≤ 0 then x.id else s) s = x.id := by
  rw [List.foldl_append]
  show (if heldF x.pl p ≤ 0 then x.id else _) = _
  rw [if_pos h]

/-- The section of a place: that of the mark that stands there, or of the last one ahead. -/
theorem home_at {l : List Op} {p : List Run} (hm : ∀ x ∈ l, Mk x) (hs : SrtP l) (hp : posM p) :
    (∃ x, l[posP l p]? = some x ∧ heldF x.pl p = 0 ∧ isP l p = true ∧ homeF l p = x.id) ∨
    (isP l p = false ∧ ((posP l p = 0 ∧ homeF l p = ⟨0, 0⟩) ∨ ∃ x, 1 ≤ posP l p ∧ l[posP l p - 1]? = some x ∧ homeF l p = x.id)) := by
  have hc := cutP_pos hm hs hp
  have hle := posP_le l p
  generalize posP l p = n at *
  have hsp := List.take_append_drop n l
  have hno : ∀ k x, n < k → l[k]? = some x → 0 < heldF x.pl p := fun k x hk hx => by
    obtain ⟨y, hy⟩ := get_lt (show n < l.length by have := (List.getElem?_eq_some_iff.1 hx).1; omega)
    exact held_tr2 (hm y (List.mem_of_getElem? hy)) (hm x (List.mem_of_getElem? hx)) hp (hs.get hy hx hk) (hc.hi n y (Nat.le_refl _) hy)
  have hback : (∀ x, l[n]? = some x → heldF x.pl p ≠ 0) → homeF l p = (l.take n).foldl (fun s x => if heldF x.pl p ≤ 0 then x.id else s) ⟨0, 0⟩ := fun h => by
    unfold homeF
    conv => lhs; rw [← hsp]
    rw [List.foldl_append]
    refine home_lo _ p _ fun x hx => ?_
    obtain ⟨k, hk⟩ := List.getElem?_of_mem hx
    rw [List.getElem?_drop] at hk
    by_cases e : k = 0
    · subst e
      have h1 := hc.hi n x (Nat.le_refl _) (by simpa using hk)
      have h2 := h x (by simpa using hk)
      omega
    · exact hno (n + k) x (by omega) hk
  have hisno : (∀ x, l[n]? = some x → heldF x.pl p ≠ 0) → isP l p = false := fun h => by
    unfold isP
    rw [List.any_eq_false]
    intro x hx
    obtain ⟨k, hk⟩ := List.getElem?_of_mem hx
    rw [decide_eq_true_eq]
    rcases Nat.lt_trichotomy k n with h1 | h1 | h1
    · have := hc.lo k x h1 hk
      omega
    · subst h1
      exact h x hk
    · have := hno k x h1 hk
      omega
  by_cases hn : n < l.length
  · obtain ⟨x, hx⟩ := get_lt hn
    by_cases h0 : heldF x.pl p = 0
    · left
      refine ⟨x, hx, h0, ?_, ?_⟩
      · unfold isP
        rw [List.any_eq_true]
        exact ⟨x, List.mem_of_getElem? hx, decide_eq_true h0⟩
      · unfold homeF
        conv => lhs; rw [← List.take_append_drop (n + 1) l]
        rw [List.foldl_append, take_snoc hx, home_hi (by omega)]
        refine home_lo _ p _ fun y hy => ?_
        obtain ⟨k, hk⟩ := List.getElem?_of_mem hy
        rw [List.getElem?_drop] at hk
        exact hno (n + 1 + k) y (by omega) hk
    · right
      have hne : ∀ y, l[n]? = some y → heldF y.pl p ≠ 0 := fun y hy => by
        rw [hx] at hy
        injection hy with hy
        exact hy ▸ h0
      refine ⟨hisno hne, ?_⟩
      rw [hback hne]
      by_cases hz : n = 0
      · left
        subst hz
        exact ⟨rfl, rfl⟩
      · right
        obtain ⟨y, hy⟩ := get_lt (show n - 1 < l.length by omega)
        refine ⟨y, by omega, hy, ?_⟩
        have e := take_snoc hy
        rw [show n - 1 + 1 = n by omega] at e
        rw [e]
        exact home_hi (by have := hc.lo (n - 1) y (by omega) hy; omega)
  · right
    have hne : ∀ y, l[n]? = some y → heldF y.pl p ≠ 0 := fun y hy => by
      have := (List.getElem?_eq_some_iff.1 hy).1
      omega
    refine ⟨hisno hne, ?_⟩
    rw [hback hne]
    by_cases hz : n = 0
    · left
      subst hz
      exact ⟨rfl, rfl⟩
    · right
      obtain ⟨y, hy⟩ := get_lt (show n - 1 < l.length by omega)
      refine ⟨y, by omega, hy, ?_⟩
      have e := take_snoc hy
      rw [show n - 1 + 1 = n by omega] at e
      rw [e]
      exact home_hi (by have := hc.lo (n - 1) y (by omega) hy; omega)

end Go.Proofs.YteoodmilcpmmpaaGreat

namespace Go.Proofs.YteoodmilcpmmpaaGreat

open Go.RowKit

/-- The section of a place: that of the last live mark that is not behind it. -/
def HomeIs (live : List Op) (p : List Run) (s : Id) : Prop := (s = ⟨0, 0⟩ ∧ ∀ x ∈ live, 0 < heldF x.pl p) ∨ ∃ x ∈ live, x.id = s ∧ heldF x.pl p ≤ 0 ∧ ∀ y ∈ live, heldF y.pl p ≤ 0 → y = x ∨ heldF y.pl x.pl < 0

theorem home_is {l : List Op} {p : List Run} (hm : ∀ x ∈ l, Mk x) (hs : SrtP l) (hp : posM p) : HomeIs l p (homeF l p) := by
  have hc := cutP_pos hm hs hp
  have hlt : ∀ {k j : Nat} {x y : Op}, l[k]? = some x → l[j]? = some y → k ≤ j → x = y ∨ heldF x.pl y.pl < 0 := fun {k j x y} hk hj hkj => by
    by_cases e : k = j
    · subst e
      rw [hk] at hj
      injection hj with hj
      exact .inl hj
    · exact .inr (hs.get hk hj (by omega))
  rcases home_at hm hs hp with ⟨x, hx, h0, -, he⟩ | ⟨his, ⟨h0, he⟩ | ⟨x, h1, hx, he⟩⟩
  · refine .inr ⟨x, List.mem_of_getElem? hx, he.symm, by omega, fun y hy hyp => ?_⟩
    obtain ⟨k, hk⟩ := List.getElem?_of_mem hy
    by_cases hkn : k ≤ posP l p
    · exact hlt hk hx hkn
    · have := held_tr2 (hm x (List.mem_of_getElem? hx)) (hm y hy) hp (hs.get hx hk (by omega)) (by omega)
      omega
  · refine .inl ⟨he, fun x hx => ?_⟩
    obtain ⟨k, hk⟩ := List.getElem?_of_mem hx
    have h2 := hc.hi k x (by omega) hk
    have h3 : heldF x.pl p ≠ 0 := fun e => by
      unfold isP at his
      rw [List.any_eq_false] at his
      exact his x hx (decide_eq_true e)
    omega
  · refine .inr ⟨x, List.mem_of_getElem? hx, he.symm, ?_, fun y hy hyp => ?_⟩
    · have := hc.lo _ x (by omega) hx
      omega
    · obtain ⟨k, hk⟩ := List.getElem?_of_mem hy
      by_cases hkn : k ≤ posP l p - 1
      · exact hlt hk hx hkn
      · have h2 := hc.hi k y (by omega) hk
        have h3 : heldF y.pl p ≠ 0 := fun e => by
          unfold isP at his
          rw [List.any_eq_false] at his
          exact his y hy (decide_eq_true e)
        omega

theorem HomeIs.one {l : List Op} {p : List Run} {s t : Id} (hm : ∀ x ∈ l, Mk x) (h : HomeIs l p s) (k : HomeIs l p t) : s = t := by
  rcases h with ⟨rfl, h⟩ | ⟨x, hx, rfl, h1, h2⟩
  · rcases k with ⟨rfl, -⟩ | ⟨y, hy, -, k1, -⟩
    · rfl
    · have := h y hy
      omega
  · rcases k with ⟨-, k⟩ | ⟨y, hy, rfl, k1, k2⟩
    · have := k x hx
      omega
    · rcases h2 y hy k1 with rfl | h3
      · rfl
      · rcases k2 x hx h1 with rfl | k3
        · rfl
        · have := (hm x hx).anti (hm y hy)
          omega

theorem HomeIs.congr {l m : List Op} {p : List Run} {s : Id} (h : HomeIs l p s) (e : ∀ x, x ∈ l ↔ x ∈ m) : HomeIs m p s := by
  rcases h with ⟨rfl, h⟩ | ⟨x, hx, rfl, h1, h2⟩
  · exact .inl ⟨rfl, fun x hx => h x ((e x).2 hx)⟩
  · exact .inr ⟨x, (e x).1 hx, rfl, h1, fun y hy => h2 y ((e y).2 hy)⟩

/-- The home, by its set. -/
theorem home_eq {l : List Op} {p : List Run} {s : Id} (hm : ∀ x ∈ l, Mk x) (hs : SrtP l) (hp : posM p) (h : HomeIs l p s) : homeF l p = s := (home_is hm hs hp).one hm h

theorem ended_ins {l : List Op} {o : Op} {s : Id} {n : Nat} : endedF (l.take n ++ o :: l.drop n) s = (endedF l s || (decide (o.kind = 4) && decide (placeFin o.pl = s))) := by
  rw [Bool.eq_iff_iff]
  unfold endedF
  rw [Bool.or_eq_true, List.any_eq_true, List.any_eq_true]
  constructor
  · rintro ⟨x, hx, h⟩
    rcases (ins_mem n).1 hx with rfl | hx
    · exact .inr h
    · exact .inl ⟨x, hx, h⟩
  · rintro (⟨x, hx, h⟩ | h)
    · exact ⟨x, (ins_mem n).2 (.inr hx), h⟩
    · exact ⟨o, (ins_mem n).2 (.inl rfl), h⟩

/-- The bag with an operation that is new. -/
theorem addL_new {l : List Op} {o : Op} (h : addN l o = 0) (hno : hasId l o.id = false) : addL l o = l.take (posOf l o.id) ++ o :: l.drop (posOf l o.id) := by
  unfold addL
  rw [if_pos h, if_neg (by rw [hno]; decide)]

theorem addL_old {l : List Op} {o : Op} (h : addN l o = 0) (hno : hasId l o.id = true) : addL l o = l := by
  unfold addL
  rw [if_pos h, if_pos hno]

theorem addN_full {l : List Op} {o : Op} (h : addN l o = 0) (hno : hasId l o.id = false) : l.length < 1024 := by
  obtain ⟨p1, p2⟩ := addN_parts h
  have h1 := (bagMay_parts p1).1
  have h2 : l.length ≠ 1024 := fun e => by
    unfold addN at h
    rw [p1, p2] at h
    simp [hno, e] at h
  omega

theorem addL_may {l : List Op} {o : Op} (h : addN l o = 0) : bagMay (addL l o) = true := by
  have hp := addN_parts h
  cases hno : hasId l o.id
  · rw [addL_new h hno]
    refine bagMay_of ?_ (ins_srt (bagMay_parts hp.1).2.1 hno) fun x hx => ?_
    · have := addN_full h hno
      rw [List.length_append, List.length_cons, List.length_take, List.length_drop]
      omega
    · rcases (ins_mem _).1 hx with rfl | hx
      · exact hp.2
      · exact (bagMay_parts hp.1).2.2 x hx
  · rw [addL_old h hno]
    exact hp.1

theorem marked_mem {l : List Op} {x : Op} : x ∈ markedF l ↔ x ∈ l ∧ x.kind = 2 ∧ endedF l x.id = false := by
  unfold markedF markOf
  rw [List.mem_filter, Bool.and_eq_true, decide_eq_true_eq, Bool.not_eq_true']

theorem lives_mem {l : List Op} (h : bagMay l = true) {x : Op} : x ∈ livesF l ↔ x ∈ l ∧ x.kind = 2 ∧ endedF l x.id = false := ((lives_ok h).2 x).trans marked_mem

theorem srt_one {l : List Op} (h : Srt l) {x y : Op} (hx : x ∈ l) (hy : y ∈ l) (e : x.id = y.id) : x = y := by
  obtain ⟨i, hi⟩ := List.getElem?_of_mem hx
  obtain ⟨j, hj⟩ := List.getElem?_of_mem hy
  obtain ⟨hi', ei⟩ := List.getElem?_eq_some_iff.1 hi
  obtain ⟨hj', ej⟩ := List.getElem?_eq_some_iff.1 hj
  have hpw := List.pairwise_iff_getElem.1 h.ids
  rcases Nat.lt_trichotomy i j with hij | hij | hij
  · have := hpw i j hi' hj' hij
    rw [ei, ej] at this
    exact absurd e this
  · subst hij
    rw [hi] at hj
    injection hj
  · have := hpw j i hj' hi' hij
    rw [ei, ej] at this
    exact absurd e.symm this

/-- Live marks behind an operation that is new. -/
theorem lives_add {l : List Op} {o : Op} (h : addN l o = 0) (hno : hasId l o.id = false) {x : Op} :
    x ∈ livesF (addL l o) ↔ (x ∈ livesF l ∧ ¬ (o.kind = 4 ∧ placeFin o.pl = x.id)) ∨ (x = o ∧ o.kind = 2 ∧ endedF l o.id = false) := by
  have hp := addN_parts h
  rw [lives_mem (addL_may h), lives_mem hp.1, addL_new h hno, ins_mem, ended_ins]
  constructor
  · rintro ⟨rfl | hx, hk, he⟩
    · right
      simp only [Bool.or_eq_false_iff] at he
      exact ⟨rfl, hk, he.1⟩
    · left
      simp only [Bool.or_eq_false_iff] at he
      refine ⟨⟨hx, hk, he.1⟩, fun ⟨h4, hf⟩ => ?_⟩
      rw [decide_eq_true h4, decide_eq_true hf] at he
      cases he.2
  · rintro (⟨⟨hx, hk, he⟩, hn⟩ | ⟨rfl, hk, he⟩)
    · refine ⟨.inr hx, hk, ?_⟩
      simp only [Bool.or_eq_false_iff]
      refine ⟨he, ?_⟩
      by_cases h4 : o.kind = 4
      · by_cases hf : placeFin o.pl = x.id
        · exact absurd ⟨h4, hf⟩ hn
        · rw [decide_eq_false hf, Bool.and_false]
      · rw [decide_eq_false h4, Bool.false_and]
    · refine ⟨.inl rfl, hk, ?_⟩
      simp only [Bool.or_eq_false_iff]
      refine ⟨he, ?_⟩
      rw [decide_eq_false (by omega), Bool.false_and]

/-- The sections' stamps are all unlike. -/
theorem sect_one {l : List Op} (h : bagMay l = true) {i j : Nat} {s : Id} (hi : (sectF (livesF l))[i]? = some s) (hj : (sectF (livesF l))[j]? = some s) : i = j := by
  have hz : ∀ (k : Nat) (s : Id), (sectF (livesF l))[k + 1]? = some s → ∃ x, (livesF l)[k]? = some x ∧ x.id = s := fun k s hk => by
    unfold sectF at hk
    rw [List.getElem?_cons_succ, List.getElem?_map] at hk
    cases hx : (livesF l)[k]? with
    | none => rw [hx] at hk; cases hk
    | some x => rw [hx] at hk; exact ⟨x, rfl, by simpa using hk⟩
  have hne : ∀ (k : Nat) (x : Op), (livesF l)[k]? = some x → x.id ≠ ⟨0, 0⟩ := fun k x hx e => by
    have h4 := opMay_less ((bagMay_parts h).2.2 x ((lives_mem h).1 (List.mem_of_getElem? hx)).1)
    rw [e] at h4
    simp [idLess] at h4
  have h0 : ∀ s, (sectF (livesF l))[0]? = some s → s = ⟨0, 0⟩ := fun s h => by
    unfold sectF at h
    simpa using h.symm
  match i, j with
  | 0, 0 => rfl
  | 0, j + 1 =>
    obtain ⟨x, hx, e⟩ := hz j s hj
    exact absurd (e.trans (h0 s hi)) (hne j x hx)
  | i + 1, 0 =>
    obtain ⟨x, hx, e⟩ := hz i s hi
    exact absurd (e.trans (h0 s hj)) (hne i x hx)
  | i + 1, j + 1 =>
    obtain ⟨x, hx, ex⟩ := hz i s hi
    obtain ⟨y, hy, ey⟩ := hz j s hj
    have hxy : x = y := srt_one (bagMay_parts h).2.1 ((lives_mem h).1 (List.mem_of_getElem? hx)).1 ((lives_mem h).1 (List.mem_of_getElem? hy)).1 (ex.trans ey.symm)
    subst hxy
    rcases Nat.lt_trichotomy i j with hij | hij | hij
    · exact absurd ((lives_ok h).1.get hx hy hij) (lives_mk h x (List.mem_of_getElem? hx)).irr
    · rw [hij]
    · exact absurd ((lives_ok h).1.get hy hx hij) (lives_mk h x (List.mem_of_getElem? hx)).irr

def beginF (live : List Op) (i : Nat) : List Run := match i with
  | 0 => []
  | i + 1 => match live[i]? with
    | some x => x.pl
    | none => []

/-- Does a place stand in the span of section i? -/
def inF (live : List Op) (p : List Run) (i : Nat) : Bool := decide (plCmp (beginF live i) p ≤ 0) && (decide ((beginF live (i + 1)).length = 0) || decide (plCmp p (beginF live (i + 1)) < 0))

theorem mk_len {x : Op} (h : Mk x) : 1 ≤ x.pl.length := (placeMay_parts h.may).1

theorem mk_any {x : Op} (h : Mk x) : plAny x.pl = true := by unfold plAny; rw [h.may, Bool.or_true]

theorem begin_len {l : List Op} (h : bagMay l = true) (i : Nat) : (beginF (livesF l) i).length = 0 ↔ i = 0 ∨ (livesF l).length < i := by
  unfold beginF
  match i with
  | 0 => simp
  | i + 1 =>
    dsimp only
    cases hx : (livesF l)[i]? with
    | none =>
      rw [List.getElem?_eq_none_iff] at hx
      simp
      omega
    | some x =>
      have h1 := mk_len (lives_mk h x (List.mem_of_getElem? hx))
      have h2 := (List.getElem?_eq_some_iff.1 hx).1
      dsimp only
      omega

theorem cmp_nil {p : List Run} (hp : plAny p = true) : plCmp [] p ≤ 0 := by
  rw [plCmp_ids (by rfl) hp]
  show cmpIds [] (plAll p) ≤ 0
  cases plAll p with
  | nil => exact Int.le_refl _
  | cons x l => unfold cmpIds; decide

theorem mk_cmpL {x : Op} {p : List Run} (hx : Mk x) (hp : plAny p = true) : plCmp x.pl p = heldF x.pl p := by
  unfold plCmp
  rw [mk_any hx, hp]
  rfl

theorem mk_cmpR {x : Op} {p : List Run} (hx : Mk x) (hp : plAny p = true) : plCmp p x.pl = - heldF x.pl p := by
  rw [plCmp_ids hp (mk_any hx), held_cmp hx.pos (any_pos hp)]
  exact cmpIds_anti _ _

/-- A place stands in the span of its home, and of no other section. -/
theorem in_home {l : List Op} {p : List Run} {i : Nat} {s : Id} (h : bagMay l = true) (hp : plAny p = true) (hi : (sectF (livesF l))[i]? = some s) : inF (livesF l) p i = decide (s = homeF (livesF l) p) := by
  have hl := lives_mk h
  have hso := (lives_ok h).1
  have hps := any_pos hp
  have his := home_is hl hso hps
  have hlen : i ≤ (livesF l).length := by
    have := (List.getElem?_eq_some_iff.1 hi).1
    unfold sectF at this
    rw [List.length_cons, List.length_map] at this
    omega
  rw [Bool.eq_iff_iff, decide_eq_true_eq]
  unfold inF
  rw [Bool.and_eq_true, Bool.or_eq_true, decide_eq_true_eq, decide_eq_true_eq, decide_eq_true_eq, begin_len h]
  have hnext : (i + 1 = 0 ∨ (livesF l).length < i + 1) ∨ plCmp p (beginF (livesF l) (i + 1)) < 0 ↔ ∀ (k : Nat) (y : Op), i ≤ k → (livesF l)[k]? = some y → 0 < heldF y.pl p := by
    by_cases hil : i < (livesF l).length
    · obtain ⟨y, hy⟩ := get_lt hil
      have e : beginF (livesF l) (i + 1) = y.pl := by
        unfold beginF
        dsimp only
        rw [hy]
      rw [e, mk_cmpR (hl y (List.mem_of_getElem? hy)) hp]
      constructor
      · rintro ((h0 | h0) | h0) k z hk hz
        · omega
        · omega
        · by_cases hki : k = i
          · subst hki
            rw [hy] at hz
            injection hz with hz
            subst hz
            omega
          · exact held_tr2 (hl y (List.mem_of_getElem? hy)) (hl z (List.mem_of_getElem? hz)) hps (hso.get hy hz (by omega)) (by omega)
      · intro hk
        have := hk i y (Nat.le_refl _) hy
        exact .inr (by omega)
    · constructor
      · intro _ k z hk hz
        have := (List.getElem?_eq_some_iff.1 hz).1
        omega
      · intro _
        exact .inl (.inr (by omega))
  rw [hnext]
  match i, hi, hlen with
  | 0, hi, _ =>
    have hs0 : s = ⟨0, 0⟩ := by
      unfold sectF at hi
      simpa using hi.symm
    subst hs0
    constructor
    · rintro ⟨-, hk⟩
      exact (home_eq hl hso hps (.inl ⟨rfl, fun x hx => by
        obtain ⟨k, hkx⟩ := List.getElem?_of_mem hx
        exact hk k x (Nat.zero_le _) hkx⟩)).symm
    · intro e
      refine ⟨cmp_nil hp, fun k y _ hy => ?_⟩
      rcases his with ⟨-, h1⟩ | ⟨x, hx, hxs, -⟩
      · exact h1 y (List.mem_of_getElem? hy)
      · exfalso
        have h4 := opMay_less ((bagMay_parts h).2.2 x ((lives_mem h).1 hx).1)
        rw [hxs, ← e] at h4
        simp [idLess] at h4
  | i + 1, hi, hlen =>
    obtain ⟨x, hx⟩ := get_lt (show i < (livesF l).length by omega)
    have hxl := List.mem_of_getElem? hx
    have hsx : s = x.id := by
      unfold sectF at hi
      rw [List.getElem?_cons_succ, List.getElem?_map, hx] at hi
      simpa using hi.symm
    subst hsx
    have e : beginF (livesF l) (i + 1) = x.pl := by
      unfold beginF
      dsimp only
      rw [hx]
    rw [e, mk_cmpL (hl x hxl) hp]
    constructor
    · rintro ⟨hxp, hk⟩
      refine (home_eq hl hso hps (.inr ⟨x, hxl, rfl, hxp, fun y hy hyp => ?_⟩)).symm
      obtain ⟨k, hky⟩ := List.getElem?_of_mem hy
      rcases Nat.lt_trichotomy k i with hki | hki | hki
      · exact .inr (hso.get hky hx hki)
      · subst hki
        rw [hx] at hky
        injection hky with hky
        exact .inl hky.symm
      · have := hk k y hki hky
        omega
    · intro e2
      rcases his with ⟨h0, -⟩ | ⟨z, hz, hzs, hzp, hzm⟩
      · exfalso
        have h4 := opMay_less ((bagMay_parts h).2.2 x ((lives_mem h).1 hxl).1)
        rw [e2, h0] at h4
        simp [idLess] at h4
      · have hxz : x = z := srt_one (bagMay_parts h).2.1 ((lives_mem h).1 hxl).1 ((lives_mem h).1 hz).1 (e2.trans hzs.symm)
        subst hxz
        refine ⟨hzp, fun k y hk hy => ?_⟩
        have hxy := hso.get hx hy (by omega)
        by_cases hyp : heldF y.pl p ≤ 0
        · exfalso
          rcases hzm y (List.mem_of_getElem? hy) hyp with rfl | h3
          · exact (hl y hxl).irr hxy
          · have := (hl x hxl).anti (hl y (List.mem_of_getElem? hy))
            omega
        · omega

theorem home_some {l : List Op} {p : List Run} (h : bagMay l = true) (hp : plAny p = true) : ∃ i : Nat, (sectF (livesF l))[i]? = some (homeF (livesF l) p) := by
  rcases home_is (lives_mk h) (lives_ok h).1 (any_pos hp) with ⟨h0, -⟩ | ⟨x, hx, hxs, -⟩
  · exact ⟨0, by rw [h0]; rfl⟩
  · obtain ⟨i, hi⟩ := List.getElem?_of_mem hx
    exact ⟨i + 1, by unfold sectF; rw [List.getElem?_cons_succ, List.getElem?_map, hi, ← hxs]; rfl⟩

def ofN (l : List Op) (p : List Run) : Int := okOr 8 (bagMay l && plAny p)

def ofS (l : List Op) (p : List Run) : Id := if bagMay l && plAny p then homeF (livesF l) p else ⟨0, 0⟩

def allL (l : List Op) : List Id := if bagMay l then sectF (livesF l) else []

def whereN (l : List Op) (s : Id) (least : Int) : Int := if bagMay l then (if idxOf (sectF (livesF l)) s < least then 130 else 0) else 8

def aheadS (l : List Op) (s : Id) : Id := if whereN l s 1 = 0 then ((sectF (livesF l))[(idxOf (sectF (livesF l)) s).toNat - 1]?).getD ⟨0, 0⟩ else ⟨0, 0⟩

def spanA (l : List Op) (s : Id) : List Run := if whereN l s 0 = 0 then beginF (livesF l) (idxOf (sectF (livesF l)) s).toNat else []

def spanB (l : List Op) (s : Id) : List Run := if whereN l s 0 = 0 then beginF (livesF l) ((idxOf (sectF (livesF l)) s).toNat + 1) else []

theorem idx_le : ∀ (l : List Id) (s : Id), idxOf l s < (l.length : Int)
  | [], s => by unfold idxOf; simp
  | x :: l, s => by
    have h := idx_le l s
    unfold idxOf
    rw [List.length_cons]
    split
    · omega
    · split <;> omega

theorem ins_len (out : List Op) (o : Op) : (insP out o).length = out.length + 1 := by
  unfold insP
  have h := congrArg List.length (List.takeWhile_append_dropWhile (p := fun x : Op => decide (heldF x.pl o.pl < 0)) (l := out))
  rw [List.length_append] at h
  rw [List.length_append, List.length_cons]
  omega

theorem foldl_len : ∀ (l out : List Op), (l.foldl insP out).length = out.length + l.length
  | [], out => by simp
  | x :: l, out => by
    rw [List.foldl_cons, foldl_len l, ins_len, List.length_cons]
    omega

theorem lives_len (l : List Op) : (livesF l).length ≤ l.length := by
  unfold livesF
  rw [foldl_len, List.length_nil, Nat.zero_add]
  exact List.length_filter_le _ _

theorem lives_small {l : List Op} (h : bagMay l = true) : (livesF l).length ≤ 1024 := Nat.le_trans (lives_len l) (bagMay_parts h).1

theorem bag_places {l : List Op} (h : bagMay l = true) : ∀ x ∈ l, placeMay x.pl = true := fun x hx => by
  have h4 := (bagMay_parts h).2.2 x hx
  unfold opMay at h4
  simp only [Bool.and_eq_true] at h4
  exact h4.1.2

theorem lives_places {l : List Op} (h : bagMay l = true) : ∀ x ∈ livesF l, placeMay x.pl = true := fun x hx => (lives_mk h x hx).may

theorem sect_length (l : List Op) : (sectF l).length = l.length + 1 := by
  unfold sectF
  rw [List.length_cons, List.length_map]

end Go.Proofs.YteoodmilcpmmpaaGreat

namespace Go.Proofs.YteoodmilcpmmpaaGreat

open Go.RowKit

theorem live_sorted {l ys : List Op} (h : bagMay l = true) (hp : ys.Perm (markedF l)) (hs : ys.Pairwise fun a b => ¬ cmpIds (plAll b.pl) (plAll a.pl) < 0) : ys = livesF l := by
  have hmk : ∀ x ∈ ys, Mk x := fun x hx => marked_mk h x (hp.mem_iff.1 hx)
  have hid : ys.Pairwise fun a b => a.id ≠ b.id := (hp.pairwise_iff (fun {a b} (e : a.id ≠ b.id) => e.symm)).2 (List.Pairwise.filter _ (bagMay_parts h).2.1.ids)
  have hsr : SrtP ys := by
    refine List.Pairwise.imp_of_mem (fun {a b} ha hb hab => ?_) (hs.and hid)
    have e := (hmk b hb).cmp (hmk a ha)
    have e2 := (hmk a ha).anti (hmk b hb)
    have e3 : heldF a.pl b.pl ≠ 0 := fun e => hab.2 ((hmk a ha).zero (hmk b hb) e)
    have e4 := hab.1
    rw [← e] at e4
    omega
  exact SrtP.ext hmk hsr (lives_ok h).1 fun x => (hp.mem_iff).trans ((lives_ok h).2 x).symm

/-- Does a mark of some bear a stamp? -/
def hasMark (l : List Op) (s : Id) : Bool := l.any fun x => decide (x.kind = 2) && decide (x.id = s)

theorem hasMark_take {l : List Op} {k : Nat} {x : Op} (h : l[k]? = some x) (s : Id) : hasMark (l.take (k + 1)) s = (hasMark (l.take k) s || (decide (x.kind = 2) && decide (x.id = s))) := by
  unfold hasMark
  rw [take_snoc h, List.any_append]
  simp

theorem ended_take {l : List Op} {k : Nat} {x : Op} (h : l[k]? = some x) (s : Id) : endedF (l.take (k + 1)) s = (endedF (l.take k) s || (decide (x.kind = 4) && decide (placeFin x.pl = s))) := by
  unfold endedF
  rw [take_snoc h, List.any_append]
  simp

/-- What a map of marks has that are not joined. -/
def openMark (l : List Op) (s : Id) : Bool := hasMark l s && !endedF l s

theorem open_mark {l : List Op} (h : Srt l) {x : Op} (hx : x ∈ l) : openMark l x.id = markOf l x := by
  unfold openMark markOf
  congr 1
  rw [Bool.eq_iff_iff, decide_eq_true_eq]
  unfold hasMark
  rw [List.any_eq_true]
  constructor
  · rintro ⟨y, hy, e⟩
    rw [Bool.and_eq_true, decide_eq_true_eq, decide_eq_true_eq] at e
    rw [← srt_one h hy hx e.2]
    exact e.1
  · intro hk
    exact ⟨x, hx, by rw [decide_eq_true hk, decide_eq_true rfl]; rfl⟩

theorem marked_take {l : List Op} {k : Nat} {x : Op} (h : l[k]? = some x) (p : Op → Bool) : (l.take (k + 1)).filter p = if p x then (l.take k).filter p ++ [x] else (l.take k).filter p := by
  rw [take_snoc h, List.filter_append]
  cases hp : p x <;> simp [hp]

end Go.Proofs.YteoodmilcpmmpaaGreat
