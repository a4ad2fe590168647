/-
  Plain: live marks in the order of their places; in which section a place stands; sections, one behind the other. No program in sight.
-/
import Derived.Test.YtkolimhkfiebeaaBagC
import Derived.Test.YtkolimhkfiebeaaCmpPlain
namespace Go.Proofs.Ytkolimhkfiebeaa
open Go.RowKit

/-! ### Marks -/

/-- Is a stamp joined? -/
def endedF (l : List Op) (s : Id) : Bool := l.any fun o => decide (o.kind = 4) && decide (placeFin o.pl = s)

def markOf (l : List Op) (o : Op) : Bool := decide (o.kind = 2) && !endedF l o.id

def markedF (l : List Op) : List Op := l.filter (markOf l)

/-- Each goes ahead of the first one that is behind it. -/
def insP (out : List Op) (o : Op) : List Op := out.takeWhile (fun x => decide (heldF x.pl o.pl < 0)) ++ o :: out.dropWhile (fun x => decide (heldF x.pl o.pl < 0))

def livesF (l : List Op) : List Op := (markedF l).foldl insP []

/-- By their places, ascending. -/
def SrtP (l : List Op) : Prop := l.Pairwise fun a b => heldF a.pl b.pl < 0

/-- Marks with places that may be, each at its own. -/
structure Mk (o : Op) : Prop where
  may : placeMay o.pl = true
  fin : placeFin o.pl = o.id

theorem Mk.pos {o : Op} (h : Mk o) : posM o.pl := may_pos h.may

theorem Mk.cmp {a b : Op} (ha : Mk a) (hb : Mk b) : heldF a.pl b.pl = cmpIds (plAll a.pl) (plAll b.pl) := held_cmp ha.pos hb.pos

theorem Mk.zero {a b : Op} (ha : Mk a) (hb : Mk b) (h : heldF a.pl b.pl = 0) : a.id = b.id := by
  rw [ha.cmp hb] at h
  have e := cmpIds_zero h
  have h1 := plAll_fin ha.may
  have h2 := plAll_fin hb.may
  rw [e, h2] at h1
  injection h1 with h1
  rw [← ha.fin, ← hb.fin, h1]

theorem Mk.tr {a b c : Op} (ha : Mk a) (hb : Mk b) (hc : Mk c) (h : heldF a.pl b.pl < 0) (k : heldF b.pl c.pl < 0) : heldF a.pl c.pl < 0 := by
  rw [ha.cmp hb] at h
  rw [hb.cmp hc] at k
  rw [ha.cmp hc]
  exact cmpIds_tr h k

theorem Mk.anti {a b : Op} (ha : Mk a) (hb : Mk b) : heldF b.pl a.pl = - heldF a.pl b.pl := by
  rw [ha.cmp hb, hb.cmp ha]
  exact cmpIds_anti _ _

theorem Mk.irr {a : Op} (ha : Mk a) : ¬ heldF a.pl a.pl < 0 := by
  rw [ha.cmp ha, cmpIds_self]
  decide

theorem SrtP.ext : ∀ {a b : List Op}, (∀ x ∈ a, Mk x) → SrtP a → SrtP b → (∀ x, x ∈ a ↔ x ∈ b) → a = b
  | [], [], _, _, _, _ => rfl
  | [], y :: b, _, _, _, h => by have := (h y).2 (List.mem_cons_self ..); cases this
  | x :: a, [], _, _, _, h => by have := (h x).1 (List.mem_cons_self ..); cases this
  | x :: a, y :: b, hm, ha, hb, h => by
    have hxa := List.pairwise_cons.1 ha
    have hyb := List.pairwise_cons.1 hb
    have mx := hm x (List.mem_cons_self ..)
    have my := hm y ((h y).2 (List.mem_cons_self ..))
    have hxy : x = y := by
      rcases List.mem_cons.1 ((h x).1 (List.mem_cons_self ..)) with e | e
      · exact e
      rcases List.mem_cons.1 ((h y).2 (List.mem_cons_self ..)) with e' | e'
      · exact e'.symm
      have h1 := hyb.1 x e
      have h2 := hxa.1 y e'
      rw [mx.anti my] at h1
      omega
    subst hxy
    rw [SrtP.ext (fun z hz => hm z (List.mem_cons_of_mem _ hz)) hxa.2 hyb.2 fun z => ?_]
    have hz := h z
    simp only [List.mem_cons] at hz
    constructor
    · intro hza
      rcases hz.1 (.inr hza) with e | e
      · subst e
        exact absurd (hxa.1 z hza) mx.irr
      · exact e
    · intro hzb
      rcases hz.2 (.inr hzb) with e | e
      · subst e
        exact absurd (hyb.1 z hzb) mx.irr
      · exact e

theorem ins_memP {out : List Op} {o x : Op} : x ∈ insP out o ↔ x = o ∨ x ∈ out := by
  unfold insP
  conv => rhs; rw [← List.takeWhile_append_dropWhile (p := fun x : Op => decide (heldF x.pl o.pl < 0)) (l := out)]
  simp only [List.mem_append, List.mem_cons]
  constructor
  · rintro (h | h | h) <;> simp [h]
  · rintro (h | h | h) <;> simp [h]

/-- The first of what is left is not ahead. -/
theorem drop_notP {out : List Op} {o : Op} (hm : ∀ x ∈ out, Mk x) (ho : Mk o) (hs : SrtP out) : ∀ x ∈ out.dropWhile (fun x => decide (heldF x.pl o.pl < 0)), ¬ heldF x.pl o.pl < 0 := by
  intro x hx
  have hsd : SrtP (out.dropWhile fun x => decide (heldF x.pl o.pl < 0)) := List.Pairwise.sublist (List.dropWhile_sublist _) hs
  have hmd : ∀ z ∈ out.dropWhile (fun x => decide (heldF x.pl o.pl < 0)), Mk z := fun z hz => hm z ((List.dropWhile_sublist _).subset hz)
  cases hd : out.dropWhile fun x => decide (heldF x.pl o.pl < 0) with
  | nil => rw [hd] at hx; cases hx
  | cons y r =>
    have hy : ¬ heldF y.pl o.pl < 0 := by
      have := List.head?_dropWhile_not (p := fun x : Op => decide (heldF x.pl o.pl < 0)) (l := out)
      rw [hd] at this
      simpa using this
    rw [hd] at hx hsd hmd
    rcases List.mem_cons.1 hx with rfl | hx
    · exact hy
    · have h1 := (List.pairwise_cons.1 hsd).1 x hx
      intro h2
      exact hy ((hmd y (List.mem_cons_self ..)).tr (hmd x (List.mem_cons_of_mem _ hx)) ho h1 h2)

theorem take_isP {out : List Op} {o : Op} : ∀ x ∈ out.takeWhile (fun x => decide (heldF x.pl o.pl < 0)), heldF x.pl o.pl < 0 := by
  intro x hx
  have := List.all_takeWhile (l := out) (p := fun x : Op => decide (heldF x.pl o.pl < 0))
  rw [List.all_eq_true] at this
  exact of_decide_eq_true (this x hx)

theorem ins_srtP {out : List Op} {o : Op} (hm : ∀ x ∈ out, Mk x) (ho : Mk o) (hs : SrtP out) (hne : ∀ x ∈ out, x.id ≠ o.id) : SrtP (insP out o) := by
  unfold insP
  have hxs := List.takeWhile_append_dropWhile (p := fun x : Op => decide (heldF x.pl o.pl < 0)) (l := out)
  have hs' := hs
  rw [← hxs] at hs'
  obtain ⟨h1, h2, h3⟩ := List.pairwise_append.1 hs'
  refine List.pairwise_append.2 ⟨h1, List.pairwise_cons.2 ⟨fun x hx => ?_, h2⟩, fun x hx y hy => ?_⟩
  · have hxo := hm x ((List.dropWhile_sublist _).subset hx)
    have h4 := drop_notP hm ho hs x hx
    have h5 : heldF x.pl o.pl ≠ 0 := fun e => hne x ((List.dropWhile_sublist _).subset hx) (hxo.zero ho e)
    have h6 := hxo.anti ho
    omega
  · rcases List.mem_cons.1 hy with rfl | hy
    · exact take_isP x hx
    · exact h3 x hx y hy

theorem foldl_ins : ∀ (l out : List Op), (∀ x ∈ out, Mk x) → (∀ x ∈ l, Mk x) → SrtP out → (out ++ l).Pairwise (fun a b => a.id ≠ b.id) → SrtP (l.foldl insP out) ∧ ∀ x, x ∈ l.foldl insP out ↔ x ∈ out ∨ x ∈ l
  | [], out, _, _, hs, _ => ⟨hs, fun x => by simp⟩
  | o :: l, out, hm, hl, hs, hd => by
    have ho := hl o (List.mem_cons_self ..)
    obtain ⟨d1, d2, d3⟩ := List.pairwise_append.1 hd
    have d4 := List.pairwise_cons.1 d2
    have hne : ∀ x ∈ out, x.id ≠ o.id := fun x hx => d3 x hx o (List.mem_cons_self ..)
    have h1 := foldl_ins l (insP out o) (fun x hx => by
        rcases ins_memP.1 hx with rfl | hx
        · exact ho
        · exact hm x hx) (fun x hx => hl x (List.mem_cons_of_mem _ hx)) (ins_srtP hm ho hs hne) ?_
    · refine ⟨h1.1, fun x => (h1.2 x).trans ?_⟩
      rw [ins_memP, List.mem_cons]
      constructor
      · rintro ((h | h) | h) <;> simp [h]
      · rintro (h | h | h) <;> simp [h]
    · refine List.pairwise_append.2 ⟨?_, d4.2, fun x hx y hy => ?_⟩
      · have hi := ins_srtP hm ho hs hne
        refine List.Pairwise.imp_of_mem (fun {a b} ha hb h e => ?_) hi
        have ma : Mk a := by
          rcases ins_memP.1 ha with rfl | ha
          · exact ho
          · exact hm a ha
        have mb : Mk b := by
          rcases ins_memP.1 hb with rfl | hb
          · exact ho
          · exact hm b hb
        by_cases q : a = b
        · subst q
          exact ma.irr h
        · rcases ins_memP.1 ha with ha2 | ha2
          · rcases ins_memP.1 hb with hb2 | hb2
            · exact q (ha2.trans hb2.symm)
            · exact hne b hb2 (by rw [← e, ha2])
          · rcases ins_memP.1 hb with hb2 | hb2
            · exact hne a ha2 (by rw [e, hb2])
            · obtain ⟨i, hi⟩ := List.getElem?_of_mem ha2
              obtain ⟨j, hj⟩ := List.getElem?_of_mem hb2
              have hpw := List.pairwise_iff_getElem.1 d1
              obtain ⟨hi', ei⟩ := List.getElem?_eq_some_iff.1 hi
              obtain ⟨hj', ej⟩ := List.getElem?_eq_some_iff.1 hj
              rcases Nat.lt_trichotomy i j with hij | hij | hij
              · have := hpw i j hi' hj' hij
                rw [ei, ej] at this
                exact this e
              · subst hij
                rw [hi] at hj
                injection hj with hj
                exact q hj
              · have := hpw j i hj' hi' hij
                rw [ei, ej] at this
                exact this e.symm
      · rcases ins_memP.1 hx with rfl | hx
        · exact d4.1 y hy
        · exact d3 x hx y (List.mem_cons_of_mem _ hy)

/-! ### In a bag that may be -/

theorem mark_mk {o : Op} (h : opMay o = true) (hk : o.kind = 2) : Mk o := by
  unfold opMay opTail at h
  rw [if_neg (by omega), if_pos hk] at h
  simp only [Bool.and_eq_true, Bool.not_eq_true'] at h
  exact ⟨h.1.2, neqId_false h.2.1⟩

theorem Srt.ids {l : List Op} (h : Srt l) : l.Pairwise fun a b => a.id ≠ b.id := List.Pairwise.imp (fun {a b} h e => by rw [e, idLess_irr] at h; cases h) h

theorem marked_mk {l : List Op} (h : bagMay l = true) : ∀ x ∈ markedF l, Mk x := fun x hx => by
  obtain ⟨hx, hp⟩ := List.mem_filter.1 hx
  unfold markOf at hp
  rw [Bool.and_eq_true, decide_eq_true_eq] at hp
  exact mark_mk ((bagMay_parts h).2.2 x hx) hp.1

theorem lives_ok {l : List Op} (h : bagMay l = true) : SrtP (livesF l) ∧ ∀ x, x ∈ livesF l ↔ x ∈ markedF l := by
  have h1 := foldl_ins (markedF l) [] (fun x hx => by cases hx) (marked_mk h) List.Pairwise.nil (by
    rw [List.nil_append]
    exact List.Pairwise.filter _ (bagMay_parts h).2.1.ids)
  exact ⟨h1.1, fun x => by rw [show x ∈ livesF l ↔ _ from h1.2 x]; simp⟩

theorem lives_mk {l : List Op} (h : bagMay l = true) : ∀ x ∈ livesF l, Mk x := fun x hx => marked_mk h x (((lives_ok h).2 x).1 hx)

/-! ### Sections -/

def homeF (live : List Op) (p : List Run) : Id := live.foldl (fun s x => if heldF x.pl p ≤ 0 then x.id else s) ⟨0, 0⟩

def sectF (live : List Op) : List Id := (⟨0, 0⟩ : Id) :: live.map (·.id)

/-- Where it stands first; -1: nowhere. -/
def idxOf : List Id → Id → Int
  | [], _ => -1
  | x :: l, s => if x = s then 0 else if idxOf l s < 0 then -1 else idxOf l s + 1

theorem idxOf_ge (l : List Id) (s : Id) : -1 ≤ idxOf l s := by
  induction l with
  | nil => exact Int.le_refl _
  | cons x l ih =>
    unfold idxOf
    split
    · omega
    · split <;> omega

theorem idxOf_get : ∀ {l : List Id} {s : Id} {n : Nat}, idxOf l s = n → l[n]? = some s
  | [], s, n, h => by unfold idxOf at h; omega
  | x :: l, s, n, h => by
    unfold idxOf at h
    split at h
    · rename_i e
      obtain rfl : n = 0 := by omega
      simp [e]
    · split at h
      · omega
      · obtain ⟨m, rfl⟩ : ∃ m, n = m + 1 := ⟨n - 1, by have := idxOf_ge l s; omega⟩
        rw [List.getElem?_cons_succ]
        exact idxOf_get (by omega)

/-! ### Where a place stands among live marks -/

def posP (live : List Op) (p : List Run) : Nat := (live.takeWhile fun x => decide (heldF x.pl p < 0)).length

def isP (live : List Op) (p : List Run) : Bool := live.any fun x => decide (heldF x.pl p = 0)

/-- Up to here all are ahead of p, from here on none is. -/
structure CutP (live : List Op) (p : List Run) (i : Nat) : Prop where
  lo : ∀ k x, k < i → live[k]? = some x → heldF x.pl p < 0
  hi : ∀ k x, i ≤ k → live[k]? = some x → 0 ≤ heldF x.pl p

theorem CutP.pos {l : List Op} {p : List Run} {i : Nat} (h : CutP l p i) (hi : i ≤ l.length) : posP l p = i := by
  unfold posP
  have h1 : ∀ x ∈ l.take i, decide (heldF x.pl p < 0) = true := fun x hx => by
    obtain ⟨k, hk⟩ := List.getElem?_of_mem hx
    rw [List.getElem?_take] at hk
    split at hk
    · rename_i hki
      exact decide_eq_true (h.lo k x hki hk)
    · cases hk
  have h2 : (l.drop i).takeWhile (fun x => decide (heldF x.pl p < 0)) = [] := by
    cases hd : l.drop i with
    | nil => rfl
    | cons y r =>
      have hy : l[i]? = some y := by
        have := congrArg (·[0]?) hd
        simpa using this
      have := h.hi i y (Nat.le_refl _) hy
      rw [List.takeWhile_cons, decide_eq_false (by omega)]
      rfl
  conv => lhs; rw [← List.take_append_drop i l]
  rw [List.takeWhile_append_of_pos h1, h2, List.append_nil, List.length_take]
  omega

theorem posP_le (l : List Op) (p : List Run) : posP l p ≤ l.length := by
  unfold posP
  exact (List.takeWhile_prefix _).length_le

theorem SrtP.get {l : List Op} (h : SrtP l) {i j : Nat} {x y : Op} (hi : l[i]? = some x) (hj : l[j]? = some y) (hij : i < j) : heldF x.pl y.pl < 0 := by
  obtain ⟨hi', rfl⟩ := List.getElem?_eq_some_iff.1 hi
  obtain ⟨hj', rfl⟩ := List.getElem?_eq_some_iff.1 hj
  exact List.pairwise_iff_getElem.1 h i j hi' hj' hij

theorem held_tr {a b : Op} {p : List Run} (ha : Mk a) (hb : Mk b) (hp : posM p) (h : heldF a.pl b.pl < 0) (k : heldF b.pl p ≤ 0) : heldF a.pl p < 0 := by
  rw [ha.cmp hb] at h
  rw [held_cmp hb.pos hp] at k
  rw [held_cmp ha.pos hp]
  by_cases e : cmpIds (plAll b.pl) (plAll p) = 0
  · rw [← cmpIds_zero e]
    exact h
  · exact cmpIds_tr h (by omega)

theorem held_tr2 {a b : Op} {p : List Run} (ha : Mk a) (hb : Mk b) (hp : posM p) (h : heldF a.pl b.pl < 0) (k : 0 ≤ heldF a.pl p) : 0 < heldF b.pl p := by
  by_cases q : heldF b.pl p ≤ 0
  · have := held_tr ha hb hp h q
    omega
  · omega

/-- Where it is cut. -/
theorem cutP_pos {l : List Op} {p : List Run} (hm : ∀ x ∈ l, Mk x) (hs : SrtP l) (hp : posM p) : CutP l p (posP l p) := by
  constructor
  · intro k x hk hx
    have h1 : (l.takeWhile fun x => decide (heldF x.pl p < 0))[k]? = some x := by
      have h2 := List.takeWhile_append_dropWhile (p := fun x : Op => decide (heldF x.pl p < 0)) (l := l)
      rw [← h2, List.getElem?_append_left hk] at hx
      exact hx
    have := List.all_takeWhile (l := l) (p := fun x : Op => decide (heldF x.pl p < 0))
    rw [List.all_eq_true] at this
    exact of_decide_eq_true (this x (List.mem_of_getElem? h1))
  · intro k x hk hx
    obtain ⟨y, hy⟩ := get_lt (show posP l p < l.length by have := (List.getElem?_eq_some_iff.1 hx).1; omega)
    have hy0 : 0 ≤ heldF y.pl p := by
      have h2 := List.takeWhile_append_dropWhile (p := fun x : Op => decide (heldF x.pl p < 0)) (l := l)
      have h3 := List.head?_dropWhile_not (p := fun x : Op => decide (heldF x.pl p < 0)) (l := l)
      have h4 : (l.dropWhile fun x => decide (heldF x.pl p < 0)).head? = some y := by
        have hy2 : (List.takeWhile (fun x => decide (heldF x.pl p < 0)) l ++ List.dropWhile (fun x => decide (heldF x.pl p < 0)) l)[(List.takeWhile (fun x => decide (heldF x.pl p < 0)) l).length]? = some y := by
          rw [h2]
          exact hy
        rw [List.getElem?_append_right (Nat.le_refl _), Nat.sub_self] at hy2
        rw [List.head?_eq_getElem?]
        exact hy2
      rw [h4] at h3
      simpa using h3
    by_cases e : k = posP l p
    · subst e
      rw [hy] at hx
      injection hx with hx
      exact hx ▸ hy0
    · have := held_tr2 (hm y (List.mem_of_getElem? hy)) (hm x (List.mem_of_getElem? hx)) hp (hs.get hy hx (by omega)) hy0
      omega

theorem home_lo : ∀ (l : List Op) (p : List Run) (s : Id), (∀ x ∈ l, 0 < heldF x.pl p) → l.foldl (fun s x => if heldF x.pl p ≤ 0 then x.id else s) s = s
  | [], _, _, _ => rfl
  | x :: l, p, s, h => by
    have := h x (List.mem_cons_self ..)
    rw [List.foldl_cons, if_neg (by omega)]
    exact home_lo l p s fun y hy => h y (List.mem_cons_of_mem _ hy)

theorem home_hi {l : List Op} {x : Op} {p : List Run} {s : Id} (h : heldF x.pl p ≤ 0) : (l ++ [x]).foldl (fun s x => if heldF x.pl p ≤ 0 then x.id else s) s = x.id := by
  rw [List.foldl_append]
  show (if heldF x.pl p ≤ 0 then x.id else _) = _
  rw [if_pos h]

/-- The section of a place: that of the mark that stands there, or of the last one ahead. -/
theorem home_at {l : List Op} {p : List Run} (hm : ∀ x ∈ l, Mk x) (hs : SrtP l) (hp : posM p) :
    (∃ x, l[posP l p]? = some x ∧ heldF x.pl p = 0 ∧ isP l p = true ∧ homeF l p = x.id) ∨
    (isP l p = false ∧ ((posP l p = 0 ∧ homeF l p = ⟨0, 0⟩) ∨ ∃ x, 1 ≤ posP l p ∧ l[posP l p - 1]? = some x ∧ homeF l p = x.id)) := by
  have hc := cutP_pos hm hs hp
  have hle := posP_le l p
  generalize posP l p = n at *
  have hsp := List.take_append_drop n l
  have hno : ∀ k x, n < k → l[k]? = some x → 0 < heldF x.pl p := fun k x hk hx => by
    obtain ⟨y, hy⟩ := get_lt (show n < l.length by have := (List.getElem?_eq_some_iff.1 hx).1; omega)
    exact held_tr2 (hm y (List.mem_of_getElem? hy)) (hm x (List.mem_of_getElem? hx)) hp (hs.get hy hx hk) (hc.hi n y (Nat.le_refl _) hy)
  have hback : (∀ x, l[n]? = some x → heldF x.pl p ≠ 0) → homeF l p = (l.take n).foldl (fun s x => if heldF x.pl p ≤ 0 then x.id else s) ⟨0, 0⟩ := fun h => by
    unfold homeF
    conv => lhs; rw [← hsp]
    rw [List.foldl_append]
    refine home_lo _ p _ fun x hx => ?_
    obtain ⟨k, hk⟩ := List.getElem?_of_mem hx
    rw [List.getElem?_drop] at hk
    by_cases e : k = 0
    · subst e
      have h1 := hc.hi n x (Nat.le_refl _) (by simpa using hk)
      have h2 := h x (by simpa using hk)
      omega
    · exact hno (n + k) x (by omega) hk
  have hisno : (∀ x, l[n]? = some x → heldF x.pl p ≠ 0) → isP l p = false := fun h => by
    unfold isP
    rw [List.any_eq_false]
    intro x hx
    obtain ⟨k, hk⟩ := List.getElem?_of_mem hx
    rw [decide_eq_true_eq]
    rcases Nat.lt_trichotomy k n with h1 | h1 | h1
    · have := hc.lo k x h1 hk
      omega
    · subst h1
      exact h x hk
    · have := hno k x h1 hk
      omega
  by_cases hn : n < l.length
  · obtain ⟨x, hx⟩ := get_lt hn
    by_cases h0 : heldF x.pl p = 0
    · left
      refine ⟨x, hx, h0, ?_, ?_⟩
      · unfold isP
        rw [List.any_eq_true]
        exact ⟨x, List.mem_of_getElem? hx, decide_eq_true h0⟩
      · unfold homeF
        conv => lhs; rw [← List.take_append_drop (n + 1) l]
        rw [List.foldl_append, take_snoc hx, home_hi (by omega)]
        refine home_lo _ p _ fun y hy => ?_
        obtain ⟨k, hk⟩ := List.getElem?_of_mem hy
        rw [List.getElem?_drop] at hk
        exact hno (n + 1 + k) y (by omega) hk
    · right
      have hne : ∀ y, l[n]? = some y → heldF y.pl p ≠ 0 := fun y hy => by
        rw [hx] at hy
        injection hy with hy
        exact hy ▸ h0
      refine ⟨hisno hne, ?_⟩
      rw [hback hne]
      by_cases hz : n = 0
      · left
        subst hz
        exact ⟨rfl, rfl⟩
      · right
        obtain ⟨y, hy⟩ := get_lt (show n - 1 < l.length by omega)
        refine ⟨y, by omega, hy, ?_⟩
        have e := take_snoc hy
        rw [show n - 1 + 1 = n by omega] at e
        rw [e]
        exact home_hi (by have := hc.lo (n - 1) y (by omega) hy; omega)
  · right
    have hne : ∀ y, l[n]? = some y → heldF y.pl p ≠ 0 := fun y hy => by
      have := (List.getElem?_eq_some_iff.1 hy).1
      omega
    refine ⟨hisno hne, ?_⟩
    rw [hback hne]
    by_cases hz : n = 0
    · left
      subst hz
      exact ⟨rfl, rfl⟩
    · right
      obtain ⟨y, hy⟩ := get_lt (show n - 1 < l.length by omega)
      refine ⟨y, by omega, hy, ?_⟩
      have e := take_snoc hy
      rw [show n - 1 + 1 = n by omega] at e
      rw [e]
      exact home_hi (by have := hc.lo (n - 1) y (by omega) hy; omega)
end Go.Proofs.Ytkolimhkfiebeaa
