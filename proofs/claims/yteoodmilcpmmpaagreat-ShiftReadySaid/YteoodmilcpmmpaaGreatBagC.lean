/-
  Plain laws of bags: what is put is there, and all that was there, in the order of the stamps; the order in which things come counts for nothing. No program in sight.
  The walks of law 11's own functions: one, put, unlike.
  The walk of the reference Great of layer 10.
  The walk of law 11's alive.
-/
import Derived.Test.YteoodmilcpmmpaaGreatBagB
import Derived.Test.YteoodmilcpmmpaaGreatOp3B
namespace Go.Proofs.YteoodmilcpmmpaaGreat
open Go.RowKit

/-! ### Sorted lists -/
theorem Srt.ext : ∀ {a b : List Op}, Srt a → Srt b → (∀ x, x ∈ a ↔ x ∈ b) → a = b
  | [], [], _, _, _ => rfl
  | [], y :: b, _, _, h => by have := (h y).2 (by simp); simp at this
  | x :: a, [], _, _, h => by have := (h x).1 (by simp); simp at this
  | x :: a, y :: b, ha, hb, h => by
    have hxa := List.pairwise_cons.1 ha
    have hyb := List.pairwise_cons.1 hb
    have hxy : x = y := by
      rcases List.mem_cons.1 ((h x).1 (by simp)) with e | e
      · exact e
      rcases List.mem_cons.1 ((h y).2 (by simp)) with e' | e'
      · exact e'.symm
      have h1 := hyb.1 x e
      have h2 := hxa.1 y e'
      rw [idLess_as h1] at h2
      cases h2
    subst hxy
    rw [Srt.ext hxa.2 hyb.2 fun z => ?_]
    have hz := h z
    simp only [List.mem_cons] at hz
    constructor
    · intro hza
      rcases hz.1 (.inr hza) with e | e
      · subst e
        have := hxa.1 z hza
        rw [idLess_irr] at this
        cases this
      · exact e
    · intro hzb
      rcases hz.2 (.inr hzb) with e | e
      · subst e
        have := hyb.1 z hzb
        rw [idLess_irr] at this
        cases this
      · exact e

theorem opMay_less {x : Op} (h : opMay x = true) : idLess ⟨0, 0⟩ x.id = true := by
  unfold opMay at h
  simp only [Bool.and_eq_true] at h
  have := h.1.1.2
  unfold idMay at this
  unfold idLess
  simp at this ⊢
  omega
theorem bagFrom_of : ∀ (l : List Op) (last : Id), Srt l → (∀ x ∈ l, opMay x = true ∧ idLess last x.id = true) → bagFrom last l = true
  | [], _, _, _ => rfl
  | x :: l, last, hs, h => by
    have hx := List.pairwise_cons.1 hs
    rw [bagFrom, (h x (by simp)).1, (h x (by simp)).2, bagFrom_of l x.id hx.2 fun y hy => ⟨(h y (by simp [hy])).1, hx.1 y hy⟩]
    rfl
theorem bagMay_of {l : List Op} (hl : l.length ≤ 1024) (hs : Srt l) (h : ∀ x ∈ l, opMay x = true) : bagMay l = true := by
  unfold bagMay
  rw [decide_eq_true hl, bagFrom_of l ⟨0, 0⟩ hs fun x hx => ⟨h x hx, opMay_less (h x hx)⟩]
  rfl

/-! ### Where one is put -/
theorem take_less {l : List Op} {s : Id} : ∀ x ∈ l.take (posOf l s), idLess x.id s = true := by
  intro x hx
  have h : l.take (posOf l s) = l.takeWhile fun o => idLess o.id s := by
    unfold posOf
    conv => lhs; arg 2; rw [← List.takeWhile_append_dropWhile (p := fun o : Op => idLess o.id s) (l := l)]
    rw [List.take_left']
    rfl
  rw [h] at hx
  have := List.all_takeWhile (l := l) (p := fun o : Op => idLess o.id s)
  rw [List.all_eq_true] at this
  exact this x hx
theorem drop_not {l : List Op} {s : Id} (hs : Srt l) : ∀ x ∈ l.drop (posOf l s), idLess x.id s = false := by
  have h : l.drop (posOf l s) = l.dropWhile fun o => idLess o.id s := by
    unfold posOf
    conv => lhs; arg 2; rw [← List.takeWhile_append_dropWhile (p := fun o : Op => idLess o.id s) (l := l)]
    rw [List.drop_left']
    rfl
  rw [h]
  intro x hx
  have hsd : Srt (l.dropWhile fun o => idLess o.id s) := List.Pairwise.sublist (List.dropWhile_sublist _) hs
  cases hd : l.dropWhile fun o => idLess o.id s with
  | nil => rw [hd] at hx; cases hx
  | cons y r =>
    have hy : idLess y.id s = false := by
      have := List.head?_dropWhile_not (p := fun o : Op => idLess o.id s) (l := l)
      rw [hd] at this
      simpa using this
    rw [hd] at hx hsd
    rcases List.mem_cons.1 hx with rfl | hx
    · exact hy
    · have h1 := (List.pairwise_cons.1 hsd).1 x hx
      cases h2 : idLess x.id s
      · rfl
      · rw [idLess_tr h1 h2] at hy; cases hy
theorem hasId_false {l : List Op} {s : Id} (h : hasId l s = false) : ∀ x ∈ l, x.id ≠ s := by
  intro x hx e
  unfold hasId at h
  rw [List.any_eq_false] at h
  exact h x hx (by simpa using e)
theorem hasId_true {l : List Op} {s : Id} (h : hasId l s = true) : ∃ x ∈ l, x.id = s := by
  unfold hasId at h
  rw [List.any_eq_true] at h
  obtain ⟨x, hx, e⟩ := h
  exact ⟨x, hx, by simpa using e⟩
theorem ins_srt {l : List Op} {o : Op} (hs : Srt l) (h : hasId l o.id = false) : Srt (l.take (posOf l o.id) ++ o :: l.drop (posOf l o.id)) := by
  have hxs : l.take (posOf l o.id) ++ l.drop (posOf l o.id) = l := List.take_append_drop _ _
  have hs' := hs
  rw [← hxs] at hs'
  obtain ⟨h1, h2, h3⟩ := List.pairwise_append.1 hs'
  have hgt : ∀ x ∈ l.drop (posOf l o.id), idLess o.id x.id = true := fun x hx => by
    have h4 := drop_not hs x hx
    cases h5 : idLess o.id x.id
    · exact absurd (idLess_tot h4 h5) (hasId_false h x (List.mem_of_mem_drop hx))
    · rfl
  refine List.pairwise_append.2 ⟨h1, List.pairwise_cons.2 ⟨hgt, h2⟩, fun x hx y hy => ?_⟩
  rcases List.mem_cons.1 hy with rfl | hy
  · exact take_less x hx
  · exact h3 x hx y hy
theorem ins_mem {l : List Op} {o x : Op} (n : Nat) : x ∈ l.take n ++ o :: l.drop n ↔ x = o ∨ x ∈ l := by
  conv => rhs; rw [← List.take_append_drop n l]
  simp only [List.mem_append, List.mem_cons]
  constructor
  · rintro (h | h | h) <;> simp [h]
  · rintro (h | h | h) <;> simp [h]

/-! ### Things put, one behind the other -/
def putL (l : List Op) : List Op → List Op
  | [] => l
  | o :: r => putL (addL l o) r
def putOk (l : List Op) : List Op → Bool
  | [] => true
  | o :: r => decide (addN l o = 0) && putOk (addL l o) r
/-- No two unlike ones have one stamp. -/
def Alike (l : List Op) : Prop := ∀ x ∈ l, ∀ y ∈ l, x.id = y.id → x = y

theorem addN_parts {l : List Op} {o : Op} (h : addN l o = 0) : bagMay l = true ∧ opMay o = true := by
  unfold addN at h
  split at h
  · rename_i h1; simpa using h1
  · cases h
theorem putOk_may : ∀ (r l : List Op), putOk l r = true → ∀ x ∈ r, opMay x = true
  | [], _, _ => fun x hx => by cases hx
  | o :: r, l, h => fun x hx => by
    simp only [putOk, Bool.and_eq_true, decide_eq_true_eq] at h
    rcases List.mem_cons.1 hx with rfl | hx
    · exact (addN_parts h.1).2
    · exact putOk_may r _ h.2 x hx
theorem add_ok {l : List Op} {o : Op} (hl : bagMay l = true) (ho : opMay o = true) (hn : l.length < 1024) (ha : ∀ x ∈ l, x.id = o.id → x = o) :
    addN l o = 0 ∧ bagMay (addL l o) = true ∧ (∀ x, x ∈ addL l o ↔ x = o ∨ x ∈ l) ∧ (addL l o).length ≤ l.length + 1 := by
  obtain ⟨h1, h2, h3⟩ := bagMay_parts hl
  have hN : addN l o = 0 := by
    unfold addN
    rw [hl, ho]
    cases hasId l o.id
    · simp; omega
    · simp
  have hL : addL l o = if hasId l o.id then l else l.take (posOf l o.id) ++ o :: l.drop (posOf l o.id) := by unfold addL; rw [if_pos hN]
  refine ⟨hN, ?_⟩
  cases hh : hasId l o.id
  · rw [hh] at hL
    simp only [Bool.false_eq_true, if_false] at hL
    have hlen : (addL l o).length = l.length + 1 := by
      rw [hL]
      have := congrArg List.length (List.take_append_drop (posOf l o.id) l)
      rw [List.length_append] at this
      rw [List.length_append, List.length_cons]
      omega
    refine ⟨?_, ?_, by omega⟩
    · refine bagMay_of (by omega) (by rw [hL]; exact ins_srt h2 hh) fun x hx => ?_
      rw [hL, ins_mem] at hx
      rcases hx with rfl | hx
      · exact ho
      · exact h3 x hx
    · intro x
      rw [hL, ins_mem]
  · rw [hh] at hL
    simp only [if_true] at hL
    rw [hL]
    obtain ⟨y, hy, e⟩ := hasId_true hh
    have hyo := ha y hy e
    subst hyo
    exact ⟨hl, fun x => ⟨fun h => .inr h, fun h => h.elim (fun e => e ▸ hy) id⟩, by omega⟩
theorem put_all : ∀ (r l : List Op), bagMay l = true → (∀ x ∈ r, opMay x = true) → l.length + r.length ≤ 1024 → Alike (l ++ r) →
    putOk l r = true ∧ bagMay (putL l r) = true ∧ (∀ x, x ∈ putL l r ↔ x ∈ l ∨ x ∈ r) ∧ (putL l r).length ≤ l.length + r.length
  | [], l, hl, _, _, _ => ⟨rfl, hl, fun x => by simp [putL], by simp [putL]⟩
  | o :: r, l, hl, hr, hn, ha => by
    have ho := hr o (by simp)
    rw [List.length_cons] at hn
    obtain ⟨h1, h2, h3, h4⟩ := add_ok hl ho (by omega) fun x hx e => ha x (by simp [hx]) o (by simp) e
    obtain ⟨k1, k2, k3, k4⟩ := put_all r (addL l o) h2 (fun x hx => hr x (by simp [hx])) (by omega) (fun x hx y hy e => ha x (by
        rcases List.mem_append.1 hx with hx | hx
        · rcases (h3 x).1 hx with rfl | hx <;> simp_all
        · simp [hx]) y (by
        rcases List.mem_append.1 hy with hy | hy
        · rcases (h3 y).1 hy with rfl | hy <;> simp_all
        · simp [hy]) e)
    refine ⟨by rw [putOk, decide_eq_true h1, k1]; rfl, k2, fun x => ?_, by rw [putL, List.length_cons]; omega⟩
    rw [putL, k3, h3, List.mem_cons]
    constructor
    · rintro ((h | h) | h) <;> simp [h]
    · rintro (h | h | h) <;> simp [h]

/-! ### Two bags -/
theorem merge_mem : ∀ (f : Nat) (a b : List Op), a.length + b.length ≤ f → Alike (a ++ b) → ∀ x, x ∈ mergeF f a b ↔ x ∈ a ∨ x ∈ b
  | 0, a, b, h, _, x => by
    have h1 := List.eq_nil_of_length_eq_zero (show a.length = 0 by omega)
    have h2 := List.eq_nil_of_length_eq_zero (show b.length = 0 by omega)
    subst h1 h2
    simp [mergeF]
  | f + 1, [], [], _, _, x => by simp [mergeF]
  | f + 1, [], y :: b, h, ha, x => by
    rw [mergeF, List.mem_cons, merge_mem f [] b (by simp at h ⊢; omega) (fun u hu v hv e => ha u (by simp at hu ⊢; simp [hu]) v (by simp at hv ⊢; simp [hv]) e)]
    simp
  | f + 1, z :: a, [], h, ha, x => by
    rw [mergeF, List.mem_cons, merge_mem f a [] (by simp at h ⊢; omega) (fun u hu v hv e => ha u (by simp at hu ⊢; simp [hu]) v (by simp at hv ⊢; simp [hv]) e)]
    simp
  | f + 1, z :: a, y :: b, h, ha, x => by
    rw [mergeF]
    simp only [List.length_cons] at h
    cases h1 : idLess z.id y.id
    · cases h2 : idLess y.id z.id
      · have hzy : z = y := ha z (by simp) y (by simp) (idLess_tot h1 h2)
        subst hzy
        simp only [Bool.false_eq_true, if_false]
        rw [List.mem_cons, merge_mem f a b (by omega) (fun u hu v hv e => ha u (by simp at hu ⊢; rcases hu with h | h <;> simp [h]) v (by simp at hv ⊢; rcases hv with h | h <;> simp [h]) e)]
        simp only [List.mem_cons]
        constructor
        · rintro (h | h | h) <;> simp [h]
        · rintro ((h | h) | h | h) <;> simp [h]
      · simp only [Bool.false_eq_true, if_false, if_true]
        rw [List.mem_cons, merge_mem f (z :: a) b (by simp only [List.length_cons]; omega) (fun u hu v hv e => ha u (by simp at hu ⊢; rcases hu with h | h | h <;> simp [h]) v (by simp at hv ⊢; rcases hv with h | h | h <;> simp [h]) e)]
        simp only [List.mem_cons]
        constructor
        · rintro (h | (h | h) | h) <;> simp [h]
        · rintro ((h | h) | h | h) <;> simp [h]
    · simp only [if_true]
      rw [List.mem_cons, merge_mem f a (y :: b) (by simp only [List.length_cons]; omega) (fun u hu v hv e => ha u (by simp at hu ⊢; rcases hu with h | h | h <;> simp [h]) v (by simp at hv ⊢; rcases hv with h | h | h <;> simp [h]) e)]
      simp only [List.mem_cons]
      constructor
      · rintro (h | h | h | h) <;> simp [h]
      · rintro ((h | h) | h | h) <;> simp [h]
/-- What a merging hands out is of one of the two. -/
theorem merge_sub : ∀ (f : Nat) (a b : List Op) (x : Op), x ∈ mergeF f a b → x ∈ a ∨ x ∈ b
  | 0, _, _, x, h => by simp [mergeF] at h
  | f + 1, [], [], x, h => by simp [mergeF] at h
  | f + 1, [], y :: b, x, h => by
    rw [mergeF, List.mem_cons] at h
    rcases h with h | h
    · simp [h]
    · have := merge_sub f [] b x h; simp at this; simp [this]
  | f + 1, z :: a, [], x, h => by
    rw [mergeF, List.mem_cons] at h
    rcases h with h | h
    · simp [h]
    · have := merge_sub f a [] x h; simp at this; simp [this]
  | f + 1, z :: a, y :: b, x, h => by
    rw [mergeF] at h
    split at h
    · rcases List.mem_cons.1 h with h | h
      · simp [h]
      · rcases merge_sub f a (y :: b) x h with h | h
        · simp [h]
        · exact .inr h
    · split at h
      · rcases List.mem_cons.1 h with h | h
        · simp [h]
        · rcases merge_sub f (z :: a) b x h with h | h
          · exact .inl h
          · simp [h]
      · rcases List.mem_cons.1 h with h | h
        · simp [h]
        · rcases merge_sub f a b x h with h | h <;> simp [h]
theorem merge_srt : ∀ (f : Nat) (a b : List Op), Srt a → Srt b → Srt (mergeF f a b)
  | 0, _, _, _, _ => List.Pairwise.nil
  | f + 1, [], [], _, _ => List.Pairwise.nil
  | f + 1, [], y :: b, ha, hb => by
    have hy := List.pairwise_cons.1 hb
    rw [mergeF]
    refine List.pairwise_cons.2 ⟨fun x hx => ?_, merge_srt f [] b ha hy.2⟩
    rcases merge_sub f _ _ x hx with h | h
    · cases h
    · exact hy.1 x h
  | f + 1, z :: a, [], ha, hb => by
    have hz := List.pairwise_cons.1 ha
    rw [mergeF]
    refine List.pairwise_cons.2 ⟨fun x hx => ?_, merge_srt f a [] hz.2 hb⟩
    rcases merge_sub f _ _ x hx with h | h
    · exact hz.1 x h
    · cases h
  | f + 1, z :: a, y :: b, ha, hb => by
    have hy := List.pairwise_cons.1 hb
    have hz := List.pairwise_cons.1 ha
    rw [mergeF]
    cases h1 : idLess z.id y.id
    · cases h2 : idLess y.id z.id
      · simp only [Bool.false_eq_true, if_false]
        have e := idLess_tot h1 h2
        refine List.pairwise_cons.2 ⟨fun x hx => ?_, merge_srt f a b hz.2 hy.2⟩
        rcases merge_sub f _ _ x hx with h | h
        · exact hz.1 x h
        · rw [e]; exact hy.1 x h
      · simp only [Bool.false_eq_true, if_false, if_true]
        refine List.pairwise_cons.2 ⟨fun x hx => ?_, merge_srt f (z :: a) b ha hy.2⟩
        rcases merge_sub f _ _ x hx with h | h
        · rcases List.mem_cons.1 h with rfl | h
          · exact h2
          · exact idLess_tr h2 (hz.1 x h)
        · exact hy.1 x h
    · simp only [if_true]
      refine List.pairwise_cons.2 ⟨fun x hx => ?_, merge_srt f a (y :: b) hz.2 hb⟩
      rcases merge_sub f _ _ x hx with h | h
      · exact hz.1 x h
      · rcases List.mem_cons.1 h with rfl | h
        · exact h1
        · exact idLess_tr h1 (hy.1 x h)
theorem merge_len : ∀ (f : Nat) (a b : List Op), (mergeF f a b).length ≤ a.length + b.length
  | 0, _, _ => by simp [mergeF]
  | f + 1, [], [] => by simp [mergeF]
  | f + 1, [], y :: b => by have := merge_len f [] b; simp [mergeF] at this ⊢; omega
  | f + 1, z :: a, [] => by have := merge_len f a []; simp [mergeF] at this ⊢; omega
  | f + 1, z :: a, y :: b => by
    have h1 := merge_len f a (y :: b)
    have h2 := merge_len f (z :: a) b
    have h3 := merge_len f a b
    simp only [List.length_cons] at h1 h2
    rw [mergeF]
    split
    · simp only [List.length_cons]; omega
    · split
      · simp only [List.length_cons]; omega
      · simp only [List.length_cons]; omega
theorem join_ok {a b : List Op} (ha : bagMay a = true) (hb : bagMay b = true) (hn : a.length + b.length ≤ 1024) (hal : Alike (a ++ b)) :
    joinN a b = 0 ∧ bagMay (joinL a b) = true ∧ (∀ x, x ∈ joinL a b ↔ x ∈ a ∨ x ∈ b) := by
  obtain ⟨a1, a2, a3⟩ := bagMay_parts ha
  obtain ⟨b1, b2, b3⟩ := bagMay_parts hb
  have hlen := merge_len (a.length + b.length) a b
  have hN : joinN a b = 0 := by
    unfold joinN joinM
    rw [ha, hb]
    simp
    omega
  have hL : joinL a b = joinM a b := by unfold joinL; rw [if_pos hN]
  have hm : ∀ x, x ∈ joinM a b ↔ x ∈ a ∨ x ∈ b := merge_mem _ a b (Nat.le_refl _) hal
  refine ⟨hN, ?_, by rw [hL]; exact hm⟩
  rw [hL]
  refine bagMay_of (by unfold joinM; omega) (merge_srt _ _ _ a2 b2) fun x hx => ?_
  rcases (hm x).1 hx with h | h
  · exact a3 x h
  · exact b3 x h

/-- What BagOrder says, the bags being these. -/
theorem order_law {l : List Op} {n : Nat} (hn : l.length ≤ 40) (ha : Alike l) (hok : putOk [] l = true) :
    putOk [] l.reverse = true ∧ same (putL [] l) (putL [] l.reverse) = true ∧ joinN (putL [] (l.take n)) (putL [] (l.drop n)) = 0 ∧ joinN (putL [] (l.drop n)) (putL [] (l.take n)) = 0 ∧
      same (putL [] l) (joinL (putL [] (l.take n)) (putL [] (l.drop n))) = true ∧ same (putL [] l) (joinL (putL [] (l.drop n)) (putL [] (l.take n))) = true ∧ bagMay (putL [] l) = true := by
  have hm := putOk_may l [] hok
  have h0 : bagMay [] = true := by decide
  obtain ⟨-, l2, l3, l4⟩ := put_all l [] h0 hm (by simp; omega) (by simpa using ha)
  obtain ⟨r1, r2, r3, -⟩ := put_all l.reverse [] h0 (fun x hx => hm x (by simpa using hx)) (by simp; omega) (fun x hx y hy e => ha x (by simpa using hx) y (by simpa using hy) e)
  obtain ⟨-, t2, t3, t4⟩ := put_all (l.take n) [] h0 (fun x hx => hm x (List.mem_of_mem_take hx)) (by simp; omega) (fun x hx y hy e => ha x (List.mem_of_mem_take (by simpa using hx)) y (List.mem_of_mem_take (by simpa using hy)) e)
  obtain ⟨-, d2, d3, d4⟩ := put_all (l.drop n) [] h0 (fun x hx => hm x (List.mem_of_mem_drop hx)) (by simp; omega) (fun x hx y hy e => ha x (List.mem_of_mem_drop (by simpa using hx)) y (List.mem_of_mem_drop (by simpa using hy)) e)
  simp only [List.not_mem_nil, false_or] at l3 r3 t3 d3
  have hsub : ∀ x, x ∈ putL [] (l.take n) ∨ x ∈ putL [] (l.drop n) → x ∈ l := fun x h => by
    rw [t3, d3] at h
    exact h.elim List.mem_of_mem_take List.mem_of_mem_drop
  have hiff : ∀ x, (x ∈ putL [] (l.take n) ∨ x ∈ putL [] (l.drop n)) ↔ x ∈ l := fun x => by
    rw [t3, d3]
    conv => rhs; rw [← List.take_append_drop n l]
    rw [List.mem_append]
  have hlen : (l.take n).length + (l.drop n).length = l.length := by rw [← List.length_append, List.take_append_drop]
  simp only [List.length_nil, Nat.zero_add] at t4 d4
  obtain ⟨j1, j2, j3⟩ := join_ok t2 d2 (by omega) (fun x hx y hy e => ha x (hsub x (List.mem_append.1 hx)) y (hsub y (List.mem_append.1 hy)) e)
  obtain ⟨k1, k2, k3⟩ := join_ok d2 t2 (by omega) (fun x hx y hy e => ha x (hsub x (List.mem_append.1 hx).symm) y (hsub y (List.mem_append.1 hy).symm) e)
  have hs := (bagMay_parts l2).2.1
  unfold same
  simp only [decide_eq_true_eq]
  exact ⟨r1, hs.ext (bagMay_parts r2).2.1 fun x => by rw [l3, r3]; simp, j1, k1, hs.ext (bagMay_parts j2).2.1 fun x => by rw [l3, j3, hiff], hs.ext (bagMay_parts k2).2.1 fun x => by rw [l3, k3, ← hiff, or_comm], l2⟩
end Go.Proofs.YteoodmilcpmmpaaGreat

namespace Go.Proofs.YteoodmilcpmmpaaGreat
open Go.RowKit

/-- Two unlike ones have one stamp. -/
def Unlike (l : List Op) : Prop := ∃ (i k : Nat) (x y : Op), k < i ∧ l[i]? = some x ∧ l[k]? = some y ∧ x.id = y.id ∧ x ≠ y
theorem not_unlike {l : List Op} (h : ¬ Unlike l) : Alike l := by
  intro x hx y hy e
  obtain ⟨i, hi⟩ := List.getElem?_of_mem hx
  obtain ⟨k, hk⟩ := List.getElem?_of_mem hy
  by_cases he : x = y
  · exact he
  exfalso
  rcases Nat.lt_trichotomy i k with h1 | h1 | h1
  · exact h ⟨k, i, y, x, h1, hk, hi, e.symm, fun e => he e.symm⟩
  · subst h1
    rw [hi] at hk
    cases hk
    exact he rfl
  · exact h ⟨i, k, x, y, h1, hi, hk, e, he⟩

end Go.Proofs.YteoodmilcpmmpaaGreat


namespace Go.Proofs.YteoodmilcpmmpaaGreat
open Go.RowKit

/-- What statements go through. -/
def fewO (l : List Op) (many : Int) : Prop := (l.length : Int) ≤ many ∧ ∀ x ∈ l.take 300, x.pl.length ≤ 100

def GreatPost10 (l : List Op) (many : Int) (w : World) (e : Ending) (w' : World) : Prop := ∃ b, e = .returned (.bool b) ∧ (b = false → fewO l many) ∧ Bl w w'

set_option maxRecDepth 100000 in
set_option maxHeartbeats 2000000 in
theorem refGreat10 (A : Option Addr) (c : Nat) (l : List Op) (many : Int) (w : World) (hl : l.length ≤ 140737488355328) (hA : R cOp 0 w A l) :
    Calls Tryz.prog 9 #[.slice A l.length c, .int .i64 many] w (GreatPost10 l many w) := by
  go_enter Tryz.func9, Tryz.ntmps9
  go_wp2
  go_loopw [5, 6] (fun s5 s6 wr => Bl w wr ∧ ∃ (k : Nat) (n : Int), k ≤ l.length ∧ k ≤ 300 ∧ s6 = .int .i64 k ∧ s5 = .int .i64 n ∧ 0 ≤ n ∧ n ≤ 50100 * k ∧ Hid (∀ x ∈ l.take k, x.pl.length ≤ 100)) (fun _ s6 _ => l.length - (intOf s6).toNat)
  case atStart => exact ⟨Bl.refl _, 0, 0, Nat.zero_le _, Nat.zero_le _, rfl, rfl, by omega, by omega, fun x hx => by simp at hx⟩
  case round =>
    obtain ⟨hbl, k, n, hk, hk3, rfl, rfl, hn0, hn1, hf⟩ := hrel
    by_cases hlt : k < l.length
    · have hki : (k : Int) < (l.length : Int) := by omega
      have hki2 : decide ((k : Int) < (l.length : Int)) = true := by simpa using hki
      by_cases h3 : k < 300
      · have hk3i : (k : Int) < 300 := by omega
        obtain ⟨b, off, rfl, _, hb⟩ := hA.addr (by omega)
        obtain ⟨x, hx⟩ := get_lt hlt
        obtain ⟨_, ho, S, sc, s1, s2, hS, c0, c1, c2, c3, c4⟩ := (hA.bl hbl).op hx
        by_cases hbig : 100 < x.pl.length
        · have hbi : (100 : Int) < (x.pl.length : Int) := by omega
          clear hf hx
          go_wp2
          go_ret
          exact ⟨true, rfl, (fun h => by cases h), hbl⟩
        · have hbi : ¬ (100 : Int) < (x.pl.length : Int) := by omega
          have hp100 : x.pl.length ≤ 100 := by omega
          have g := hide (show ∀ y ∈ l.take (k + 1), y.pl.length ≤ 100 from fun y hy => by
            rw [take_snoc hx, List.mem_append] at hy
            rcases hy with hy | hy
            · exact hf.out y hy
            · rw [List.mem_singleton] at hy; subst hy; exact hp100)
          have hx' := hide hx
          have hkA : ∀ V, Bl wr V → V.cell? ⟨b, off + k * 5 + 3, none⟩ = some (.slice S x.pl.length sc) ∧ b < V.heap.size := fun V hV => ⟨(hV.cell (Nat.lt_of_lt_of_le hb hbl.size)).trans c3, Nat.lt_of_lt_of_le hb (hbl.trans hV).size⟩
          replace hkA := hide hkA
          clear hx hf hbig
          go_wp2
          go_loopw [5, 7] (fun s5 s7 wq => Bl wr wq ∧ ∃ (j : Nat) (n : Int), j ≤ x.pl.length ∧ s7 = .int .i64 j ∧ s5 = .int .i64 n ∧ 0 ≤ n ∧ n ≤ 50100 * k + 501 * j) (fun _ s7 _ => x.pl.length - (intOf s7).toNat)
          case atStart => exact ⟨Bl.refl _, 0, n, Nat.zero_le _, rfl, rfl, hn0, by omega⟩
          case round =>
            clear hn0 hn1
            obtain ⟨hbq, j, n, hj, rfl, rfl, hn0, hn1⟩ := hrel
            obtain ⟨c3, hbv⟩ := hkA.out _ hbq
            by_cases hjt : j < x.pl.length
            · have hji : (j : Int) < (x.pl.length : Int) := by omega
              obtain ⟨b2, off2, rfl, _, hb2⟩ := hS.addr (by omega)
              obtain ⟨r, hr⟩ := get_lt hjt
              obtain ⟨_, ⟨_, _, _, _, o4, o5⟩, _, _, d2⟩ := (R.bl hS hbq).run hr
              have hv : 0 ≤ min (max r.m 0) 5000 ∧ min (max r.m 0) 5000 ≤ 5000 := by omega
              have hjm : (j : Int) ≤ 100 := by omega
              have hkm : (k : Int) ≤ 300 := by omega
              clear hr
              rcases (show r.m < 0 ∨ (¬ r.m < 0 ∧ ¬ 5000 < r.m) ∨ (¬ r.m < 0 ∧ 5000 < r.m) by omega) with h | ⟨h, h'⟩ | ⟨h, h'⟩
              all_goals
                go_wp2
                go_roundw
                case rel => exact ⟨hbq, j + 1, _, by omega, by go_num, rfl, by omega, by push_cast; omega⟩
                case measure => simp [intOf]; omega
            · have hji : ¬ (j : Int) < (x.pl.length : Int) := by omega
              go_wp2
              go_roundw
              case rel => exact ⟨hbl.trans hbq, k + 1, n, by omega, by omega, by go_num, rfl, hn0, by push_cast; omega, g.out⟩
              case measure => simp [intOf]; omega
      · have hk3i : ¬ (k : Int) < 300 := by omega
        have hk300 : k = 300 := by omega
        have hml : l.length ≤ 9223372036854775807 := by omega
        by_cases hm : many < (l.length : Int)
        · clear hf
          go_wp2
          go_ret
          exact ⟨true, rfl, (fun h => by cases h), hbl⟩
        · have hm' : (l.length : Int) ≤ many := by omega
          have g := hide (show fewO l many from ⟨hm', by rw [← hk300]; exact hf.out⟩)
          clear hf hk300
          by_cases hn3 : 3000 < n
          · go_wp2
            go_ret
            exact ⟨true, rfl, (fun h => by cases h), hbl⟩
          · go_wp2
            go_ret
            exact ⟨false, rfl, (fun _ => g.out), hbl⟩
    · have hki : ¬ (k : Int) < (l.length : Int) := by omega
      have hki2 : decide ((k : Int) < (l.length : Int)) = false := by simpa using hki
      have hkl : l.length ≤ k := by omega
      by_cases hm : many < (l.length : Int)
      · clear hf
        go_wp2
        go_ret
        exact ⟨true, rfl, (fun h => by cases h), hbl⟩
      · have hm' : (l.length : Int) ≤ many := by omega
        have g := hide (show fewO l many from ⟨hm', by
          have := hf.out
          rw [List.take_of_length_le hkl] at this
          exact fun x hx => this x (List.mem_of_mem_take hx)⟩)
        clear hf hkl
        by_cases hn3 : 3000 < n
        · go_wp2
          go_ret
          exact ⟨true, rfl, (fun h => by cases h), hbl⟩
        · go_wp2
          go_ret
          exact ⟨false, rfl, (fun _ => g.out), hbl⟩
end Go.Proofs.YteoodmilcpmmpaaGreat

namespace Go.Proofs.YteoodmilcpmmpaaGreat
open Go.RowKit

/-- A new block with some elements' cells, read as a list. -/
theorem R.rows {α : Type} {C : Codec α} {lo : Nat} {w : World} {xs : List α} {cs : List Value} {t : TypeId} (h : RdL C w (Fresh lo w) xs cs) (hlo : lo ≤ w.heap.size) :
    R C lo (w.alloc (.cells cs.toArray t)) (some ⟨w.heap.size, 0, none⟩) xs := by
  refine ⟨cs, RdL.keep h (fun b hb => Below.heap_alloc w _ b hb.2) (fun b hb => ⟨hb.1, by have := hb.2; rw [World.size_alloc]; omega⟩), fun _ => ⟨w.heap.size, 0, rfl, ⟨hlo, by rw [World.size_alloc]; omega⟩, fun j u hu => ⟨?_, ?_⟩⟩⟩
  · rw [Nat.zero_add, cell_of_row _ w.heap.size j cs.toArray t (0, 0) (heap_alloc_new w _)]
    simpa using hu
  · rw [Nat.zero_add]
    exact frozen_new w _ t j

def oneM (t r : Int) : Op := ⟨2, ⟨t, r⟩, [⟨t, r, 1⟩], 0⟩
def m30 : Op := oneM 3 0
def m11 : Op := oneM 1 1
theorem m30_ok : m30.ok := by unfold m30 oneM Op.ok Id.ok u8ok i64ok; decide
theorem m11_ok : m11.ok := by unfold m11 oneM Op.ok Id.ok u8ok i64ok; decide
theorem plain_a : putL [] [m30, m11] = [m11, m30] ∧ putOk [] [m30, m11] = true ∧ putL [m11, m30] [m30] = [m11, m30] ∧ putOk [m11, m30] [m30] = true := by decide

theorem rd_ops2 {w : World} {x y : Op} {A B : Option Addr} {c d : Nat} (hx : x.ok) (hy : y.ok) (h1 : x.pl.length ≤ c) (h2 : c ≤ maxLen) (h3 : y.pl.length ≤ d) (h4 : d ≤ maxLen) (hA : R cRun 0 w A x.pl) (hB : R cRun 0 w B y.pl) (t : TypeId) :
    R cOp 0 (w.alloc (.cells (opCells x A c ++ opCells y B d).toArray t)) (some ⟨w.heap.size, 0, none⟩) [x, y] :=
  R.rows ⟨_, _, rfl, ⟨hx, A, c, h1, h2, rfl, hA⟩, RdL.one1 ⟨hy, B, d, h3, h4, rfl, hB⟩⟩ (Nat.zero_le _)
theorem rd_ops1 {w : World} {x : Op} {A : Option Addr} {c : Nat} (hx : x.ok) (h1 : x.pl.length ≤ c) (h2 : c ≤ maxLen) (hA : R cRun 0 w A x.pl) (t : TypeId) :
    R cOp 0 (w.alloc (.cells (opCells x A c).toArray t)) (some ⟨w.heap.size, 0, none⟩) [x] :=
  R.rows (RdL.one1 ⟨hx, A, c, h1, h2, rfl, hA⟩) (Nat.zero_le _)

end Go.Proofs.YteoodmilcpmmpaaGreat
