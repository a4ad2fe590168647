/-
  Plain: the first stamps of a place; content that counts in a section; what is seen of it. No program in sight.
-/
import Derived.Test.YteoodmilcpmmpaaGreatLiveP
namespace Go.Proofs.YteoodmilcpmmpaaGreat

open Go.RowKit

def cutN : List Run → Int → List Run
  | [], _ => []
  | x :: l, n => if n ≤ 0 then [] else if n < x.m then [⟨x.t, x.r, n⟩] else x :: cutN l (n - x.m)

theorem deep_cons (x : Run) (l : List Run) : runsDeep (x :: l) = x.m + runsDeep l := rfl

theorem posM_deep : ∀ {p : List Run}, posM p → 0 ≤ runsDeep p
  | [], _ => Int.le_refl _
  | x :: l, h => by
    have h1 := h x (List.mem_cons_self ..)
    have h2 := posM_deep (p := l) fun y hy => h y (List.mem_cons_of_mem _ hy)
    rw [deep_cons]
    omega

theorem cutN_all : ∀ {p : List Run}, posM p → ∀ {n : Int}, runsDeep p ≤ n → cutN p n = p
  | [], _, _, _ => rfl
  | x :: l, h, n, hn => by
    have h1 := h x (List.mem_cons_self ..)
    have hl : posM l := fun y hy => h y (List.mem_cons_of_mem _ hy)
    have h2 := posM_deep hl
    rw [deep_cons] at hn
    unfold cutN
    rw [if_neg (by omega), if_neg (by omega), cutN_all hl (by omega)]

theorem cutN_zero : ∀ (p : List Run) {n : Int}, n ≤ 0 → cutN p n = []
  | [], _, _ => rfl
  | x :: l, n, h => by
    unfold cutN
    rw [if_pos h]

theorem idsN_take (r : Int) : ∀ (n m : Nat) (t : Int), m ≤ n → (idsN r t n).take m = idsN r t m
  | _, 0, _, _ => by simp [idsN]
  | 0, m + 1, _, h => by omega
  | n + 1, m + 1, t, h => by
    show ((⟨t, r⟩ : Id) :: idsN r (t + 1) n).take (m + 1) = _
    rw [List.take_succ_cons, idsN_take r n m (t + 1) (by omega)]
    rfl

theorem plAll_cut : ∀ {p : List Run}, posM p → ∀ {n : Int}, plAll (cutN p n) = (plAll p).take n.toNat
  | [], _, n => by simp [cutN, plAll]
  | x :: l, h, n => by
    have h1 := h x (List.mem_cons_self ..)
    have hl : posM l := fun y hy => h y (List.mem_cons_of_mem _ hy)
    unfold cutN
    by_cases h0 : n ≤ 0
    · rw [if_pos h0, show n.toNat = 0 by omega, List.take_zero]
      rfl
    · rw [if_neg h0]
      by_cases h2 : n < x.m
      · rw [if_pos h2]
        show idsN x.r x.t n.toNat ++ [] = (idsN x.r x.t x.m.toNat ++ plAll l).take n.toNat
        rw [List.append_nil, List.take_append_of_le_length (by rw [idsN_length]; omega), idsN_take _ _ _ _ (by omega)]
      · rw [if_neg h2]
        show idsN x.r x.t x.m.toNat ++ plAll (cutN l (n - x.m)) = (idsN x.r x.t x.m.toNat ++ plAll l).take n.toNat
        have e1 := List.take_of_length_le (l := idsN x.r x.t x.m.toNat) (i := n.toNat) (by rw [idsN_length]; omega)
        rw [plAll_cut hl, List.take_append, idsN_length, e1, show n.toNat - x.m.toNat = (n - x.m).toNat by omega]

theorem cutN_pos : ∀ {p : List Run}, posM p → ∀ {n : Int}, posM (cutN p n)
  | [], _, n => by intro x hx; simp [cutN] at hx
  | x :: l, h, n => by
    have h1 := h x (List.mem_cons_self ..)
    have hl : posM l := fun y hy => h y (List.mem_cons_of_mem _ hy)
    unfold cutN
    by_cases h0 : n ≤ 0
    · rw [if_pos h0]; intro y hy; cases hy
    · rw [if_neg h0]
      by_cases h2 : n < x.m
      · rw [if_pos h2]
        intro y hy
        rw [List.mem_singleton] at hy
        subst hy
        dsimp only
        omega
      · rw [if_neg h2]
        intro y hy
        rcases List.mem_cons.1 hy with rfl | hy
        · exact h1
        · exact cutN_pos hl y hy

theorem cutN_cut : ∀ {p : List Run}, posM p → ∀ {n m : Int}, m ≤ n → cutN (cutN p n) m = cutN p m
  | [], _, n, m, _ => by simp [cutN]
  | x :: l, h, n, m, hm => by
    have h1 := h x (List.mem_cons_self ..)
    have hl : posM l := fun y hy => h y (List.mem_cons_of_mem _ hy)
    by_cases h0 : m ≤ 0
    · rw [cutN_zero _ h0, cutN_zero _ h0]
    · conv => lhs; arg 1; unfold cutN
      rw [if_neg (by omega)]
      by_cases h2 : n < x.m
      · rw [if_pos h2]
        unfold cutN
        rw [if_neg h0, if_neg h0]
        dsimp only
        by_cases h3 : m < n
        · rw [if_pos h3, if_pos (by omega)]
        · rw [if_neg h3, if_pos (by omega), show m = n by omega, Int.sub_self, cutN]
      · rw [if_neg h2]
        conv => lhs; unfold cutN
        conv => rhs; unfold cutN
        rw [if_neg h0, if_neg h0]
        by_cases h3 : m < x.m
        · rw [if_pos h3, if_pos h3]
        · rw [if_neg h3, if_neg h3, cutN_cut hl (by omega)]

/-- A prefix of one that may be, with a stamp at least, may be. -/
theorem runsFrom_cut : ∀ {p : List Run} {wt wr : Int}, runsFrom wt wr p = true → ∀ {n : Int}, runsFrom wt wr (cutN p n) = true
  | [], _, _, _, n => by simp [cutN, runsFrom]
  | x :: l, wt, wr, h, n => by
    have h' := h
    unfold runsFrom at h
    simp only [Bool.and_eq_true] at h
    have hb := runOne_bd h.1.1
    unfold cutN
    by_cases h0 : n ≤ 0
    · rw [if_pos h0]; rfl
    · rw [if_neg h0]
      by_cases h2 : n < x.m
      · rw [if_pos h2]
        have h3 : runOne ⟨x.t, x.r, n⟩ = true := by
          have h3 := h.1.1
          unfold runOne idMay at h3 ⊢
          simp only [Bool.and_eq_true, decide_eq_true_eq] at h3 ⊢
          omega
        show (runOne ⟨x.t, x.r, n⟩ && runBehind wt wr ⟨x.t, x.r, n⟩ && runsFrom _ _ []) = true
        rw [h3, show runBehind wt wr ⟨x.t, x.r, n⟩ = true from h.1.2]
        rfl
      · rw [if_neg h2]
        unfold runsFrom
        simp only [Bool.and_eq_true]
        exact ⟨h.1, runsFrom_cut h.2⟩

theorem deep_cut : ∀ {p : List Run}, posM p → ∀ {n : Int}, 0 ≤ n → n ≤ runsDeep p → runsDeep (cutN p n) = n
  | [], _, n, h0, h1 => by
    have : runsDeep [] = 0 := rfl
    rw [cutN]
    omega
  | x :: l, h, n, h0, h1 => by
    have hx := h x (List.mem_cons_self ..)
    have hl : posM l := fun y hy => h y (List.mem_cons_of_mem _ hy)
    rw [deep_cons] at h1
    unfold cutN
    by_cases e0 : n ≤ 0
    · rw [if_pos e0]
      show (0 : Int) = n
      omega
    · rw [if_neg e0]
      by_cases e2 : n < x.m
      · rw [if_pos e2, deep_cons]
        show n + 0 = n
        omega
      · rw [if_neg e2, deep_cons, deep_cut hl (by omega) (by omega)]
        omega

theorem cutN_len : ∀ (p : List Run) (n : Int), (cutN p n).length ≤ p.length
  | [], n => by simp [cutN]
  | x :: l, n => by
    unfold cutN
    split
    · simp
    · split
      · simp
      · have := cutN_len l (n - x.m)
        simp
        exact this

theorem may_cut {p : List Run} {n : Int} (h : placeMay p = true) (h0 : 1 ≤ n) (h1 : n ≤ runsDeep p) : placeMay (cutN p n) = true := by
  obtain ⟨p1, p2, p3, p4⟩ := placeMay_parts h
  have hd := deep_cut (may_pos h) (by omega) h1
  have hl := cutN_len p n
  have hne : 1 ≤ (cutN p n).length := by
    cases hc : cutN p n with
    | nil =>
      rw [hc] at hd
      have : runsDeep [] = 0 := rfl
      omega
    | cons x l => simp
  unfold placeMay
  rw [decide_eq_true hne, decide_eq_true (show (cutN p n).length ≤ 64 by omega), runsFrom_cut p3, decide_eq_true (show runsDeep (cutN p n) ≤ 4096 by omega)]
  rfl

theorem cmp_take : ∀ (a : List Id) (n : Nat), cmpIds (a.take n) a ≤ 0
  | [], n => by simp [cmpIds]
  | x :: a, 0 => by simp [cmpIds]
  | x :: a, n + 1 => by
    rw [List.take_succ_cons]
    unfold cmpIds
    rw [if_pos rfl]
    exact cmp_take a n

theorem cmp_le_tr {a b c : List Id} (h : cmpIds a b ≤ 0) (k : cmpIds b c ≤ 0) : cmpIds a c ≤ 0 := by
  by_cases e : cmpIds a b = 0
  · rw [cmpIds_zero e]
    exact k
  · by_cases e2 : cmpIds b c = 0
    · rw [← cmpIds_zero e2]
      exact h
    · have := cmpIds_tr (a := a) (b := b) (c := c) (by omega) (by omega)
      omega

theorem mk_le_tr {x : Op} {q p : List Run} (hx : Mk x) (hq : posM q) (hp : posM p) (h : heldF x.pl q ≤ 0) (k : cmpIds (plAll q) (plAll p) ≤ 0) : heldF x.pl p ≤ 0 := by
  rw [held_cmp hx.pos hq] at h
  rw [held_cmp hx.pos hp]
  exact cmp_le_tr h k

/-- Once a place ahead is homed elsewhere, all ahead of that are. -/
theorem home_back {l : List Op} {p q r : List Run} {s : Id} (h : bagMay l = true) (hp : posM p) (hq : posM q) (hr : posM r) (hqp : cmpIds (plAll q) (plAll p) ≤ 0) (hrq : cmpIds (plAll r) (plAll q) ≤ 0)
    (e1 : homeF (livesF l) p = s) (e2 : homeF (livesF l) q ≠ s) : homeF (livesF l) r ≠ s := by
  intro e3
  have hl := lives_mk h
  have hs := (lives_ok h).1
  have i1 := home_is hl hs hp
  have i2 := home_is hl hs hq
  have i3 := home_is hl hs hr
  rw [e1] at i1
  rw [e3] at i3
  rcases i3 with ⟨h0, -⟩ | ⟨x, hx, hxs, hxr, -⟩
  · rcases i1 with ⟨-, h1⟩ | ⟨y, hy, hys, -⟩
    · apply e2
      rw [h0]
      refine home_eq hl hs hq (.inl ⟨rfl, fun y hy => ?_⟩)
      by_cases hyq : heldF y.pl q ≤ 0
      · have := mk_le_tr (hl y hy) hq hp hyq hqp
        have := h1 y hy
        omega
      · omega
    · have h4 := opMay_less ((bagMay_parts h).2.2 y ((lives_mem h).1 hy).1)
      rw [hys, h0] at h4
      simp [idLess] at h4
  · have hxq := mk_le_tr (hl x hx) hr hq hxr hrq
    have hxp := mk_le_tr (hl x hx) hq hp hxq hqp
    rcases i1 with ⟨h0, h1⟩ | ⟨y, hy, hys, hyp, hym⟩
    · have := h1 x hx
      omega
    · have hxy : x = y := srt_one (bagMay_parts h).2.1 ((lives_mem h).1 hx).1 ((lives_mem h).1 hy).1 (hxs.trans hys.symm)
      subst hxy
      apply e2
      refine home_eq hl hs hq (.inr ⟨x, hx, hxs, hxq, fun z hz hzq => hym z hz (mk_le_tr (hl z hz) hq hp hzq hqp)⟩)

def contentO (o : Op) : Bool := decide (o.kind = 1) || decide (o.kind = 3)

/-- On how many stamps of its place it stands. -/
def manyO (o : Op) : Int := runsDeep o.pl - (if o.kind = 1 ∨ o.kind = 2 then 1 else 0)

def inL (l : List Op) (s : Id) : List Op := l.filter fun o => contentO o && decide (homeF (livesF l) o.pl = s)

def isC (l : List Op) (s : Id) (o : Op) : Bool := (List.range (manyO o).toNat).all fun k => !decide (homeF (livesF l) (cutN o.pl ((k + 1 : Nat) : Int)) = s) || hasId l (placeFin (cutN o.pl ((k + 1 : Nat) : Int)))

def countL (l : List Op) (s : Id) : List Op := (inL l s).filter (isC l s)

/-- Back from so many stamps on, until one is homed elsewhere. -/
def backF (l : List Op) (s : Id) (p : List Run) : Nat → Bool
  | 0 => true
  | k + 1 => if homeF (livesF l) (cutN p ((k + 1 : Nat) : Int)) = s then (if hasId l (placeFin (cutN p ((k + 1 : Nat) : Int))) then backF l s p k else false) else true

theorem back_all {l : List Op} {s : Id} {p : List Run} (h : bagMay l = true) (hp : posM p) (hs : homeF (livesF l) p = s) : ∀ k : Nat,
    backF l s p k = (List.range k).all fun j => !decide (homeF (livesF l) (cutN p ((j + 1 : Nat) : Int)) = s) || hasId l (placeFin (cutN p ((j + 1 : Nat) : Int)))
  | 0 => rfl
  | k + 1 => by
    rw [List.range_succ, List.all_append, backF]
    by_cases e : homeF (livesF l) (cutN p ((k + 1 : Nat) : Int)) = s
    · rw [if_pos e, back_all h hp hs k]
      simp only [List.all_cons, List.all_nil, Bool.and_true, e, decide_true, Bool.not_true, Bool.false_or]
      cases hasId l (placeFin (cutN p ((k + 1 : Nat) : Int))) <;> simp
    · rw [if_neg e, eq_comm, Bool.and_eq_true]
      constructor
      · rw [List.all_eq_true]
        intro j hj
        have hjk := List.mem_range.1 hj
        have hne : homeF (livesF l) (cutN p ((j + 1 : Nat) : Int)) ≠ s := by
          refine home_back h hp (cutN_pos hp (n := ((k + 1 : Nat) : Int))) (cutN_pos hp) ?_ ?_ hs e
          · rw [plAll_cut hp]
            exact cmp_take _ _
          · have e2 : cutN p ((j + 1 : Nat) : Int) = cutN (cutN p ((k + 1 : Nat) : Int)) ((j + 1 : Nat) : Int) := (cutN_cut hp (by omega)).symm
            rw [e2, plAll_cut (cutN_pos hp)]
            exact cmp_take _ _
        rw [decide_eq_false hne]
        rfl
      · simp only [List.all_cons, List.all_nil, Bool.and_true, decide_eq_false e, Bool.not_false, Bool.true_or]

end Go.Proofs.YteoodmilcpmmpaaGreat
