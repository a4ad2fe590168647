/-
  Plain: two places held against each other: their stamps, one behind the other, as words. No program in sight.
-/
import Derived.Test.YteoodmilcpmmpaaGreatRunB
import Derived.Test.YteoodmilcpmmpaaGreatSpanB
namespace Go.Proofs.YteoodmilcpmmpaaGreat

open Go.RowKit

theorem idl_tr {a b c : Id} (h : idLess a b = true) (k : idLess b c = true) : idLess a c = true := by
  unfold idLess at *
  simp at *
  omega

theorem idl_irr (a : Id) : idLess a a = false := by unfold idLess; simp

theorem idl_as {a b : Id} (h : idLess a b = true) : idLess b a = false := by
  unfold idLess at *
  simp at *
  omega

theorem idl_tot {a b : Id} (h : idLess a b = false) (k : idLess b a = false) : a = b := by
  unfold idLess at *
  simp at *
  exact Id.ext' (by omega) (by omega)

def cmpIds : List Id → List Id → Int
  | [], [] => 0
  | [], _ :: _ => -1
  | _ :: _, [] => 1
  | x :: a, y :: b => if x = y then cmpIds a b else if idLess y x then -1 else 1

theorem cmpIds_self : ∀ a, cmpIds a a = 0
  | [] => rfl
  | x :: a => by unfold cmpIds; rw [if_pos rfl]; exact cmpIds_self a

theorem cmpIds_zero : ∀ {a b : List Id}, cmpIds a b = 0 → a = b
  | [], [], _ => rfl
  | [], _ :: _, h => by cases h
  | _ :: _, [], h => by cases h
  | x :: a, y :: b, h => by
    unfold cmpIds at h
    split at h
    · rename_i e
      rw [e, cmpIds_zero h]
    · split at h <;> cases h

theorem cmpIds_anti : ∀ a b : List Id, cmpIds b a = - cmpIds a b
  | [], [] => rfl
  | [], _ :: _ => rfl
  | _ :: _, [] => rfl
  | x :: a, y :: b => by
    unfold cmpIds
    by_cases e : x = y
    · rw [if_pos e, if_pos e.symm]
      exact cmpIds_anti a b
    · rw [if_neg e, if_neg fun h => e h.symm]
      cases h : idLess y x
      · cases k : idLess x y
        · exact absurd (idl_tot k h) e
        · rfl
      · rw [idl_as h]
        rfl

theorem cmpIds_tr : ∀ {a b c : List Id}, cmpIds a b < 0 → cmpIds b c < 0 → cmpIds a c < 0
  | [], [], _, h, _ => by cases h
  | [], _ :: _, [], _, k => by cases k
  | [], _ :: _, _ :: _, _, _ => by unfold cmpIds; decide
  | _ :: _, [], _, h, _ => by cases h
  | _ :: _, _ :: _, [], _, k => by cases k
  | x :: a, y :: b, z :: c, h, k => by
    unfold cmpIds at h k ⊢
    by_cases e : x = y
    · subst e
      rw [if_pos rfl] at h
      by_cases f : x = z
      · rw [if_pos f] at k ⊢
        exact cmpIds_tr h k
      · rw [if_neg f] at k ⊢
        exact k
    · rw [if_neg e] at h
      have hyx : idLess y x = true := by
        cases q : idLess y x
        · rw [q] at h; cases h
        · rfl
      by_cases f : y = z
      · subst f
        rw [if_neg e, hyx]
        decide
      · rw [if_neg f] at k
        have hzy : idLess z y = true := by
          cases q : idLess z y
          · rw [q] at k; cases k
          · rfl
        have hzx := idl_tr hzy hyx
        have g : ¬ x = z := fun g => by
          rw [g, idl_irr] at hzx
          cases hzx
        rw [if_neg g, hzx]
        decide

theorem cmpIds_pre : ∀ (p a b : List Id), cmpIds (p ++ a) (p ++ b) = cmpIds a b
  | [], _, _ => rfl
  | x :: p, a, b => by
    show (if x = x then cmpIds (p ++ a) (p ++ b) else _) = _
    rw [if_pos rfl]
    exact cmpIds_pre p a b

def plAll : List Run → List Id
  | [] => []
  | x :: l => idsN x.r x.t x.m.toNat ++ plAll l

theorem idsN_app (r : Int) : ∀ (n m : Nat) (t : Int), idsN r t (n + m) = idsN r t n ++ idsN r (t + n) m
  | 0, m, t => by simp [idsN]
  | n + 1, m, t => by
    have e : n + 1 + m = (n + m) + 1 := by omega
    rw [e]
    show (⟨t, r⟩ : Id) :: idsN r (t + 1) (n + m) = ⟨t, r⟩ :: idsN r (t + 1) n ++ _
    rw [idsN_app r n m (t + 1)]
    have e2 : t + 1 + (n : Int) = t + ((n + 1 : Nat) : Int) := by omega
    rw [e2]
    rfl

/-- Runs without the first so many stamps, of the first one. -/
def cutF (p : List Run) (n : Int) : List Run := match p with
  | [] => []
  | x :: l => if x.m = n then l else ⟨x.t + n, x.r, x.m - n⟩ :: l

theorem cut_all {x : Run} {l : List Run} {n : Int} (h0 : 0 ≤ n) (h1 : n ≤ x.m) : plAll (x :: l) = idsN x.r x.t n.toNat ++ plAll (cutF (x :: l) n) := by
  unfold cutF
  by_cases e : x.m = n
  · simp only [if_pos e]
    rw [plAll, e]
  · simp only [if_neg e]
    rw [plAll, plAll]
    dsimp only
    rw [← List.append_assoc]
    congr 1
    have e1 : x.m.toNat = n.toNat + (x.m - n).toNat := by omega
    have e2 : x.t + n = x.t + ((n.toNat : Nat) : Int) := by omega
    rw [e1, idsN_app, e2]

def posM (l : List Run) : Prop := ∀ x ∈ l, 1 ≤ x.m

theorem cut_pos {l : List Run} {x : Run} {n : Int} (h : posM (x :: l)) (h1 : n ≤ x.m) : posM (cutF (x :: l) n) := by
  unfold cutF
  intro y hy
  by_cases e : x.m = n
  · simp only [if_pos e] at hy
    exact h y (List.mem_cons_of_mem _ hy)
  · simp only [if_neg e] at hy
    rcases List.mem_cons.1 hy with rfl | hy
    · dsimp only
      omega
    · exact h y (List.mem_cons_of_mem _ hy)

/-- What two have in common goes from both. -/
def partF : Nat → List Run → List Run → List Run × List Run
  | 0, a, b => (a, b)
  | _ + 1, [], b => ([], b)
  | _ + 1, x :: a, [] => (x :: a, [])
  | k + 1, x :: a, y :: b => if x.t = y.t ∧ x.r = y.r then partF k (cutF (x :: a) (min x.m y.m)) (cutF (y :: b) (min x.m y.m)) else (x :: a, y :: b)

theorem cutF_len (x : Run) (l : List Run) (n : Int) : (cutF (x :: l) n).length ≤ l.length + 1 ∧ (x.m = n → (cutF (x :: l) n).length = l.length) := by
  unfold cutF
  by_cases e : x.m = n
  · simp only [if_pos e]
    exact ⟨by omega, by simp⟩
  · simp only [if_neg e]
    exact ⟨by simp, fun h => absurd h e⟩

/-- Which of two is the first, by what is left of each. -/
def sideF (p : List Run × List Run) : Int := match p with
  | ([], []) => 0
  | ([], _ :: _) => -1
  | (_ :: _, []) => 1
  | (x :: _, y :: _) => if idLess ⟨y.t, y.r⟩ ⟨x.t, x.r⟩ then -1 else 1

def heldF (a b : List Run) : Int := sideF (partF (a.length + b.length) a b)

theorem plAll_cons {x : Run} {l : List Run} (h : 1 ≤ x.m) : ∃ r, plAll (x :: l) = (⟨x.t, x.r⟩ : Id) :: r := by
  rw [plAll, show x.m.toNat = (x.m.toNat - 1) + 1 by omega]
  exact ⟨idsN x.r (x.t + 1) (x.m.toNat - 1) ++ plAll l, rfl⟩

theorem side_cmp : ∀ (k : Nat) (a b : List Run), posM a → posM b → a.length + b.length ≤ k → sideF (partF k a b) = cmpIds (plAll a) (plAll b)
  | 0, a, b, _, _, h => by
    obtain rfl : a = [] := List.eq_nil_of_length_eq_zero (by omega)
    obtain rfl : b = [] := List.eq_nil_of_length_eq_zero (by omega)
    rfl
  | k + 1, [], [], _, _, _ => rfl
  | k + 1, [], y :: b, _, hb, _ => by
    obtain ⟨r, hr⟩ := plAll_cons (l := b) (hb y (List.mem_cons_self ..))
    rw [hr]
    rfl
  | k + 1, x :: a, [], ha, _, _ => by
    obtain ⟨r, hr⟩ := plAll_cons (l := a) (ha x (List.mem_cons_self ..))
    rw [hr]
    rfl
  | k + 1, x :: a, y :: b, ha, hb, h => by
    have hx := ha x (List.mem_cons_self ..)
    have hy := hb y (List.mem_cons_self ..)
    unfold partF
    by_cases e : x.t = y.t ∧ x.r = y.r
    · rw [if_pos e]
      have h1 := cutF_len x a (min x.m y.m)
      have h2 := cutF_len y b (min x.m y.m)
      simp only [List.length_cons] at h
      have hlen : (cutF (x :: a) (min x.m y.m)).length + (cutF (y :: b) (min x.m y.m)).length ≤ k := by
        by_cases hm : x.m ≤ y.m
        · have := h1.2 (by omega)
          omega
        · have := h2.2 (by omega)
          omega
      rw [side_cmp k _ _ (cut_pos ha (by omega)) (cut_pos hb (by omega)) hlen]
      rw [cut_all (x := x) (l := a) (n := min x.m y.m) (by omega) (by omega), cut_all (x := y) (l := b) (n := min x.m y.m) (by omega) (by omega), e.1, e.2, cmpIds_pre]
    · rw [if_neg e]
      obtain ⟨r, hr⟩ := plAll_cons (l := a) hx
      obtain ⟨s, hs⟩ := plAll_cons (l := b) hy
      rw [hr, hs]
      show _ = if (⟨x.t, x.r⟩ : Id) = ⟨y.t, y.r⟩ then _ else _
      rw [if_neg (fun h => e ⟨congrArg Id.t h, congrArg Id.r h⟩)]
      rfl

theorem held_cmp {a b : List Run} (ha : posM a) (hb : posM b) : heldF a b = cmpIds (plAll a) (plAll b) := side_cmp _ a b ha hb (Nat.le_refl _)

/-- Is it the beginning, or may it be? -/
def plAny (p : List Run) : Bool := decide (p.length = 0) || placeMay p

theorem may_pos {p : List Run} (h : placeMay p = true) : posM p := fun x hx => (runOne_bd (runsFrom_all p _ _ (placeMay_parts h).2.2.1 x hx)).2.2.1

theorem any_pos {p : List Run} (h : plAny p = true) : posM p := by
  unfold plAny at h
  rw [Bool.or_eq_true, decide_eq_true_eq] at h
  rcases h with h | h
  · rw [List.eq_nil_of_length_eq_zero h]
    intro x hx
    cases hx
  · exact may_pos h

/-- place.Compare. -/
def plCmp (a b : List Run) : Int := if plAny a && plAny b then heldF a b else 0

theorem plCmp_ids {a b : List Run} (ha : plAny a = true) (hb : plAny b = true) : plCmp a b = cmpIds (plAll a) (plAll b) := by
  unfold plCmp
  rw [ha, hb]
  exact held_cmp (any_pos ha) (any_pos hb)

/-- The last stamp is the last of its stamps. -/
theorem idsN_last (r : Int) : ∀ (n : Nat) (t : Int), (idsN r t (n + 1)).getLast? = some ⟨t + n, r⟩
  | 0, t => by simp [idsN]
  | n + 1, t => by
    show ((⟨t, r⟩ : Id) :: idsN r (t + 1) (n + 1)).getLast? = _
    rw [List.getLast?_cons, idsN_last r n (t + 1)]
    simp only [Option.getD_some]
    congr 1
    exact Id.ext' (by dsimp only; omega) rfl

theorem plAll_app : ∀ a b : List Run, plAll (a ++ b) = plAll a ++ plAll b
  | [], _ => rfl
  | x :: a, b => by
    show idsN x.r x.t x.m.toNat ++ plAll (a ++ b) = _
    rw [plAll_app a b, ← List.append_assoc]
    rfl

theorem plAll_fin {p : List Run} (h : placeMay p = true) : (plAll p).getLast? = some (placeFin p) := by
  obtain ⟨x, hx, hf, h0, h1, h2, h3⟩ := placeFin_of h
  have hsp : p = p.take (p.length - 1) ++ [x] := by
    have := take_snoc hx
    rw [show p.length - 1 + 1 = p.length by have := (List.getElem?_eq_some_iff.1 hx).1; omega, List.take_length] at this
    exact this
  rw [hf]
  conv => lhs; rw [hsp]
  rw [plAll_app]
  have e : plAll [x] = idsN x.r x.t ((x.m.toNat - 1) + 1) := by
    show idsN x.r x.t x.m.toNat ++ [] = _
    rw [List.append_nil, show x.m.toNat - 1 + 1 = x.m.toNat by omega]
  rw [List.getLast?_append, e, idsN_last]
  simp only [Option.some_or]
  congr 1
  exact Id.ext' (by dsimp only; omega) rfl

end Go.Proofs.YteoodmilcpmmpaaGreat
