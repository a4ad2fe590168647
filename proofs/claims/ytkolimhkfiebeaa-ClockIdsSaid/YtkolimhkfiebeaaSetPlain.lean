/-
  Plain: sets of times: With, Without, Both, Left by definition; they are what comes of the edges; how many times spans have.
-/
import Derived.Test.YtkolimhkfiebeaaSet
namespace Go.Proofs.Ytkolimhkfiebeaa
open Go.RowKit

/-! ### With -/

def growX (x y : Span) : Span := if x.f ≤ y.t + 1 ∧ y.f ≤ x.t + 1 then ⟨min x.f y.f, max x.t y.t⟩ else x

def growF (l : List Span) (x : Span) : Span := l.foldl growX x

def withF (l : List Span) (x : Span) : List Span := l.filter (fun y => decide (y.t + 1 < x.f)) ++ growF l x :: l.filter (fun y => decide ((growF l x).t + 1 < y.f))

theorem growX_wide (x y : Span) (_hx : x.f ≤ x.t) : (growX x y).f ≤ x.f ∧ x.t ≤ (growX x y).t := by
  unfold growX
  split
  · dsimp only; omega
  · omega

theorem growF_wide : ∀ (l : List Span) (x : Span), x.f ≤ x.t → (growF l x).f ≤ x.f ∧ x.t ≤ (growF l x).t
  | [], x, _ => ⟨Int.le_refl _, Int.le_refl _⟩
  | y :: l, x, h => by
    have h1 := growX_wide x y h
    have h2 := growF_wide l (growX x y) (by omega)
    show (growF l (growX x y)).f ≤ x.f ∧ x.t ≤ (growF l (growX x y)).t
    omega

theorem growF_still : ∀ (l : List Span) (x : Span), Can (x.t + 2) l → growF l x = x
  | [], _, _ => rfl
  | y :: l, x, ⟨h1, h2, h3⟩ => by
    show growF l (growX x y) = x
    have e : growX x y = x := by unfold growX; rw [if_neg (by omega)]
    rw [e]
    exact growF_still l x (h3.low (by omega))

theorem growF_low : ∀ (l : List Span) (x : Span) (a : Int), Can a l → a ≤ x.f → a ≤ (growF l x).f
  | [], _, _, _, h => h
  | y :: l, x, a, ⟨h1, h2, h3⟩, h => by
    show a ≤ (growF l (growX x y)).f
    refine growF_low l _ a (h3.low (by omega)) ?_
    unfold growX
    split
    · dsimp only; omega
    · exact h

theorem growF_in : ∀ (l : List Span) (x : Span) (u : Int), (∀ y ∈ l, y.f ≤ y.t) → x.f ≤ x.t → inX (growF l x) u = true → inX x u = true ∨ spansHave l u = true
  | [], _, _, _, _, h => .inl h
  | y :: l, x, u, hl, hx, h => by
    have hy := hl y (List.mem_cons_self ..)
    have hw := growX_wide x y hx
    rcases growF_in l (growX x y) u (fun z hz => hl z (List.mem_cons_of_mem _ hz)) (by omega) h with h | h
    · have h := inX_iff.1 h
      unfold growX at h
      split at h
      · dsimp only at h
        by_cases e : x.f ≤ u ∧ u ≤ x.t
        · exact .inl (inX_iff.2 e)
        · refine .inr ?_
          rw [have_cons, inX_iff.2 (by omega)]
          rfl
      · exact .inl (inX_iff.2 h)
    · exact .inr (by rw [have_cons, h, Bool.or_true])

theorem growF_three : ∀ (l : List Span) (x : Span) (a : Int), Can a l → x.f ≤ x.t → ∀ y ∈ l, (y.t + 1 < (growF l x).f ∧ y.t + 1 < x.f) ∨ (x.f ≤ y.t + 1 ∧ (growF l x).f ≤ y.f ∧ y.t ≤ (growF l x).t) ∨ (growF l x).t + 1 < y.f
  | [], _, _, _, _, y, h => by cases h
  | z :: l, x, a, ⟨h1, h2, h3⟩, hx, y, h => by
    show (y.t + 1 < (growF l (growX x z)).f ∧ y.t + 1 < x.f) ∨ (x.f ≤ y.t + 1 ∧ (growF l (growX x z)).f ≤ y.f ∧ y.t ≤ (growF l (growX x z)).t) ∨ (growF l (growX x z)).t + 1 < y.f
    have hw := growX_wide x z hx
    have hw2 := growF_wide l (growX x z) (by omega)
    by_cases c1 : z.t + 1 < x.f
    · have e : growX x z = x := by unfold growX; rw [if_neg (by omega)]
      rw [e] at hw2 ⊢
      rcases List.mem_cons.1 h with rfl | h
      · have := growF_low l x (y.t + 2) h3 (by omega)
        exact .inl (by omega)
      · exact growF_three l x _ h3 hx y h
    · by_cases c2 : z.f ≤ x.t + 1
      · have e : growX x z = ⟨min x.f z.f, max x.t z.t⟩ := by unfold growX; rw [if_pos (by omega)]
        rcases List.mem_cons.1 h with rfl | h
        · rw [e] at hw2 ⊢
          dsimp only at hw2
          exact .inr (.inl (by omega))
        · have hy := h3.mem h
          rcases growF_three l (growX x z) _ h3 (by omega) y h with k | k | k
          · exact .inl (by omega)
          · exact .inr (.inl (by omega))
          · exact .inr (.inr k)
      · have e : growX x z = x := by unfold growX; rw [if_neg (by omega)]
        have hs := growF_still l x (h3.low (by omega))
        rw [e, hs]
        refine .inr (.inr ?_)
        rcases List.mem_cons.1 h with rfl | h
        · omega
        · have := h3.mem h
          omega

theorem Can.filter {p : Span → Bool} : ∀ {l : List Span} {a : Int}, Can a l → Can a (l.filter p)
  | [], _, _ => trivial
  | x :: l, a, ⟨h1, h2, h3⟩ => by
    rw [List.filter_cons]
    split
    · exact ⟨h1, h2, h3.filter⟩
    · exact h3.filter.low (by omega)

theorem Can.raise {l : List Span} {a b : Int} (h : Can a l) (hb : ∀ y ∈ l, b ≤ y.f) : Can b l := by
  cases l with
  | nil => trivial
  | cons x l => exact ⟨hb x (List.mem_cons_self ..), h.2.1, h.2.2⟩

theorem Can.join {m : List Span} {b : Int} (hm : Can b m) : ∀ {l : List Span} {a : Int}, Can a l → (∀ y ∈ l, y.t + 2 ≤ b) → a ≤ b → Can a (l ++ m)
  | [], a, _, _, h => hm.low h
  | x :: l, a, ⟨h1, h2, h3⟩, hl, h => ⟨h1, h2, hm.join h3 (fun y hy => hl y (List.mem_cons_of_mem _ hy)) (by have := hl x (List.mem_cons_self ..); omega)⟩

theorem with_ok {l : List Span} {x : Span} (hl : Can 1 l) (h1 : 1 ≤ x.f) (hx : x.f ≤ x.t) : Can 1 (withF l x) ∧ ∀ u, spansHave (withF l x) u = (spansHave l u || inX x u) := by
  have hw := growF_wide l x hx
  have ht := growF_three l x 1 hl hx
  have hlow := growF_low l x 1 hl h1
  refine ⟨?_, fun u => ?_⟩
  · have hm : Can (growF l x).f (growF l x :: l.filter (fun y => decide ((growF l x).t + 1 < y.f))) := ⟨Int.le_refl _, by omega, Can.raise hl.filter fun y hy => by
      have := (List.mem_filter.1 hy).2
      simp at this
      omega⟩
    refine Can.join hm hl.filter (fun y hy => ?_) hlow
    · obtain ⟨m, p⟩ := List.mem_filter.1 hy
      simp at p
      have := hl.mem m
      rcases ht y m with k | k | k <;> omega
  · rw [Bool.eq_iff_iff]
    unfold withF
    rw [have_append, have_cons]
    constructor
    · intro h
      rw [Bool.or_eq_true, Bool.or_eq_true] at h
      rw [Bool.or_eq_true]
      rcases h with h | h | h
      · obtain ⟨y, hy, e⟩ := have_iff.1 h
        exact .inl (have_iff.2 ⟨y, (List.mem_filter.1 hy).1, e⟩)
      · exact (growF_in l x u (fun y hy => (hl.mem hy).2) hx h).symm
      · obtain ⟨y, hy, e⟩ := have_iff.1 h
        exact .inl (have_iff.2 ⟨y, (List.mem_filter.1 hy).1, e⟩)
    · intro h
      rw [Bool.or_eq_true] at h
      rw [Bool.or_eq_true, Bool.or_eq_true]
      rcases h with h | h
      · obtain ⟨y, hy, e⟩ := have_iff.1 h
        rcases ht y hy with k | k | k
        · exact .inl (have_iff.2 ⟨y, List.mem_filter.2 ⟨hy, by simpa using k.2⟩, e⟩)
        · exact .inr (.inl (inX_iff.2 (by omega)))
        · exact .inr (.inr (have_iff.2 ⟨y, List.mem_filter.2 ⟨hy, by simpa using k⟩, e⟩))
      · have := inX_iff.1 h
        exact .inr (.inl (inX_iff.2 (by omega)))

/-! ### Without -/

def cutX (x y : Span) : List Span := if y.t < x.f ∨ x.t < y.f then [y] else (if y.f < x.f then [⟨y.f, x.f - 1⟩] else []) ++ (if x.t < y.t then [⟨x.t + 1, y.t⟩] else [])

def withoutF (l : List Span) (x : Span) : List Span := l.flatMap (cutX x)

theorem cut_ok (x y : Span) (hx : x.f ≤ x.t) (hy : y.f ≤ y.t) : Can y.f (cutX x y) ∧ (∀ z ∈ cutX x y, z.t ≤ y.t) ∧ ∀ u, spansHave (cutX x y) u = (inX y u && !inX x u) := by
  have key : ∀ u, (y.t < x.f ∨ x.t < y.f) → inX y u = (inX y u && !inX x u) := fun u h => by
    cases e : inX y u
    · rfl
    · have := inX_iff.1 e
      have e2 : inX x u = false := by
        cases e3 : inX x u
        · rfl
        · have := inX_iff.1 e3; omega
      rw [e2]; rfl
  unfold cutX
  by_cases c0 : y.t < x.f ∨ x.t < y.f
  · rw [if_pos c0]
    refine ⟨⟨Int.le_refl _, hy, trivial⟩, fun z hz => by rw [List.mem_singleton] at hz; subst hz; exact Int.le_refl _, fun u => ?_⟩
    rw [have_one]
    exact key u c0
  · rw [if_neg c0]
    have two : ∀ (P Q : Bool) (p q : Prop) [Decidable p] [Decidable q], True := fun _ _ _ _ _ _ => trivial
    clear two
    have bool : ∀ (P Q R : Bool), (P = true ↔ (Q = true ∧ R = false)) → P = (Q && !R) := fun P Q R h => by cases P <;> cases Q <;> cases R <;> simp_all
    by_cases c1 : y.f < x.f <;> by_cases c2 : x.t < y.t <;> simp only [c1, c2, if_true, if_false, List.append_nil, List.nil_append, List.cons_append]
    · refine ⟨⟨Int.le_refl _, by dsimp only; omega, by dsimp only; omega, by dsimp only; omega, trivial⟩, fun z hz => ?_, fun u => bool _ _ _ ?_⟩
      · rcases List.mem_cons.1 hz with rfl | hz
        · dsimp only; omega
        · rw [List.mem_singleton] at hz; subst hz; exact Int.le_refl _
      · rw [have_cons, have_one, Bool.or_eq_true, inX_iff, inX_iff, inX_iff, ← Bool.not_eq_true, inX_iff]
        dsimp only
        omega
    · refine ⟨⟨Int.le_refl _, by dsimp only; omega, trivial⟩, fun z hz => by rw [List.mem_singleton] at hz; subst hz; dsimp only; omega, fun u => bool _ _ _ ?_⟩
      rw [have_one, inX_iff, inX_iff, ← Bool.not_eq_true, inX_iff]
      dsimp only
      omega
    · refine ⟨⟨by dsimp only; omega, by dsimp only; omega, trivial⟩, fun z hz => by rw [List.mem_singleton] at hz; subst hz; dsimp only; omega, fun u => bool _ _ _ ?_⟩
      rw [have_one, inX_iff, inX_iff, ← Bool.not_eq_true, inX_iff]
      dsimp only
      omega
    · refine ⟨trivial, (fun z hz => by cases hz), fun u => bool _ _ _ ?_⟩
      rw [have_nil, inX_iff, ← Bool.not_eq_true, inX_iff]
      simp only [Bool.false_eq_true, false_iff]
      omega

theorem without_ok : ∀ {l : List Span} {a : Int} {x : Span}, Can a l → x.f ≤ x.t → Can a (withoutF l x) ∧ ∀ u, spansHave (withoutF l x) u = (spansHave l u && !inX x u)
  | [], _, _, _, _ => ⟨trivial, fun _ => rfl⟩
  | y :: l, a, x, ⟨h1, h2, h3⟩, hx => by
    obtain ⟨k1, k2⟩ := without_ok h3 hx
    obtain ⟨c1, c2, c3⟩ := cut_ok x y hx h2
    unfold withoutF at *
    rw [List.flatMap_cons]
    refine ⟨k1.join (c1.low h1) (fun z hz => by have := c2 z hz; omega) (by omega), fun u => ?_⟩
    rw [have_append, k2, c3, have_cons]
    cases inX y u <;> cases spansHave l u <;> cases inX x u <;> rfl

/-! ### Both, Left -/

def bothF (a b : List Span) : List Span := b.foldl withF a

def leftF (a b : List Span) : List Span := b.foldl withoutF a

theorem both_ok : ∀ {b a : List Span} {c : Int}, Can 1 a → Can c b → 1 ≤ c → Can 1 (bothF a b) ∧ ∀ u, spansHave (bothF a b) u = (spansHave a u || spansHave b u)
  | [], a, _, ha, _, _ => ⟨ha, fun u => by show spansHave a u = _; rw [have_nil, Bool.or_false]⟩
  | x :: b, a, c, ha, ⟨h1, h2, h3⟩, hc => by
    obtain ⟨k1, k2⟩ := with_ok ha (show 1 ≤ x.f by omega) h2
    obtain ⟨m1, m2⟩ := both_ok k1 h3 (by omega)
    refine ⟨m1, fun u => ?_⟩
    rw [show bothF a (x :: b) = bothF (withF a x) b from rfl, m2, k2, have_cons, Bool.or_assoc]

theorem left_ok : ∀ {b a : List Span} {c : Int}, Can 1 a → Can c b → Can 1 (leftF a b) ∧ ∀ u, spansHave (leftF a b) u = (spansHave a u && !spansHave b u)
  | [], a, _, ha, _ => ⟨ha, fun u => by show spansHave a u = _; rw [have_nil]; simp⟩
  | x :: b, a, c, ha, ⟨h1, h2, h3⟩ => by
    obtain ⟨k1, k2⟩ := without_ok ha h2
    obtain ⟨m1, m2⟩ := left_ok k1 h3
    refine ⟨m1, fun u => ?_⟩
    rw [show leftF a (x :: b) = leftF (withoutF a x) b from rfl, m2, k2, have_cons]
    cases spansHave a u <;> cases inX x u <;> cases spansHave b u <;> rfl

/-- All times are small, where those of two others are. -/
theorem top_or {l a b : List Span} (h : Can 1 l) (hm : ∀ u, spansHave l u = true → spansHave a u = true ∨ spansHave b u = true) (ha : ∀ x ∈ a, x.t ≤ 1073741824) (hb : ∀ x ∈ b, x.t ≤ 1073741824) : ∀ x ∈ l, x.t ≤ 1073741824 := fun x hx => by
  rcases hm x.t (have_iff.2 ⟨x, hx, (h.mem hx).2, Int.le_refl _⟩) with k | k
  · obtain ⟨y, hy, h1, h2⟩ := have_iff.1 k
    have := ha y hy
    omega
  · obtain ⟨y, hy, h1, h2⟩ := have_iff.1 k
    have := hb y hy
    omega

theorem Can.many : ∀ {l : List Span} {a : Int}, Can a l → (∀ x ∈ l, x.t ≤ 1073741824) → a ≤ 1073741826 → 2 * (l.length : Int) ≤ 1073741826 - a
  | [], _, _, _, h => by simp; omega
  | x :: l, a, ⟨h1, h2, h3⟩, h, _ => by
    have hx := h x (List.mem_cons_self ..)
    have := h3.many (fun y hy => h y (List.mem_cons_of_mem _ hy)) (by omega)
    rw [List.length_cons]
    push_cast
    omega

theorem from_len {l : List Span} (h : spansFrom 1 l = true) : l.length ≤ 536870912 := by
  obtain ⟨h1, h2⟩ := from_can.1 h
  have := h1.many h2 (by omega)
  omega

theorem with_from {l : List Span} {x : Span} (hl : spansFrom 1 l = true) (h1 : 1 ≤ x.f) (hx : x.f ≤ x.t) (h2 : x.t ≤ 1073741824) : spansFrom 1 (withF l x) = true := by
  obtain ⟨k1, k2⟩ := from_can.1 hl
  obtain ⟨m1, m2⟩ := with_ok k1 h1 hx
  refine from_can.2 ⟨m1, top_or (b := [x]) m1 (fun u hu => ?_) k2 fun y hy => by rw [List.mem_singleton] at hy; subst hy; exact h2⟩
  rw [m2, Bool.or_eq_true] at hu
  rwa [have_one]

theorem without_from {l : List Span} {x : Span} (hl : spansFrom 1 l = true) (hx : x.f ≤ x.t) : spansFrom 1 (withoutF l x) = true := by
  obtain ⟨k1, k2⟩ := from_can.1 hl
  obtain ⟨m1, m2⟩ := without_ok k1 hx
  refine from_can.2 ⟨m1, top_of m1 (fun u hu => ?_) k2⟩
  rw [m2, Bool.and_eq_true] at hu
  exact hu.1

/-! ### What comes of the edges -/

def orB (p q : Bool) : Bool := p || q

def lessB (p q : Bool) : Bool := p && !q

theorem setF_ok {a b : List Span} (want : Bool → Bool → Bool) (hw : want false false = false) (ha : Can 1 a) (hb : Can 1 b) : Can 1 (setF want a b) ∧ ∀ u, spansHave (setF want a b) u = want (spansHave a u) (spansHave b u) :=
  edges_ok want hw ha hb (edges_is a b)

theorem setF_or {a b : List Span} (ha : Can 1 a) (hb : Can 1 b) : setF orB a b = bothF a b := by
  obtain ⟨h1, h2⟩ := setF_ok orB rfl ha hb
  obtain ⟨k1, k2⟩ := both_ok ha hb (Int.le_refl _)
  exact h1.ext k1 fun u => by rw [h2, k2]; rfl

theorem setF_less {a b : List Span} (ha : Can 1 a) (hb : Can 1 b) : setF lessB a b = leftF a b := by
  obtain ⟨h1, h2⟩ := setF_ok lessB rfl ha hb
  obtain ⟨k1, k2⟩ := left_ok ha hb
  exact h1.ext k1 fun u => by rw [h2, k2]; rfl

theorem setF_len (want : Bool → Bool → Bool) (a b : List Span) : (setF want a b).length ≤ a.length + b.length := by
  unfold setF edgeFold
  have := edge_len (wantP want a b) (edgesOf a b) (0, [])
  have h2 := edges_len a b
  simp at this
  omega

def toldL (l : List Span) : List Span := if 1024 < l.length then [] else l

def toldN (l : List Span) : Int := if 1024 < l.length then 4 else 0

theorem setL_eq (want : Bool → Bool → Bool) (a b : List Span) : setL want a b = if spansMay a && spansMay b then toldL (setF want a b) else [] := by
  unfold setL setN toldL
  cases spansMay a && spansMay b
  · rfl
  · by_cases h : 1024 < (setF want a b).length <;> simp [h]

theorem setN_eq (want : Bool → Bool → Bool) (a b : List Span) : setN want a b = if spansMay a && spansMay b then toldN (setF want a b) else 8 := rfl

/-- Two sets together; one without the other one; a span more: as the references say. -/
def rJoinL (a b : List Span) : List Span := if spansMay a && spansMay b then toldL (bothF a b) else []

def rJoinN (a b : List Span) : Int := if spansMay a && spansMay b then toldN (bothF a b) else 8

def rLessL7 (a b : List Span) : List Span := if spansMay a && spansMay b then toldL (leftF a b) else []

def rLessN7 (a b : List Span) : Int := if spansMay a && spansMay b then toldN (leftF a b) else 8

def okX (x : Span) : Bool := decide (1 ≤ x.f) && decide (x.f ≤ x.t) && decide (x.t ≤ 1073741824)

def rAddL7 (l : List Span) (x : Span) : List Span := if spansMay l then (if okX x then toldL (withF l x) else []) else []

def rAddN7 (l : List Span) (x : Span) : Int := if spansMay l then (if okX x then toldN (withF l x) else 2) else 8

theorem may_both {a b : List Span} (h : (spansMay a && spansMay b) = true) : Can 1 a ∧ Can 1 b := by
  rw [Bool.and_eq_true] at h
  exact ⟨(may_can h.1).1, (may_can h.2).1⟩

theorem join_eq (a b : List Span) : setL orB a b = rJoinL a b ∧ setN orB a b = rJoinN a b := by
  rw [setL_eq, setN_eq]
  unfold rJoinL rJoinN
  cases h : spansMay a && spansMay b
  · exact ⟨rfl, rfl⟩
  · obtain ⟨h1, h2⟩ := may_both h
    rw [setF_or h1 h2]
    exact ⟨rfl, rfl⟩

theorem less_eq7 (a b : List Span) : setL lessB a b = rLessL7 a b ∧ setN lessB a b = rLessN7 a b := by
  rw [setL_eq, setN_eq]
  unfold rLessL7 rLessN7
  cases h : spansMay a && spansMay b
  · exact ⟨rfl, rfl⟩
  · obtain ⟨h1, h2⟩ := may_both h
    rw [setF_less h1 h2]
    exact ⟨rfl, rfl⟩

theorem may_one (x : Span) : spansMay [x] = okX x := by
  unfold spansMay okX spansFrom spansFrom
  simp

/-- What span.Add answers. -/
def sAddL (l : List Span) (x : Span) : List Span := if spansMay l then (if okX x then setL orB l [x] else []) else []

def sAddN (l : List Span) (x : Span) : Int := if spansMay l then (if okX x then setN orB l [x] else 2) else 8

theorem add_eq7 (l : List Span) (x : Span) : sAddL l x = rAddL7 l x ∧ sAddN l x = rAddN7 l x := by
  unfold sAddL sAddN rAddL7 rAddN7
  cases h : spansMay l
  · exact ⟨rfl, rfl⟩
  · cases h2 : okX x
    · exact ⟨rfl, rfl⟩
    · obtain ⟨e1, e2⟩ := join_eq l [x]
      have hb : (spansMay l && spansMay [x]) = true := by rw [h, may_one, h2]; rfl
      simp only [if_true]
      rw [e1, e2]
      unfold rJoinL rJoinN
      rw [hb]
      exact ⟨rfl, rfl⟩

/-! ### How many -/

def meas (P : Int → Bool) : Nat → Int
  | 0 => 0
  | n + 1 => meas P n + if P (n : Int) then 1 else 0

theorem meas_congr {P Q : Int → Bool} (h : ∀ u, P u = Q u) : ∀ n, meas P n = meas Q n
  | 0 => rfl
  | n + 1 => by unfold meas; rw [meas_congr h n, h]

theorem meas_le {P Q : Int → Bool} (h : ∀ u, P u = true → Q u = true) : ∀ n, meas P n ≤ meas Q n
  | 0 => Int.le_refl _
  | n + 1 => by
    unfold meas
    have := meas_le h n
    cases e : P (n : Int)
    · simp; split <;> omega
    · rw [h _ e]; simp; omega

theorem meas_or {P Q : Int → Bool} (h : ∀ u, P u = true → Q u = false) : ∀ n, meas (fun u => P u || Q u) n = meas P n + meas Q n
  | 0 => rfl
  | n + 1 => by
    unfold meas
    rw [meas_or h n]
    cases e : P (n : Int)
    · simp; omega
    · rw [h _ e]; simp; omega

theorem meas_none : ∀ n, meas (fun _ => false) n = 0
  | 0 => rfl
  | n + 1 => by unfold meas; rw [meas_none n]; simp

theorem meas_one {x : Span} (h0 : 0 ≤ x.f) : ∀ n : Nat, meas (inX x) n = max 0 (min (x.t + 1) n - x.f)
  | 0 => by unfold meas; simp; omega
  | n + 1 => by
    unfold meas
    rw [meas_one h0 n]
    cases e : inX x n
    · have : ¬ (x.f ≤ n ∧ n ≤ x.t) := fun h => by rw [inX_iff.2 h] at e; cases e
      push_cast
      simp
      omega
    · have := inX_iff.1 e
      push_cast
      simp
      omega

theorem many_meas {n : Nat} : ∀ {l : List Span} {a : Int}, Can a l → 0 ≤ a → (∀ x ∈ l, x.t < n) → spansMany l = meas (spansHave l) n
  | [], _, _, _, _ => by rw [meas_congr (Q := fun _ => false) (fun _ => have_nil _), meas_none]; rfl
  | x :: l, a, ⟨h1, h2, h3⟩, h0, h => by
    have hx := h x (List.mem_cons_self ..)
    rw [meas_congr (Q := fun u => inX x u || spansHave l u) (fun u => have_cons x l u), meas_or (fun u hu => ?_), meas_one (by omega), ← many_meas h3 (by omega) fun y hy => h y (List.mem_cons_of_mem _ hy)]
    · show x.t - x.f + 1 + spansMany l = _
      rw [show max 0 (min (x.t + 1) (n : Int) - x.f) = x.t - x.f + 1 by omega]
    · cases e : spansHave l u
      · rfl
      · have := h3.least e
        have := inX_iff.1 hu
        omega

end Go.Proofs.Ytkolimhkfiebeaa
