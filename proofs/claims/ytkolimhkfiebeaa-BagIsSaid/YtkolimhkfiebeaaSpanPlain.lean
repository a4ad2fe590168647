/-
  Plain: sets of times in short. Two lists that may be and have the same times are one list; what comes of the edges; With and Without.
-/
import Derived.Test.YtkolimhkfiebeaaSpan
namespace Go.Proofs.Ytkolimhkfiebeaa
open Go.RowKit

/-- In order, apart by two at least, from least on. -/
def Can (least : Int) : List Span → Prop
  | [] => True
  | x :: r => least ≤ x.f ∧ x.f ≤ x.t ∧ Can (x.t + 2) r

theorem Can.low {a b : Int} (h : a ≤ b) : ∀ {l : List Span}, Can b l → Can a l
  | [], _ => trivial
  | _ :: _, ⟨h1, h2, h3⟩ => ⟨by omega, h2, h3⟩

def inX (x : Span) (u : Int) : Bool := decide (x.f ≤ u) && decide (u ≤ x.t)

theorem inX_iff {x : Span} {u : Int} : inX x u = true ↔ x.f ≤ u ∧ u ≤ x.t := by unfold inX; simp

theorem have_cons (x : Span) (l : List Span) (u : Int) : spansHave (x :: l) u = (inX x u || spansHave l u) := by
  unfold spansHave inX
  rw [List.any_cons]

theorem have_nil (u : Int) : spansHave [] u = false := rfl

theorem have_append (l m : List Span) (u : Int) : spansHave (l ++ m) u = (spansHave l u || spansHave m u) := by
  unfold spansHave
  rw [List.any_append]

theorem have_one (x : Span) (u : Int) : spansHave [x] u = inX x u := by rw [have_cons, have_nil, Bool.or_false]

theorem have_iff {l : List Span} {u : Int} : spansHave l u = true ↔ ∃ x ∈ l, x.f ≤ u ∧ u ≤ x.t := by
  unfold spansHave
  rw [List.any_eq_true]
  constructor
  · rintro ⟨x, hx, h⟩; exact ⟨x, hx, by simpa using h⟩
  · rintro ⟨x, hx, h⟩; exact ⟨x, hx, by simpa using h⟩

theorem Can.mem {x : Span} : ∀ {l : List Span} {a : Int}, Can a l → x ∈ l → a ≤ x.f ∧ x.f ≤ x.t
  | [], _, _, h => by cases h
  | y :: r, a, ⟨h1, h2, h3⟩, h => by
    rcases List.mem_cons.1 h with rfl | h
    · exact ⟨h1, h2⟩
    · have := h3.mem h
      omega

theorem Can.least {l : List Span} {a u : Int} (h : Can a l) (hu : spansHave l u = true) : a ≤ u := by
  obtain ⟨x, hx, h1, h2⟩ := have_iff.1 hu
  have := h.mem hx
  omega

/-- The same times: the same list. -/
theorem Can.ext : ∀ {l m : List Span} {a b : Int}, Can a l → Can b m → (∀ u, spansHave l u = spansHave m u) → l = m
  | [], [], _, _, _, _, _ => rfl
  | [], y :: m, _, _, _, ⟨h1, h2, h3⟩, h => by
    have := h y.f
    rw [have_nil, have_cons, inX_iff.2 ⟨Int.le_refl _, h2⟩] at this
    cases this
  | x :: l, [], _, _, ⟨h1, h2, h3⟩, _, h => by
    have := h x.f
    rw [have_nil, have_cons, inX_iff.2 ⟨Int.le_refl _, h2⟩] at this
    cases this
  | x :: l, y :: m, a, b, ⟨h1, h2, h3⟩, ⟨k1, k2, k3⟩, h => by
    have e1 : x.f = y.f := by
      have p := h x.f
      have q := h y.f
      rw [have_cons, have_cons, inX_iff.2 ⟨Int.le_refl _, h2⟩, Bool.true_or] at p
      rw [have_cons, have_cons, inX_iff.2 ⟨Int.le_refl _, k2⟩, Bool.true_or] at q
      have p' := p.symm
      rw [Bool.or_eq_true] at p' q
      rcases p' with p' | p'
      · rcases q with q | q
        · have := inX_iff.1 p'; have := inX_iff.1 q; omega
        · have := inX_iff.1 p'; have := h3.least q; omega
      · rcases q with q | q
        · have := k3.least p'; have := inX_iff.1 q; omega
        · have := k3.least p'; have := h3.least q; omega
    have e2 : x.t = y.t := by
      rcases Int.lt_trichotomy x.t y.t with hlt | heq | hgt
      · have p := h (x.t + 1)
        have hn : inX x (x.t + 1) = false := by unfold inX; simp; omega
        rw [have_cons, have_cons, hn, (inX_iff (x := y) (u := x.t + 1)).2 (by omega), Bool.true_or, Bool.false_or] at p
        have := h3.least p
        omega
      · exact heq
      · have p := h (y.t + 1)
        have hn : inX y (y.t + 1) = false := by unfold inX; simp; omega
        rw [have_cons, have_cons, hn, (inX_iff (x := x) (u := y.t + 1)).2 (by omega), Bool.true_or, Bool.false_or] at p
        have := k3.least p.symm
        omega
    obtain ⟨xf, xt⟩ := x
    obtain ⟨yf, yt⟩ := y
    dsimp only at e1 e2 h3 k3
    subst e1 e2
    congr 1
    refine Can.ext h3 k3 fun u => ?_
    have p := h u
    rw [have_cons, have_cons] at p
    cases hl : spansHave l u <;> cases hm : spansHave m u <;> try rfl
    · rw [hl, hm] at p
      have := k3.least hm
      rw [show inX ⟨xf, xt⟩ u = false by unfold inX; simp; omega] at p
      cases p
    · rw [hl, hm] at p
      have := h3.least hl
      rw [show inX ⟨xf, xt⟩ u = false by unfold inX; simp; omega] at p
      cases p

theorem Can.snoc {x : Span} : ∀ {l : List Span} {a : Int}, Can a l → a ≤ x.f → x.f ≤ x.t → (∀ y ∈ l, y.t + 2 ≤ x.f) → Can a (l ++ [x])
  | [], _, _, h1, h2, _ => ⟨h1, h2, trivial⟩
  | y :: _, _, ⟨k1, k2, k3⟩, _, h2, h => ⟨k1, k2, k3.snoc (h y (List.mem_cons_self ..)) h2 fun z hz => h z (List.mem_cons_of_mem _ hz)⟩

/-! ### May spans be? -/
theorem from_can : ∀ {l : List Span} {a : Int}, spansFrom a l = true ↔ Can a l ∧ ∀ x ∈ l, x.t ≤ 1073741824
  | [], _ => ⟨fun _ => ⟨trivial, fun x h => by cases h⟩, fun _ => rfl⟩
  | x :: l, a => by
    unfold spansFrom
    simp only [Bool.and_eq_true, decide_eq_true_eq]
    rw [from_can (l := l)]
    constructor
    · rintro h
      refine ⟨⟨by omega, by omega, h.2.1⟩, fun y hy => ?_⟩
      rcases List.mem_cons.1 hy with rfl | hy
      · omega
      · exact h.2.2 y hy
    · rintro ⟨⟨h1, h2, h3⟩, h⟩
      have := h x (List.mem_cons_self ..)
      exact ⟨by omega, h3, fun y hy => h y (List.mem_cons_of_mem _ hy)⟩

theorem may_can {l : List Span} (h : spansMay l = true) : Can 1 l ∧ (∀ x ∈ l, x.t ≤ 1073741824) ∧ l.length ≤ 1024 := by
  unfold spansMay at h
  rw [Bool.and_eq_true, decide_eq_true_eq] at h
  have := from_can.1 h.2
  exact ⟨this.1, this.2, h.1⟩

theorem may_of {l : List Span} (h : Can 1 l) (h2 : ∀ x ∈ l, x.t ≤ 1073741824) (h3 : l.length ≤ 1024) : spansMay l = true := by
  unfold spansMay
  rw [Bool.and_eq_true, decide_eq_true_eq]
  exact ⟨h3, from_can.2 ⟨h, h2⟩⟩

/-- A list that may be, of the same times as one that may be but for how many. -/
theorem top_of {l m : List Span} {a : Int} (h : Can a l) (hm : ∀ u, spansHave l u = true → spansHave m u = true) (ht : ∀ x ∈ m, x.t ≤ 1073741824) : ∀ x ∈ l, x.t ≤ 1073741824 := fun x hx => by
  obtain ⟨y, hy, h1, h2⟩ := have_iff.1 (hm x.t (have_iff.2 ⟨x, hx, (h.mem hx).2, Int.le_refl _⟩))
  have := ht y hy
  omega

/-! ### The edges -/
def edgeStep (P : Int → Bool) (s : Int × List Span) (t : Int) : Int × List Span :=
  if s.1 = 0 then (if P t then (t, s.2) else s) else (if P t then s else (0, s.2 ++ [⟨s.1, t - 1⟩]))

def edgeFold (P : Int → Bool) (ts : List Int) : Int × List Span := ts.foldl (edgeStep P) (0, [])

/-- What holds behind the edge c. -/
structure EdgeInv (P : Int → Bool) (c : Int) (s : Int × List Span) : Prop where
  pos : 0 ≤ s.1
  on : 0 < s.1 ↔ P c = true
  le : s.1 ≤ c
  can : Can 1 s.2
  gap : ∀ x ∈ s.2, x.t + 2 ≤ if s.1 = 0 then c + 1 else s.1
  has : ∀ u, u ≤ c → (spansHave s.2 u || (decide (0 < s.1) && decide (s.1 ≤ u))) = P u

def ConstFrom (P : Int → Bool) : Int → List Int → Prop
  | c, [] => ∀ u, c ≤ u → P u = P c
  | c, t :: ts => c < t ∧ (∀ u, c ≤ u → u < t → P u = P c) ∧ ConstFrom P t ts

theorem EdgeInv.mid {P : Int → Bool} {c t : Int} {s : Int × List Span} (h : EdgeInv P c s) (hc : ∀ u, c ≤ u → u < t → P u = P c) : ∀ u, u < t → (spansHave s.2 u || (decide (0 < s.1) && decide (s.1 ≤ u))) = P u := fun u hu => by
  by_cases hu2 : u ≤ c
  · exact h.has u hu2
  · rw [hc u (by omega) hu]
    have h1 := h.le
    by_cases hp : 0 < s.1
    · rw [h.on.1 hp]
      have e1 : decide (0 < s.1) = true := decide_eq_true hp
      have e2 : decide (s.1 ≤ u) = true := decide_eq_true (by omega)
      rw [e1, e2]
      simp
    · have hs : s.1 = 0 := by have := h.pos; omega
      have hP : P c = false := by
        cases e : P c
        · rfl
        · exact absurd (h.on.2 e) hp
      rw [hP, show decide (0 < s.1) = false from decide_eq_false hp, Bool.false_and, Bool.or_false]
      cases e : spansHave s.2 u
      · rfl
      · obtain ⟨x, hx, k1, k2⟩ := have_iff.1 e
        have := h.gap x hx
        rw [if_pos hs] at this
        omega

theorem EdgeInv.step {P : Int → Bool} {c t : Int} {s : Int × List Span} (h : EdgeInv P c s) (h0 : 0 ≤ c) (hct : c < t) (hc : ∀ u, c ≤ u → u < t → P u = P c) : EdgeInv P t (edgeStep P s t) := by
  have hmid := h.mid hc
  have h1 := h.pos
  have h2 := h.le
  have h3 := h.can
  have h4 := h.gap
  obtain ⟨fr, acc⟩ := s
  dsimp only at *
  unfold edgeStep
  dsimp only
  by_cases hz : fr = 0
  · subst hz
    rw [if_pos rfl]
    have hgap : ∀ x ∈ acc, x.t + 2 ≤ c + 1 := fun x hx => by have := h4 x hx; rwa [if_pos rfl] at this
    have hm : ∀ u, u < t → spansHave acc u = P u := fun u hu => by have := hmid u hu; simpa using this
    have ht : spansHave acc t = false := by
      cases e : spansHave acc t
      · rfl
      · obtain ⟨x, hx, k1, k2⟩ := have_iff.1 e
        have := hgap x hx
        omega
    cases hP : P t
    · rw [if_neg (by simp)]
      refine ⟨Int.le_refl _, by simp [hP], by dsimp only; omega, h3, fun x hx => by dsimp only; rw [if_pos rfl]; have := hgap x hx; omega, fun u hu => ?_⟩
      dsimp only
      by_cases e : u = t
      · subst e; rw [ht, hP]; simp
      · rw [hm u (by omega)]; simp
    · rw [if_pos rfl]
      refine ⟨by dsimp only; omega, by dsimp only; simp [hP]; omega, Int.le_refl _, h3, fun x hx => by dsimp only; rw [if_neg (by omega)]; have := hgap x hx; omega, fun u hu => ?_⟩
      dsimp only
      by_cases e : u = t
      · subst e; rw [hP, ht]; simp; omega
      · rw [hm u (by omega), show decide (t ≤ u) = false from decide_eq_false (by omega)]; simp
  · rw [if_neg hz]
    have hpos : 0 < fr := by omega
    have hgap : ∀ x ∈ acc, x.t + 2 ≤ fr := fun x hx => by have := h4 x hx; rwa [if_neg hz] at this
    have hm : ∀ u, u < t → (spansHave acc u || decide (fr ≤ u)) = P u := fun u hu => by have := hmid u hu; simpa [hpos] using this
    have ht : spansHave acc t = false := by
      cases e : spansHave acc t
      · rfl
      · obtain ⟨x, hx, k1, k2⟩ := have_iff.1 e
        have := hgap x hx
        omega
    cases hP : P t
    · rw [if_neg (by simp)]
      refine ⟨Int.le_refl _, by simp [hP], by dsimp only; omega, h3.snoc (x := ⟨fr, t - 1⟩) (by dsimp only; omega) (by dsimp only; omega) hgap, fun x hx => ?_, fun u hu => ?_⟩
      · dsimp only
        rw [if_pos rfl]
        rcases List.mem_append.1 hx with hx | hx
        · have := hgap x hx; omega
        · rw [List.mem_singleton] at hx
          subst hx
          dsimp only
          omega
      · dsimp only
        rw [have_append, have_one]
        by_cases e : u = t
        · subst e
          rw [ht, hP, show inX ⟨fr, u - 1⟩ u = false by unfold inX; simp; omega]
          simp
        · rw [← hm u (by omega)]
          have : inX ⟨fr, t - 1⟩ u = decide (fr ≤ u) := by
            unfold inX
            rw [show decide (u ≤ t - 1) = true from decide_eq_true (by omega), Bool.and_true]
          rw [this]
          simp
    · rw [if_pos rfl]
      refine ⟨h1, by simp [hP, hpos], by dsimp only; omega, h3, fun x hx => by dsimp only; rw [if_neg hz]; exact hgap x hx, fun u hu => ?_⟩
      dsimp only
      by_cases e : u = t
      · subst e; rw [hP, ht]; simp [hpos]; omega
      · rw [← hm u (by omega)]; simp [hpos]

theorem EdgeInv.all {P : Int → Bool} : ∀ (ts : List Int) (c : Int) (s : Int × List Span), EdgeInv P c s → 0 ≤ c → ConstFrom P c ts → (∀ d, (∀ t ∈ ts, t ≤ d) → c ≤ d → P d = false) → Can 1 (ts.foldl (edgeStep P) s).2 ∧ ∀ u, spansHave (ts.foldl (edgeStep P) s).2 u = P u
  | [], c, s, h, _, hc, hend => by
    refine ⟨h.can, fun u => ?_⟩
    have hP := hend c (fun t ht => by cases ht) (Int.le_refl _)
    have hs : s.1 = 0 := by
      have := h.pos
      have := h.on
      rw [hP] at this
      simp at this
      omega
    have := h.mid (t := max u c + 1) (fun v hv _ => hc v hv) u (by omega)
    rw [hs] at this
    simpa using this
  | t :: ts, c, s, h, h0, ⟨h1, h2, h3⟩, hend => by
    rw [List.foldl_cons]
    exact EdgeInv.all ts t _ (h.step h0 h1 h2) (by omega) h3 fun d hd htd => hend d (fun x hx => (List.mem_cons.1 hx).elim (fun e => by omega) (hd x)) (by omega)

/-- How long what comes of the edges is. -/
theorem edge_len (P : Int → Bool) : ∀ (ts : List Int) (s : Int × List Span), 2 * (ts.foldl (edgeStep P) s).2.length ≤ ts.length + 2 * s.2.length + (if s.1 = 0 then 0 else 1)
  | [], s => by simp
  | t :: ts, s => by
    rw [List.foldl_cons]
    have := edge_len P ts (edgeStep P s t)
    rw [List.length_cons]
    refine Nat.le_trans this ?_
    unfold edgeStep
    obtain ⟨fr, acc⟩ := s
    dsimp only
    split
    · split
      · dsimp only; split <;> omega
      · dsimp only; omega
    · split
      · dsimp only; omega
      · simp; omega

/-- The edges of two lists of spans, in their order, each once. -/
structure IsEdges (a b : List Span) (ts : List Int) : Prop where
  srt : ts.Pairwise (· < ·)
  mem : ∀ t, t ∈ ts ↔ ∃ x, (x ∈ a ∨ x ∈ b) ∧ (t = x.f ∨ t = x.t + 1)

theorem const_between {l : List Span} {u v : Int} (hvu : v ≤ u) (h : ∀ x ∈ l, (x.f ≤ v ∨ u < x.f) ∧ (x.t + 1 ≤ v ∨ u < x.t + 1)) : spansHave l u = spansHave l v := by
  rw [Bool.eq_iff_iff, have_iff, have_iff]
  constructor
  · rintro ⟨x, hx, h1, h2⟩
    have := h x hx
    exact ⟨x, hx, by omega, by omega⟩
  · rintro ⟨x, hx, h1, h2⟩
    have := h x hx
    exact ⟨x, hx, by omega, by omega⟩

def wantP (want : Bool → Bool → Bool) (a b : List Span) (t : Int) : Bool := want (spansHave a t) (spansHave b t)

theorem const_from {a b : List Span} (want : Bool → Bool → Bool) : ∀ (ts : List Int) (c : Int), ts.Pairwise (· < ·) → (∀ t ∈ ts, c < t) → (∀ x, x ∈ a ∨ x ∈ b → (x.f ≤ c ∨ x.f ∈ ts) ∧ (x.t + 1 ≤ c ∨ x.t + 1 ∈ ts)) → ConstFrom (wantP want a b) c ts
  | [], c, _, _, h => fun u hu => by
    unfold wantP
    have key : ∀ x, x ∈ a ∨ x ∈ b → (x.f ≤ c ∨ u < x.f) ∧ (x.t + 1 ≤ c ∨ u < x.t + 1) := fun x hx => by
      have := h x hx
      exact ⟨.inl (by simpa using this.1), .inl (by simpa using this.2)⟩
    rw [const_between hu fun x hx => key x (.inl hx), const_between hu fun x hx => key x (.inr hx)]
  | t :: ts, c, hs, hc, h => by
    obtain ⟨h1, h2⟩ := List.pairwise_cons.1 hs
    have far : ∀ y, y = t ∨ y ∈ ts → t ≤ y := fun y hy => hy.elim (fun e => by omega) fun hy => Int.le_of_lt (h1 y hy)
    refine ⟨hc t (List.mem_cons_self ..), fun u hu hut => ?_, const_from want ts t h2 h1 fun x hx => ?_⟩
    · have key : ∀ x, x ∈ a ∨ x ∈ b → (x.f ≤ c ∨ u < x.f) ∧ (x.t + 1 ≤ c ∨ u < x.t + 1) := fun x hx => by
        obtain ⟨k1, k2⟩ := h x hx
        exact ⟨k1.imp id fun k => by have := far _ (List.mem_cons.1 k); omega, k2.imp id fun k => by have := far _ (List.mem_cons.1 k); omega⟩
      unfold wantP
      rw [const_between hu fun x hx => key x (.inl hx), const_between hu fun x hx => key x (.inr hx)]
    · obtain ⟨k1, k2⟩ := h x hx
      have hct := hc t (List.mem_cons_self ..)
      refine ⟨?_, ?_⟩
      · rcases k1 with k1 | k1
        · exact .inl (by omega)
        · rcases List.mem_cons.1 k1 with k1 | k1
          · exact .inl (by omega)
          · exact .inr k1
      · rcases k2 with k2 | k2
        · exact .inl (by omega)
        · rcases List.mem_cons.1 k2 with k2 | k2
          · exact .inl (by omega)
          · exact .inr k2

/-- What comes of the edges has the times that are wanted. -/
theorem edges_ok {a b : List Span} {ts : List Int} (want : Bool → Bool → Bool) (hw : want false false = false) (ha : Can 1 a) (hb : Can 1 b) (h : IsEdges a b ts) :
    Can 1 (edgeFold (wantP want a b) ts).2 ∧ ∀ u, spansHave (edgeFold (wantP want a b) ts).2 u = want (spansHave a u) (spansHave b u) := by
  have pos : ∀ x, x ∈ a ∨ x ∈ b → 1 ≤ x.f ∧ x.f ≤ x.t := fun x hx => hx.elim ha.mem hb.mem
  have low : ∀ l : List Span, Can 1 l → ∀ u, u ≤ 0 → spansHave l u = false := fun l hl u hu => by
    cases e : spansHave l u
    · rfl
    · have := hl.least e; omega
  have z : ∀ u, u ≤ 0 → wantP want a b u = false := fun u hu => by unfold wantP; rw [low a ha u hu, low b hb u hu, hw]
  refine EdgeInv.all ts 0 (0, []) ⟨Int.le_refl _, by simp [z 0 (Int.le_refl _)], Int.le_refl _, trivial, (fun x hx => by cases hx), fun u hu => by rw [z u hu]; simp [have_nil]⟩ (Int.le_refl _) (const_from want ts 0 h.srt (fun t ht => ?_) fun x hx => ⟨.inr ((h.mem _).2 ⟨x, hx, .inl rfl⟩), .inr ((h.mem _).2 ⟨x, hx, .inr rfl⟩)⟩) fun d hd hd0 => ?_
  · obtain ⟨x, hx, e⟩ := (h.mem t).1 ht
    have := pos x hx
    omega
  · have far : ∀ l : List Span, (∀ x ∈ l, x ∈ a ∨ x ∈ b) → spansHave l d = false := fun l hl => by
      cases e : spansHave l d
      · rfl
      · obtain ⟨x, hx, k1, k2⟩ := have_iff.1 e
        have := hd _ ((h.mem _).2 ⟨x, hl x hx, .inr rfl⟩)
        omega
    unfold wantP
    rw [far a fun x hx => .inl hx, far b fun x hx => .inr hx, hw]
end Go.Proofs.Ytkolimhkfiebeaa
