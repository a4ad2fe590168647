/-
  The walks of shelf.Find, and of the references Of, Find.
-/
import Derived.Test.YtegmddgbdjlidaaShelfRef
import Derived.Test.YtegmddgbdjlidaaAt
import Derived.Test.YtegmddgbdjlidaaRef22b
namespace Go.Proofs.Ytegmddgbdjlidaa
open Go.RowKit

/-! ### Plain -/
/-- A section's entry. -/
def entOf (l : List Entry) (s : Id) : Option Entry := l.find? fun x => decide (x.id = s)
def findE (l : List Entry) (s : Id) : Entry := if shelfMay l then (entOf l s).getD zeroE else zeroE
def findB (l : List Entry) (s : Id) : Bool := shelfMay l && (entOf l s).isSome
theorem idLess_trans {a b c : Id} (h : idLess a b = true) (k : idLess b c = true) : idLess a c = true := by
  unfold idLess at *
  simp only [Bool.or_eq_true, Bool.and_eq_true, decide_eq_true_eq] at *
  omega
theorem idLess_irrefl (a : Id) : idLess a a = false := by unfold idLess; simp
theorem idLess_asymm {a b : Id} (h : idLess a b = true) : idLess b a = false := by
  cases k : idLess b a
  · rfl
  · have := idLess_trans h k
    rw [idLess_irrefl] at this
    cases this
theorem shelfFrom_all {l : List Entry} : ∀ {prev : Option Id}, shelfFrom prev l = true → (∀ x ∈ l, entryMay x = true ∧ (∀ p, prev = some p → idLess p x.id = true)) ∧ (∀ (i j : Nat) (x y : Entry), i < j → l[i]? = some x → l[j]? = some y → idLess x.id y.id = true) := by
  induction l with
  | nil => intro prev _; exact ⟨fun x hx => (by cases hx), fun i j x y _ h => (by simp at h)⟩
  | cons z l ih =>
    intro prev h
    rw [shelfFrom, Bool.and_eq_true, Bool.and_eq_true] at h
    obtain ⟨⟨h1, h2⟩, h3⟩ := h
    obtain ⟨k1, k2⟩ := ih h3
    refine ⟨fun x hx => ?_, fun i j x y hij hi hj => ?_⟩
    · rcases List.mem_cons.1 hx with rfl | hx
      · refine ⟨h1, fun p hp => ?_⟩
        subst hp
        exact h2
      · refine ⟨(k1 x hx).1, fun p hp => ?_⟩
        subst hp
        exact idLess_trans h2 ((k1 x hx).2 _ rfl)
    · cases i with
      | zero =>
        cases j with
        | zero => omega
        | succ j =>
          simp at hi hj
          subst hi
          exact (k1 y (List.mem_of_getElem? hj)).2 _ rfl
      | succ i =>
        cases j with
        | zero => omega
        | succ j => exact k2 i j x y (by omega) (by simpa using hi) (by simpa using hj)
theorem may_from {l : List Entry} (h : shelfMay l = true) : l.length ≤ 65 ∧ shelfFrom none l = true := by
  unfold shelfMay at h
  rw [Bool.and_eq_true] at h
  exact ⟨of_decide_eq_true h.1, h.2⟩
theorem may_entry {l : List Entry} (h : shelfMay l = true) : ∀ x ∈ l, entryMay x = true := fun x hx => ((shelfFrom_all (may_from h).2).1 x hx).1
theorem may_less {l : List Entry} (h : shelfMay l = true) : ∀ (i j : Nat) (x y : Entry), i < j → l[i]? = some x → l[j]? = some y → idLess x.id y.id = true := (shelfFrom_all (may_from h).2).2
theorem may_small {l : List Entry} (h : shelfMay l = true) : smallS l := ⟨by have := (may_from h).1; omega, fun x hx => small_of_may (may_entry h x hx)⟩
/-- Where it is found. -/
theorem at_found {l : List Entry} {s : Id} {k : Nat} {x : Entry} (h : shelfMay l = true) (hx : l[k]? = some x) (hs : x.id = s) : atOf l s = ((k : Int), true) := by
  refine at_hit hx (by unfold hitOf; rw [if_pos hs]) fun j y hj hy => ?_
  have hl := may_less h k j x y hj hx hy
  rw [hs] at hl
  unfold hitOf
  rw [if_neg (fun e => by rw [e, idLess_irrefl] at hl; cases hl), idLess_asymm hl]
  rfl
theorem scan_true (s : Id) : ∀ r : List Entry, (atScan s r).2 = true → ∃ x ∈ r, x.id = s := by
  intro r
  induction r with
  | nil => intro h; cases h
  | cons x r ih =>
    intro h
    rw [atScan] at h
    unfold hitOf at h
    by_cases hx : x.id = s
    · exact ⟨x, by simp, hx⟩
    · rw [if_neg hx] at h
      cases hq : idLess x.id s
      · rw [hq] at h
        obtain ⟨y, hy, e⟩ := ih h
        exact ⟨y, by simp [hy], e⟩
      · rw [hq] at h; cases h
theorem ent_some {l : List Entry} {s : Id} {x : Entry} (h : entOf l s = some x) : ∃ k : Nat, l[k]? = some x ∧ x.id = s := by
  have h1 := List.find?_some h
  obtain ⟨k, hk⟩ := List.getElem?_of_mem (List.mem_of_find?_eq_some h)
  exact ⟨k, hk, by simpa using h1⟩
theorem ent_none {l : List Entry} {s : Id} (h : entOf l s = none) : ∀ x ∈ l, x.id ≠ s := by
  intro x hx
  have := List.find?_eq_none.1 h x hx
  simpa using this
theorem at_false {l : List Entry} {s : Id} (h : entOf l s = none) : (atOf l s).2 = false := by
  cases hb : (atOf l s).2
  · rfl
  · obtain ⟨x, hx, e⟩ := scan_true s _ hb
    exact absurd e (ent_none h x (by simpa using hx))
theorem ent_drop {l : List Entry} {s : Id} {k : Nat} (h : entOf l s = entOf (l.drop k) s) {x : Entry} (hd : l.drop k = x :: l.drop (k + 1)) : (x.id = s → entOf l s = some x) ∧ (x.id ≠ s → entOf l s = entOf (l.drop (k + 1)) s) := by
  rw [h, hd]
  unfold entOf
  rw [List.find?_cons]
  constructor
  · intro e; simp [e]
  · intro e; simp [e]

/-- What hands back an entry, and a bool: in memory of its own. -/
def EntB (y : Entry) (b : Bool) (w : World) (e : Ending) (w' : World) : Prop := ∃ A c B d, e = .returned (.tuple #[.agg #[.int .u32 y.id.t, .int .u8 y.id.r, .bool y.ready, .bool y.pin, .int .i64 y.used, .bool y.known, .slice A y.snap.length c, .slice B y.got.length d], .bool b]) ∧ y.snap.length ≤ c ∧ c ≤ maxLen ∧ y.got.length ≤ d ∧ d ≤ maxLen ∧ R cTimes w.heap.size w' A y.snap ∧ R cBool w.heap.size w' B y.got ∧ Bl w w'
/-- .. held. -/
def EntH (y : Entry) (b : Bool) (w : World) (e : Ending) (w' : World) : Prop := ∃ A c B d, e = .returned (.tuple #[.agg #[.int .u32 y.id.t, .int .u8 y.id.r, .bool y.ready, .bool y.pin, .int .i64 y.used, .bool y.known, .slice A y.snap.length c, .slice B y.got.length d], .bool b]) ∧ Held w' y A c B d ∧ Bl w w'

theorem entzero_o (w : World) (o : Obj) : EntAt ((w.alloc o).alloc (Obj.cells #[Value.int IntKind.u32 0, Value.int IntKind.u8 0, Value.bool false, Value.bool false, Value.int IntKind.i64 0, Value.bool false, Value.slice none 0 0, Value.slice none 0 0] 31)) (w.heap.size + 1) zeroE none 0 none 0 := by
  have := EntAt.new (w.alloc o) zeroE none 0 none 0 31
  rw [World.size_alloc] at this
  exact this
theorem pairbox (w : World) (s : Id) : ∃ W, W = (w.alloc (.cells #[Value.int IntKind.u32 s.t, Value.int IntKind.u8 s.r] 25)).alloc (Obj.cells #[Value.int IntKind.u32 0, Value.int IntKind.u8 0, Value.bool false, Value.bool false, Value.int IntKind.i64 0, Value.bool false, Value.slice none 0 0, Value.slice none 0 0] 31) ∧
    Bl w W ∧ w.heap.size + 1 < W.heap.size ∧ W.cell? ⟨w.heap.size, 0, none⟩ = some (.int .u32 s.t) ∧ W.cell? ⟨w.heap.size, 1, none⟩ = some (.int .u8 s.r) ∧ EntAt W (w.heap.size + 1) zeroE none 0 none 0 := by
  refine ⟨_, rfl, ((Bl.refl _).alloc _).alloc _, by simp, ?_, ?_, entzero_o w _⟩
  · rw [((Bl.refl (w.alloc (.cells #[Value.int IntKind.u32 s.t, Value.int IntKind.u8 s.r] 25))).alloc _).cell (by rw [World.size_alloc]; omega), cell_of_row _ w.heap.size 0 _ _ (0, 0) (heap_alloc_new w _)]
    rfl
  · rw [((Bl.refl (w.alloc (.cells #[Value.int IntKind.u32 s.t, Value.int IntKind.u8 s.r] 25))).alloc _).cell (by rw [World.size_alloc]; omega), cell_of_row _ w.heap.size 1 _ _ (0, 0) (heap_alloc_new w _)]
    rfl

set_option maxRecDepth 100000 in
set_option maxHeartbeats 1000000 in
theorem shelfFind (A : Option Addr) (c : Nat) (l : List Entry) (s : Id) (w : World) (hl : l.length ≤ 1099511627776) (hs : s.ok) (hA : R cEntry 0 w A l) :
    Calls Try.prog 14 #[.slice A l.length c, .agg #[.int .u32 s.t, .int .u8 s.r]] w (EntB (findE l s) (findB l s) w) := by
  have hchk := fun W (hb : Bl w W) => shelfCheck A c l W (by unfold maxLen; omega) (hA.bl hb)
  cases hm : shelfMay l
  · have e1 := hide (show findE l s = zeroE by unfold findE; rw [hm]; rfl)
    have e2 := hide (show findB l s = false by unfold findB; rw [hm]; rfl)
    rw [hm, okOr_false] at hchk
    replace hchk := hide hchk
    clear hm
    go_enter Try.func14, Try.ntmps14
    go_wp2_with fail
    obtain ⟨W, hW, hbl, hz, s0, s1, at1⟩ := pairbox w s
    rw [← hW]
    clear hW
    refine (hchk.out _ hbl).mono ?_
    rintro e w1 ⟨rfl, hb1⟩
    obtain ⟨y0, y1, y2, y3, y4, y5, y6, y7⟩ := (at1.bl hb1).cells
    obtain ⟨f0, f1, f2, f3, f4, f5, f6, f7⟩ := (at1.bl hb1).frozens
    go_wp2_with fail
    refine bodyPost_ret (v := .tuple #[.agg #[.int .u32 0, .int .u8 0, .bool false, .bool false, .int .i64 0, .bool false, .slice none 0 0, .slice none 0 0], .bool false]) (by simp [results, Try.results14, go_sem, y0, y1, y2, y3, y4, y5, y6, y7]) rfl ?_
    rw [e1.out, e2.out]
    exact ⟨none, 0, none, 0, rfl, Nat.le_refl _, Nat.zero_le _, Nat.le_refl _, Nat.zero_le _, R.nil, R.nil, set8_bl (hbl.trans hb1) (Y := w.heap.size + 1) (by omega) zeroE none 0 none 0⟩
  have hsm := hide (may_small hm)
  have hat := fun W (hb : Bl w W) => shelfAt A c l s W hl hs (hA.bl hb)
  cases hf : entOf l s
  · have e1 := hide (show findE l s = zeroE by unfold findE; rw [hm, hf]; rfl)
    have e2 := hide (show findB l s = false by unfold findB; rw [hm, hf]; rfl)
    rw [hm, okOr_true] at hchk
    rw [at_false hf] at hat
    generalize (atOf l s).1 = n at *
    replace hchk := hide hchk
    replace hat := hide hat
    clear hm hf
    go_enter Try.func14, Try.ntmps14
    go_wp2_with fail
    obtain ⟨W, hW, hbl, hz, s0, s1, at1⟩ := pairbox w s
    rw [← hW]
    clear hW
    refine (hchk.out _ hbl).mono ?_
    rintro e w1 ⟨rfl, hb1⟩
    have S0 := (hb1.cell (by omega)).trans s0
    have S1 := (hb1.cell (by omega)).trans s1
    have hz1 := hb1.size
    go_wp2_with fail
    refine (hat.out _ (hbl.trans hb1)).mono ?_
    rintro e w2 ⟨rfl, hb2⟩
    have hb12 := hb1.trans hb2
    obtain ⟨y0, y1, y2, y3, y4, y5, y6, y7⟩ := (at1.bl hb12).cells
    obtain ⟨f0, f1, f2, f3, f4, f5, f6, f7⟩ := (at1.bl hb12).frozens
    go_wp2_with fail
    refine bodyPost_ret (v := .tuple #[.agg #[.int .u32 0, .int .u8 0, .bool false, .bool false, .int .i64 0, .bool false, .slice none 0 0, .slice none 0 0], .bool false]) (by simp [results, Try.results14, go_sem, y0, y1, y2, y3, y4, y5, y6, y7]) rfl ?_
    rw [e1.out, e2.out]
    exact ⟨none, 0, none, 0, rfl, Nat.le_refl _, Nat.zero_le _, Nat.le_refl _, Nat.zero_le _, R.nil, R.nil, set8_bl (hbl.trans hb12) (Y := w.heap.size + 1) (by omega) zeroE none 0 none 0⟩
  · rename_i y
    have e1 := hide (show findE l s = y by unfold findE; rw [hm, hf]; rfl)
    have e2 := hide (show findB l s = true by unfold findB; rw [hm, hf]; rfl)
    obtain ⟨k, hk, hks⟩ := ent_some hf
    rw [hm, okOr_true] at hchk
    rw [at_found hm hk hks] at hat
    have hkl : k < l.length := (List.getElem?_eq_some_iff.1 hk).1
    have hysm := hide (hsm.out.2 y (List.mem_of_getElem? hk))
    replace hchk := hide hchk
    replace hat := hide hat
    obtain ⟨b, off, rfl, _, hb⟩ := hA.addr (by omega)
    obtain ⟨_, ho, S, sc, G, gc, q1, q2, q3, q4, hS, hG, c0, c1, c2, c3, c4, c5, c6, c7⟩ := hA.entry hk
    clear hm hf hks hk
    go_enter Try.func14, Try.ntmps14
    go_wp2_with fail
    obtain ⟨W, hW, hbl, hz, s0, s1, at1⟩ := pairbox w s
    rw [← hW]
    clear hW
    refine (hchk.out _ hbl).mono ?_
    rintro e w1 ⟨rfl, hb1⟩
    have S0 := (hb1.cell (by omega)).trans s0
    have S1 := (hb1.cell (by omega)).trans s1
    have hz1 := hb1.size
    go_wp2_with fail
    refine (hat.out _ (hbl.trans hb1)).mono ?_
    rintro e w2 ⟨rfl, hb2⟩
    have hb12 := hb1.trans hb2
    have hb02 := hbl.trans hb12
    replace c0 := (hb02.cell hb).trans c0
    replace c1 := (hb02.cell hb).trans c1
    replace c2 := (hb02.cell hb).trans c2
    replace c3 := (hb02.cell hb).trans c3
    replace c4 := (hb02.cell hb).trans c4
    replace c5 := (hb02.cell hb).trans c5
    replace c6 := (hb02.cell hb).trans c6
    replace c7 := (hb02.cell hb).trans c7
    have hz2 := hb12.size
    clear S0 S1 s0 s1
    go_wp2_with fail
    refine (shelfOwn y S G sc gc _ hysm.out (hS.bl hb02) (hG.bl hb02)).mono ?_
    rintro e w3 ⟨A3, d1, B3, d2, rfl, l1, l2, l3, l4, hS3, hG3, hb3⟩
    have hb13 := hb12.trans hb3
    obtain ⟨y0, y1, y2, y3, y4, y5, y6, y7⟩ := (at1.bl hb13).cells
    obtain ⟨f0, f1, f2, f3, f4, f5, f6, f7⟩ := (at1.bl hb13).frozens
    have hset := set8_bl (hbl.trans hb13) (Y := w.heap.size + 1) (by omega) y A3 d1 B3 d2
    clear c0 c1 c2 c3 c4 c5 c6 c7
    go_wp2_with fail
    refine bodyPost_ret (v := .tuple #[.agg #[.int .u32 y.id.t, .int .u8 y.id.r, .bool y.ready, .bool y.pin, .int .i64 y.used, .bool y.known, .slice A3 y.snap.length d1, .slice B3 y.got.length d2], .bool true]) (by simp [results, Try.results14, go_sem, y0, y1, y2, y3, y4, y5, y6, y7]) rfl ?_
    rw [e1.out, e2.out]
    exact ⟨A3, d1, B3, d2, rfl, l1, l2, l3, l4, (set8_R hS3 (Y := w.heap.size + 1) (by omega) y A3 d1 B3 d2).more (by omega), (set8_R hG3 (Y := w.heap.size + 1) (by omega) y A3 d1 B3 d2).more (by omega), hset⟩
end Go.Proofs.Ytegmddgbdjlidaa
