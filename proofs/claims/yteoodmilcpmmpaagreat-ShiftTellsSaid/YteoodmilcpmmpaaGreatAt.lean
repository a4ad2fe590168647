/-
  The walk of shelf.at: a range over a function.
-/
import Derived.Test.YteoodmilcpmmpaaGreatBack
import Derived.Test.YteoodmilcpmmpaaGreatOwnB
namespace Go.Proofs.YteoodmilcpmmpaaGreat

open Go.RowKit Go.Shelf

attribute [local go_sem] Oper.semAt_some

/-- What is said where entry x, the one with number j, stands. -/
def hitOf (x : Entry) (j : Nat) (s : Id) : Option (Int × Bool) := if x.id = s then some ((j : Int), true) else if idLess x.id s then some ((j : Int) + 1, false) else none

def atScan (s : Id) : List Entry → Int × Bool
  | [] => (0, false)
  | x :: r => match hitOf x r.length s with | some p => p | none => atScan s r

/-- Where a section's entry is, or would be. -/
def atOf (l : List Entry) (s : Id) : Int × Bool := atScan s l.reverse

theorem atScan_take {l : List Entry} {s : Id} {j : Nat} {x : Entry} (h : l[j]? = some x) : atScan s (l.take (j + 1)).reverse = match hitOf x j s with | some p => p | none => atScan s (l.take j).reverse := by
  have hj : j < l.length := (List.getElem?_eq_some_iff.1 h).1
  rw [take_snoc h, List.reverse_append, List.reverse_singleton, List.singleton_append, atScan, List.length_reverse, List.length_take, Nat.min_eq_left (by omega)]

theorem at_down {l : List Entry} {s : Id} (n : Nat) : n ≤ l.length → (∀ j x, l.length - n ≤ j → l[j]? = some x → hitOf x j s = none) → atOf l s = atScan s (l.take (l.length - n)).reverse := by
  induction n with
  | zero => intro _ _; unfold atOf; rw [Nat.sub_zero, List.take_length]
  | succ n ih =>
    intro hn h
    rw [ih (by omega) fun j x hj => h j x (by omega)]
    obtain ⟨x, hx⟩ := get_lt (show l.length - (n + 1) < l.length by omega)
    have := atScan_take (s := s) hx
    rw [show l.length - (n + 1) + 1 = l.length - n by omega] at this
    rw [this, h _ x (Nat.le_refl _) hx]

theorem at_none {l : List Entry} {s : Id} (h : ∀ j x, l[j]? = some x → hitOf x j s = none) : atOf l s = (0, false) := by
  rw [at_down l.length (Nat.le_refl _) fun j x _ => h j x, Nat.sub_self]
  rfl

theorem at_hit {l : List Entry} {s : Id} {k : Nat} {x : Entry} {p : Int × Bool} (hx : l[k]? = some x) (hp : hitOf x k s = some p) (h : ∀ j y, k < j → l[j]? = some y → hitOf y j s = none) : atOf l s = p := by
  have hk : k < l.length := (List.getElem?_eq_some_iff.1 hx).1
  rw [at_down (l.length - (k + 1)) (by omega) fun j y hj => h j y (by omega), show l.length - (l.length - (k + 1)) = k + 1 by omega, atScan_take hx, hp]

theorem Bl.others {w w' : World} (h : Bl w w') : KeepsOthers w w' := ⟨h.size, fun k _ hk _ => (h.block k (Array.getElem?_eq_some_iff.1 hk).1).trans hk⟩

set_option maxRecDepth 100000 in
set_option maxHeartbeats 4000000 in
theorem shelfAt (A : Option Addr) (c : Nat) (l : List Entry) (s : Id) (w : World) (hl : l.length ≤ 1099511627776) (hs : s.ok) (hA : R cEntry 0 w A l) :
    Calls Tryz.prog 90 #[.slice A l.length c, .agg #[.int .u32 s.t, .int .u8 s.r]] w fun e w' => e = .returned (.tuple #[.int .i64 (atOf l s).1, .bool (atOf l s).2]) ∧ Bl w w' := by
  have hel : ∀ x : Fin l.length, ∃ q : Option Addr × Nat × Option Addr × Nat, ∀ b off, A = some ⟨b, off, none⟩ → b < w.heap.size ∧ (l.get x).ok ∧
      w.cell? ⟨b, off + x.1 * 8, none⟩ = some (.int .u32 (l.get x).id.t) ∧ w.cell? ⟨b, off + x.1 * 8 + 1, none⟩ = some (.int .u8 (l.get x).id.r) ∧ w.cell? ⟨b, off + x.1 * 8 + 2, none⟩ = some (.bool (l.get x).ready) ∧ w.cell? ⟨b, off + x.1 * 8 + 3, none⟩ = some (.bool (l.get x).pin) ∧ w.cell? ⟨b, off + x.1 * 8 + 4, none⟩ = some (.int .i64 (l.get x).used) ∧ w.cell? ⟨b, off + x.1 * 8 + 5, none⟩ = some (.bool (l.get x).known) ∧ w.cell? ⟨b, off + x.1 * 8 + 6, none⟩ = some (.slice q.1 (l.get x).snap.length q.2.1) ∧ w.cell? ⟨b, off + x.1 * 8 + 7, none⟩ = some (.slice q.2.2.1 (l.get x).got.length q.2.2.2) := by
    intro x
    obtain ⟨b, off, rfl, _, hb⟩ := hA.addr (by have := x.2; omega)
    obtain ⟨_, ho, S, sc, G, gc, _, _, _, _, _, _, c0, c1, c2, c3, c4, c5, c6, c7⟩ := hA.entry (k := x.1) (x := l.get x) (by rw [List.get_eq_getElem]; exact List.getElem?_eq_getElem x.2)
    refine ⟨(S, sc, G, gc), fun b' off' e => ?_⟩
    injection e with e
    injection e with e1 e2 _
    subst e1 e2
    exact ⟨hb, ho, c0, c1, c2, c3, c4, c5, c6, c7⟩
  obtain ⟨q, hq⟩ := Classical.axiomOfChoice hel
  clear hel
  have hsl : l.length = l.length := rfl
  have hge : ∀ (x : Fin l.length), l[x.1]? = some (l.get x) := fun x => by rw [List.get_eq_getElem]; exact List.getElem?_eq_getElem x.2
  obtain ⟨r, hr⟩ : ∃ r, r = atOf l s := ⟨_, rfl⟩
  rw [← hr]
  -- what the scan comes to
  have hnone : (∀ x : Fin l.length, hitOf (l.get x) x.1 s = none) → r = (0, false) := fun h => by
    rw [hr]
    refine at_none fun j x hx => ?_
    have hj : j < l.length := (List.getElem?_eq_some_iff.1 hx).1
    have := hge ⟨j, hj⟩
    rw [hx] at this
    rw [Option.some.inj this]
    exact h ⟨j, hj⟩
  have hhit : ∀ (k : Nat) (ini : List (Fin l.length)) (last : Fin l.length) (p : Int × Bool), (rv l.length).take k = ini ++ [last] → (∀ x ∈ ini, hitOf (l.get x) x.1 s = none) → hitOf (l.get last) last.1 s = some p → r = p := fun k ini last p hk hi hp => by
    rw [hr]
    have hlen := congrArg List.length hk
    rw [List.length_take, rv_length, List.length_append, List.length_singleton] at hlen
    have hlast : last.1 = l.length - 1 - ini.length := by
      have h1 : ((rv l.length).take k)[ini.length]? = some last := by rw [hk, List.getElem?_append_right (Nat.le_refl _), Nat.sub_self]; rfl
      rw [List.getElem?_take_of_lt (by omega), rv_get (by omega)] at h1
      rw [← Option.some.inj h1]
    refine at_hit (hge last) hp fun j y hj hy => ?_
    have hjl : j < l.length := (List.getElem?_eq_some_iff.1 hy).1
    have hyj := hge ⟨j, hjl⟩
    rw [hy] at hyj
    rw [Option.some.inj hyj]
    refine hi ⟨j, hjl⟩ ?_
    have h1 : ((rv l.length).take k)[l.length - 1 - j]? = some ⟨j, hjl⟩ := by
      rw [List.getElem?_take_of_lt (by omega), rv_get (by omega)]
      congr 2
      omega
    rw [hk, List.getElem?_append_left (by omega)] at h1
    exact List.mem_of_getElem? h1
  replace hnone := hide hnone
  replace hhit := hide hhit
  clear hr hge hsl
  obtain ⟨le, hle⟩ : ∃ le : Fin l.length → Entry, le = l.get := ⟨_, rfl⟩
  rw [← hle] at hnone hhit
  have hqq := hide hq
  rw [← hle] at hqq
  clear hle hq
  have hA0 : 0 < l.length → ∃ b off, A = some ⟨b, off, none⟩ := fun h => by
    obtain ⟨b, off, e, _⟩ := hA.addr h
    exact ⟨b, off, e⟩
  clear hA
  generalize l.length = N at *
  refine (callsIn_wide (n := 6)).1 ?_
  refine callsIn_of_wp_marks Tryz.func90 rfl trivial ?_ rfl
  simp only [Tryz.ntmps90, List.size_toArray, List.length_cons, List.length_nil, Nat.reduceAdd, Nat.reduceSub, Array.replicate_succ, Array.replicate_zero, List.push_toArray, List.append_toArray, List.nil_append, List.cons_append]
  gi_wp2_with ((refine ⟨trivial, ?_⟩; gi_at_call 149; refine (back Fence.wide _ trivial rfl _ _ _ _).mono ?_; rintro e w' ⟨rfl, rfl⟩))
  obtain ⟨W0, hW0⟩ : ∃ W0, W0 = (((w.alloc (.cells #[.int .u32 s.t, .int .u8 s.r] 25)).alloc (.cells #[.int .i64 0] 3)).alloc (.cells #[.bool false] 4)).alloc (.cells #[.slice A N c] 56) := ⟨_, rfl⟩
  rw [← hW0]
  have hbl : Bl w W0 := by rw [hW0]; exact ((((Bl.refl _).alloc _).alloc _).alloc _).alloc _
  have hsz : W0.heap.size = w.heap.size + 4 := by rw [hW0]; simp
  have hsb : Bl (w.alloc (.cells #[.int .u32 s.t, .int .u8 s.r] 25)) W0 := by rw [hW0]; exact (((Bl.refl _).alloc _).alloc _).alloc _
  have s0 : W0.cell? ⟨w.heap.size, 0, none⟩ = some (.int .u32 s.t) := (hsb.cell (by rw [World.size_alloc]; omega)).trans (by rw [cell_of_row _ w.heap.size 0 _ _ (0, 0) (heap_alloc_new w _)]; rfl)
  have s1 : W0.cell? ⟨w.heap.size, 1, none⟩ = some (.int .u8 s.r) := (hsb.cell (by rw [World.size_alloc]; omega)).trans (by rw [cell_of_row _ w.heap.size 1 _ _ (0, 0) (heap_alloc_new w _)]; rfl)
  clear hsb
  have r0 : Boxed W0 (w.heap.size + 1) 3 (.int .i64 0) := by
    rw [hW0]
    have := ((Boxed.new (w.alloc (.cells #[.int .u32 s.t, .int .u8 s.r] 25)) 3 (.int .i64 0)).alloc (.cells #[.bool false] 4)).alloc (.cells #[.slice A N c] 56)
    rw [World.size_alloc] at this
    exact this
  have r1 : Boxed W0 (w.heap.size + 1 + 1) 4 (.bool false) := by
    rw [hW0]
    have := (Boxed.new ((w.alloc (.cells #[.int .u32 s.t, .int .u8 s.r] 25)).alloc (.cells #[.int .i64 0] 3)) 4 (.bool false)).alloc (.cells #[.slice A N c] 56)
    rw [World.size_alloc, World.size_alloc] at this
    exact this
  have bk : W0.cell? ⟨w.heap.size + 1 + 1 + 1, 0, none⟩ = some (.slice A N c) := by
    have := (Boxed.new (((w.alloc (.cells #[.int .u32 s.t, .int .u8 s.r] 25)).alloc (.cells #[.int .i64 0] 3)).alloc (.cells #[.bool false] 4)) 56 (.slice A N c)).cell
    rw [World.size_alloc, World.size_alloc, World.size_alloc] at this
    rw [hW0]
    exact this
  clear hW0
  have hsw : ∀ x : Fin N, hitOf (le x) x.1 s = none ∨ ∃ p, hitOf (le x) x.1 s = some p := fun x => by
    cases hitOf (le x) x.1 s
    · exact .inl rfl
    · exact .inr ⟨_, rfl⟩
  clear hsw
  have heqid := run_eqId
  have hst : ∀ {n₀ : Nat} {X Y : World}, n₀ ≤ X.heap.size → Bl X Y → Below n₀ X Y := fun h k => k.mono h
  clear hst
  refine wpIn_rangeFunc_ownH rfl (by omega) (gf := 195) (lb := #[.pointer (some ⟨w.heap.size + 1 + 1 + 1, 0, none⟩)]) rfl trivial (enters_of Tryz.func195 (by kernel_rfl) rfl)
    (back_stops Fence.wide _ trivial rfl (by omega) (w.heap.size + 1 + 1 + 1) N c A hl le (fun x => (q x).1) (fun x => (q x).2.2.1) (fun x => (q x).2.1) (fun x => (q x).2.2.2) W0 bk (fun h => by
      obtain ⟨b, off, e⟩ := hA0 h
      have hbw : b < w.heap.size := (hqq.out ⟨0, h⟩ b off e).1
      refine ⟨b, off, e, by omega, fun x => ?_⟩
      obtain ⟨_, _, c0, c1, c2, c3, c4, c5, c6, c7⟩ := hqq.out x b off e
      exact ⟨(hbl.cell hbw).trans c0, (hbl.cell hbw).trans c1, (hbl.cell hbw).trans c2, (hbl.cell hbw).trans c3, (hbl.cell hbw).trans c4, (hbl.cell hbw).trans c5, (hbl.cell hbw).trans c6, (hbl.cell hbw).trans c7⟩)) belowK_t (belowK_b (Nat.le_refl _)) (Below.refl _ _) (fun _ => rfl)
    (fun pre W => (∀ x ∈ pre, hitOf (le x) x.1 s = none) ∧ Below W0.heap.size W0 W)
    (fun c pre W => (c = .ret ∧ ∃ ini last p, pre = ini ++ [last] ∧ (∀ x ∈ ini, hitOf (le x) x.1 s = none) ∧ hitOf (le last) last.1 s = some p ∧ W.cell? ⟨w.heap.size + 1, 0, none⟩ = some (.int .i64 p.1) ∧ W.cell? ⟨w.heap.size + 1 + 1, 0, none⟩ = some (.bool p.2)) ∧ Below w.heap.size w W)
    (OwnFrom.and (fun s A B row hs _ _ => hs) (ownFrom_below (Nat.le_refl _) (Nat.le_refl _)))
    (fun c => OwnFrom.and (Own.from (fun s A B row hs hg hr => by obtain ⟨h1, ini, last, p, e1, e2, e3, e4, e5⟩ := hs; exact ⟨h1, ini, last, p, e1, e2, e3, cell_kept e4 hg hr, cell_kept e5 hg hr⟩) _) (ownFrom_below (Nat.le_refl _) (by omega)))
    ⟨(fun x hx => by cases hx), Below.refl _ _⟩
    (fun x a' W => ∃ Bx, W0.heap.size ≤ Bx ∧ (W.cell? ⟨Bx, 0, none⟩ = some (.int .u32 (le x).id.t) ∧ W.cell? ⟨Bx, 1, none⟩ = some (.int .u8 (le x).id.r)) ∧ a' = { tmps := #[.slice A N c, .agg #[.int .u32 s.t, .int .u8 s.r], undef, .pointer (some ⟨w.heap.size, 0, none⟩), .pointer (some ⟨w.heap.size + 1, 0, none⟩), .pointer (some ⟨w.heap.size + 1 + 1, 0, none⟩), .int .i64 (x.1 : Int), .pointer (some ⟨Bx, 0, none⟩), .slice A N c, .func (.func 195) #[] #[.pointer (some ⟨w.heap.size + 1 + 1 + 1, 0, none⟩)], .int .i64 (x.1 : Int), .agg #[.int .u32 (le x).id.t, .int .u8 (le x).id.r, .bool (le x).ready, .bool (le x).pin, .int .i64 (le x).used, .bool (le x).known, .slice (q x).1 (le x).snap.length (q x).2.1, .slice (q x).2.2.1 (le x).got.length (q x).2.2.2], undef, undef, undef, undef, undef, undef, undef, undef, undef, undef, undef], defers := [] })
    (fun x a' _ X Y row hs hg hr => by obtain ⟨Bx, h1, ⟨h2, h3⟩, h4⟩ := hs; exact ⟨Bx, h1, ⟨cell_kept h2 hg fun r e => (hr r e).2, cell_kept h3 hg fun r e => (hr r e).2⟩, h4⟩)
    ?assign ?body ?done ?stop
  case assign =>
    rintro l pre x W K ⟨hp, hB⟩ hK
    gi_wp2
    have hbx : Bl W (W.alloc (.cells #[Value.int IntKind.u32 (le x).id.t, Value.int IntKind.u8 (le x).id.r, Value.bool (le x).ready, Value.bool (le x).pin, Value.int IntKind.i64 (le x).used, Value.bool (le x).known, Value.slice (q x).1 (le x).snap.length (q x).2.1, Value.slice (q x).2.2.1 (le x).got.length (q x).2.2.2] 62)) := (Bl.refl _).alloc _
    exact hK _ _ (hbx.others.from _) (hbx.mono hB.size) ⟨hp, hB.trans (hbx.mono hB.size)⟩ ⟨W.heap.size, hB.size, ⟨by rw [cell_of_row _ W.heap.size 0 _ _ (0, 0) (heap_alloc_new W _)]; rfl, by rw [cell_of_row _ W.heap.size 1 _ _ (0, 0) (heap_alloc_new W _)]; rfl⟩, rfl⟩
  case body =>
    rintro lp pre x a' W hlp ⟨rr, hrr⟩ ⟨hp, hB⟩ ⟨Bx, hBx, ⟨b0, b1⟩, rfl⟩ hlt
    obtain ⟨b, off, eA⟩ := hA0 (by have := x.2; omega)
    have hox := (hqq.out x b off eA).2.1.1
    have S0 := (hB.cell (p := ⟨w.heap.size, 0, none⟩) (by show w.heap.size < _; omega)).trans s0
    have S1 := (hB.cell (p := ⟨w.heap.size, 1, none⟩) (by show w.heap.size < _; omega)).trans s1
    have R0 := (hB.cell (p := ⟨w.heap.size + 1, 0, none⟩) (by show w.heap.size + 1 < _; omega)).trans r0.cell
    have R1 := (hB.cell (p := ⟨w.heap.size + 1 + 1, 0, none⟩) (by show w.heap.size + 1 + 1 < _; omega)).trans r1.cell
    have F0 := (hB.frozen (p := ⟨w.heap.size + 1, 0, none⟩) (by show w.heap.size + 1 < _; omega)).trans r0.frozen
    have F1 := (hB.frozen (p := ⟨w.heap.size + 1 + 1, 0, none⟩) (by show w.heap.size + 1 + 1 < _; omega)).trans r1.frozen
    have hxl : (x.1 : Int) < 1099511627777 := by have := x.2; omega
    have hzW := hB.size
    have hpx := hide hp
    clear hp hA0 eA
    cases hz : neqId (le x).id s
    · have hh : hitOf (le x) x.1 s = some ((x.1 : Int), true) := by unfold hitOf; rw [if_pos (neqId_false hz)]
      replace hh := hide hh
      have hz' : (!neqId (le x).id s) = true := by rw [hz]; rfl
      clear hz
      gi_wp2
      exact ⟨((KeepsOthers.setCell _ _ _).trans (KeepsOthers.setCell _ _ _)).from _, ⟨rfl, pre, x, _, rfl, hpx.out, hh.out, cell_set_other (by intro e; injection e with e; omega) (cell_set_same R0), cell_set_same (cell_set_other (by intro e; injection e with e; omega) R1)⟩, ((hbl.trans hB).setCell (p := ⟨w.heap.size + 1, 0, none⟩) (by show w.heap.size ≤ w.heap.size + 1; omega) _).setCell (p := ⟨w.heap.size + 1 + 1, 0, none⟩) (by show w.heap.size ≤ w.heap.size + 1 + 1; omega) _⟩
    · have hne := neqId_true hz
      have hz' : (!neqId (le x).id s) = false := by rw [hz]; rfl
      have hlc := fun V => stampLess (le x).id s V hox hs
      cases hq2 : idLess (le x).id s
      · have hh : hitOf (le x) x.1 s = none := by unfold hitOf; rw [if_neg hne, hq2]; rfl
        replace hh := hide hh
        rw [hq2] at hlc
        replace hlc := hide hlc
        clear hz hne hq2
        gi_wp2_with ((refine ⟨trivial, ?_⟩; gi_at_call 66; refine (CallsIn.inRound lp (callsIn_wide.2 (hlc.out _))).mono ?_; rintro e w1 ⟨rfl, hb1⟩))
        exact ⟨hb1.others.from _, hb1.mono hzW, fun y hy => (List.mem_append.1 hy).elim (hpx.out y) (fun e => by rw [List.mem_singleton] at e; subst e; exact hh.out), hB.trans (hb1.mono hzW)⟩
      · have hh : hitOf (le x) x.1 s = some ((x.1 : Int) + 1, false) := by unfold hitOf; rw [if_neg hne, hq2]; rfl
        replace hh := hide hh
        rw [hq2] at hlc
        replace hlc := hide hlc
        clear hz hne hq2
        gi_wp2_with ((refine ⟨trivial, ?_⟩; gi_at_call 66; refine (CallsIn.inRound lp (callsIn_wide.2 (hlc.out _))).mono ?_; rintro e w1 ⟨rfl, hb1⟩; have R0' := (hb1.cell (b := w.heap.size + 1) (o := 0) (by omega)).trans R0; have R1' := (hb1.cell (b := w.heap.size + 1 + 1) (o := 0) (by omega)).trans R1; have F0' := (hb1.frozen (b := w.heap.size + 1) (o := 0) (by omega)).trans F0; have F1' := (hb1.frozen (b := w.heap.size + 1 + 1) (o := 0) (by omega)).trans F1))
        exact ⟨(hb1.others.trans ((KeepsOthers.setCell _ _ _).trans (KeepsOthers.setCell _ _ _))).from _, ⟨rfl, pre, x, _, rfl, hpx.out, hh.out, cell_set_other (by intro e; injection e with e; omega) (cell_set_same R0'), cell_set_same (cell_set_other (by intro e; injection e with e; omega) R1')⟩, (((hbl.trans hB).trans hb1).setCell (p := ⟨w.heap.size + 1, 0, none⟩) (by show w.heap.size ≤ w.heap.size + 1; omega) _).setCell (p := ⟨w.heap.size + 1 + 1, 0, none⟩) (by show w.heap.size ≤ w.heap.size + 1 + 1; omega) _⟩
  case done =>
    rintro D ys W hD rfl ⟨hp, hB⟩ hK
    have hrz := hide (hnone.out fun x => hp x (by
      have hx : (rv N)[N - 1 - x.1]? = some x := by
        have := x.2
        rw [rv_get (by omega)]
        congr 1
        exact Fin.ext (by show N - 1 - (N - 1 - x.1) = x.1; omega)
      exact List.mem_of_getElem? hx))
    have R0 := (hB.cell (p := ⟨w.heap.size + 1, 0, none⟩) (by show w.heap.size + 1 < _; omega)).trans r0.cell
    have R1 := (hB.cell (p := ⟨w.heap.size + 1 + 1, 0, none⟩) (by show w.heap.size + 1 + 1 < _; omega)).trans r1.cell
    have F0 := (hB.frozen (p := ⟨w.heap.size + 1, 0, none⟩) (by show w.heap.size + 1 < _; omega)).trans r0.frozen
    have F1 := (hB.frozen (p := ⟨w.heap.size + 1 + 1, 0, none⟩) (by show w.heap.size + 1 + 1 < _; omega)).trans r1.frozen
    have hbW := hbl.trans hB
    clear hp
    gi_wp2
    have hK' := (((KeepsOthers.setCell W ⟨w.heap.size + 1, 0, none⟩ (.int .i64 0)).trans (KeepsOthers.setCell _ ⟨w.heap.size + 1 + 1, 0, none⟩ (.bool false)))).same D _ hK rfl
    refine ⟨by simp, .inl ⟨_, _, rfl, run_takeDeferred hK', ?_⟩⟩
    have q0 := cell_kept (cell_set_other (b := w.heap.size + 1 + 1) (o := 0) (u := .bool false) (by intro e; injection e with e; omega) (cell_set_same (u := .int .i64 0) R0)) (grownBy_putObj' _ D (.deferred none)) (fun r e => by cases e; exact ⟨_, hK', rfl⟩)
    have q1 := cell_kept (cell_set_same (u := .bool false) (cell_set_other (b := w.heap.size + 1) (o := 0) (u := .int .i64 0) (by intro e; injection e with e; omega) R1)) (grownBy_putObj' _ D (.deferred none)) (fun r e => by cases e; exact ⟨_, hK', rfl⟩)
    refine ⟨.tuple #[.int .i64 0, .bool false], ?_, by rw [hrz.out], ?_⟩
    · simp [results, Tryz.results90, go_sem, q0, q1]
    · exact Below.trans ((hbW.setCell (p := ⟨w.heap.size + 1, 0, none⟩) (by show w.heap.size ≤ w.heap.size + 1; omega) _).setCell (p := ⟨w.heap.size + 1 + 1, 0, none⟩) (by show w.heap.size ≤ w.heap.size + 1 + 1; omega) _) (belowK_b (w := w) (Nat.le_refl _) _ D _ _ (by omega) hK' rfl rfl)
  case stop =>
    rintro D c' pre W hD ⟨k, hk, rfl⟩ ⟨⟨rfl, ini, last, p, e1, e2, e3, h4, h5⟩, hB⟩ hK
    have hrz := hide (hhit.out k ini last p e1 e2 e3)
    gi_wp2
    refine ⟨by simp, .inl ⟨_, _, rfl, run_takeDeferred hK, ?_⟩⟩
    have q0 := cell_kept h4 (grownBy_putObj' _ D (.deferred none)) (fun r e => by cases e; exact ⟨_, hK, rfl⟩)
    have q1 := cell_kept h5 (grownBy_putObj' _ D (.deferred none)) (fun r e => by cases e; exact ⟨_, hK, rfl⟩)
    refine ⟨.tuple #[.int .i64 p.1, .bool p.2], ?_, by rw [hrz.out], ?_⟩
    · simp [results, Tryz.results90, go_sem, q0, q1]
    · exact hB.trans (belowK_b (w := w) (Nat.le_refl _) W D _ _ (by omega) hK rfl rfl)

end Go.Proofs.YteoodmilcpmmpaaGreat
