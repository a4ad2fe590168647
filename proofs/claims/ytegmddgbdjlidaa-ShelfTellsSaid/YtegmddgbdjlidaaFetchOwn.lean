/-
  The walk of fetch.own.
-/
import Derived.Test.YtegmddgbdjlidaaSnap
import Derived.Test.YtegmddgbdjlidaaTwin
namespace Go.Proofs.Ytegmddgbdjlidaa
open Go.RowKit

/-- A new block with one element's cells, read as a list. -/
theorem R.single {α : Type} {C : Codec α} {lo : Nat} {w : World} {x : α} {cs : List Value} {t : TypeId} (h : C.rd w (Fresh lo w) x cs) (hlo : lo ≤ w.heap.size) :
    R C lo (w.alloc (.cells cs.toArray t)) (some ⟨w.heap.size, 0, none⟩) [x] := by
  refine ⟨cs, RdL.one1 (C.keep (fun b hb => Below.heap_alloc w _ b hb.2) (fun b hb => ⟨hb.1, by have := hb.2; rw [World.size_alloc]; omega⟩) h), fun _ => ⟨w.heap.size, 0, rfl, ⟨hlo, by rw [World.size_alloc]; omega⟩, fun j u hu => ⟨?_, ?_⟩⟩⟩
  · rw [Nat.zero_add, cell_of_row _ w.heap.size j cs.toArray t (0, 0) (heap_alloc_new w _)]
    simpa using hu
  · rw [Nat.zero_add]
    exact frozen_new w _ t j

theorem cell_mid (w : World) (o q : Obj) (cs : Array Value) (t : TypeId) (j : Nat) : (((w.alloc o).alloc (.cells cs t)).alloc q).cell? ⟨w.heap.size + 1, j, none⟩ = cs[j]? := by
  have h1 := ((Bl.refl ((w.alloc o).alloc (.cells cs t))).alloc q).cell (b := w.heap.size + 1) (o := j) (by rw [World.size_alloc, World.size_alloc]; omega)
  have h2 := cell_of_row _ (w.alloc o).heap.size j cs t (0, 0) (heap_alloc_new (w.alloc o) (.cells cs t))
  rw [World.size_alloc] at h2
  exact h1.trans h2
theorem frozen_mid (w : World) (o q : Obj) (cs : Array Value) (t : TypeId) (j : Nat) : (((w.alloc o).alloc (.cells cs t)).alloc q).frozen? ⟨w.heap.size + 1, j, none⟩ = false := by
  have h1 := ((Bl.refl ((w.alloc o).alloc (.cells cs t))).alloc q).frozen (b := w.heap.size + 1) (o := j) (by rw [World.size_alloc, World.size_alloc]; omega)
  have h2 := frozen_new (w.alloc o) cs t j
  rw [World.size_alloc] at h2
  exact h1.trans h2

theorem shelfMay_one (x : Entry) : shelfMay [x] = entryMay x := by
  unfold shelfMay shelfFrom shelfFrom after
  simp
theorem small_of_may {x : Entry} (h : entryMay x = true) : smallE x := by
  unfold entryMay at h
  rw [Bool.and_eq_true] at h
  have h := h.2
  unfold entryTail at h
  cases hk : x.known
  · rw [hk] at h
    simp at h
    obtain ⟨h1, h2⟩ := h
    refine ⟨⟨by rw [h1]; simp, by rw [h1]; simp⟩, by rw [h2]; simp⟩
  · rw [hk] at h
    simp only [if_true, Bool.and_eq_true, decide_eq_true_eq] at h
    obtain ⟨⟨⟨_, hm⟩, hn⟩, hg⟩ := h
    have hall := clockFrom_all _ (show clockFrom (-1) x.snap = true from hm)
    have hlen := clockMay_length hm
    refine ⟨⟨by omega, fun y hy => ?_⟩, by omega⟩
    have := hall y hy
    unfold spansMay at this
    simp only [Bool.and_eq_true, decide_eq_true_eq] at this
    omega

def zeroE : Entry := ⟨⟨0, 0⟩, false, false, 0, false, [], []⟩
/-- What a call that hands back an entry, and an error, says. -/
def Ent2 (y : Entry) (n : Int) (w : World) (e : Ending) (w' : World) : Prop := ∃ A c B d, e = .returned (.tuple #[.agg #[.int .u32 y.id.t, .int .u8 y.id.r, .bool y.ready, .bool y.pin, .int .i64 y.used, .bool y.known, .slice A y.snap.length c, .slice B y.got.length d], .int .i64 n]) ∧ y.snap.length ≤ c ∧ c ≤ maxLen ∧ y.got.length ≤ d ∧ d ≤ maxLen ∧ R cTimes w.heap.size w' A y.snap ∧ R cBool w.heap.size w' B y.got ∧ Bl w w'
/-- fetch.own. -/
def ownE (x : Entry) : Entry := if entryMay x then x else zeroE

set_option maxRecDepth 100000 in
set_option maxHeartbeats 1000000 in
theorem fetchOwn (x : Entry) (A B : Option Addr) (c d : Nat) (w : World) (hx : x.ok) (h1 : x.snap.length ≤ c) (h2 : c ≤ maxLen) (h3 : x.got.length ≤ d) (h4 : d ≤ maxLen) (hA : R cTimes 0 w A x.snap) (hB : R cBool 0 w B x.got) :
    Calls Try.prog 58 #[.agg #[.int .u32 x.id.t, .int .u8 x.id.r, .bool x.ready, .bool x.pin, .int .i64 x.used, .bool x.known, .slice A x.snap.length c, .slice B x.got.length d]] w (Ent2 (ownE x) (okOr 8 (entryMay x)) w) := by
  have hb2 : ∀ o p, Bl w ((w.alloc o).alloc p) := fun o p => ((Bl.refl _).alloc o).alloc p
  have hrd : ∀ o p, R cEntry 0 (((w.alloc o).alloc p).alloc (.cells #[Value.int IntKind.u32 x.id.t, Value.int IntKind.u8 x.id.r, Value.bool x.ready, Value.bool x.pin, Value.int IntKind.i64 x.used, Value.bool x.known, Value.slice A x.snap.length c, Value.slice B x.got.length d] 31)) (some ⟨w.heap.size + 1 + 1, 0, none⟩) [x] := fun o p => by
    have := R.single (C := cEntry) (lo := 0) (w := (w.alloc o).alloc p) (x := x) (cs := entryCells x A c B d) (t := 31) ⟨hx, A, c, B, d, h1, h2, h3, h4, rfl, hA.bl (hb2 o p), hB.bl (hb2 o p)⟩ (Nat.zero_le _)
    rw [World.size_alloc, World.size_alloc] at this
    exact this
  have hchk : ∀ o p, Calls Try.prog 18 #[.slice (some ⟨w.heap.size + 1 + 1, 0, none⟩) 1 1] (((w.alloc o).alloc p).alloc (.cells #[Value.int IntKind.u32 x.id.t, Value.int IntKind.u8 x.id.r, Value.bool x.ready, Value.bool x.pin, Value.int IntKind.i64 x.used, Value.bool x.known, Value.slice A x.snap.length c, Value.slice B x.got.length d] 31)) fun e w' => e = .returned (.int .i64 (okOr 8 (shelfMay [x]))) ∧ Bl (((w.alloc o).alloc p).alloc (.cells #[Value.int IntKind.u32 x.id.t, Value.int IntKind.u8 x.id.r, Value.bool x.ready, Value.bool x.pin, Value.int IntKind.i64 x.used, Value.bool x.known, Value.slice A x.snap.length c, Value.slice B x.got.length d] 31)) w' := fun o p => shelfCheck _ 1 [x] _ (by simp [maxLen]) (hrd o p)
  rw [shelfMay_one] at hchk
  cases hm : entryMay x
  · have e1 : ownE x = zeroE := by unfold ownE; rw [hm]; rfl
    rw [e1]
    clear e1
    rw [hm] at hchk
    replace hchk := hide hchk
    replace hrd := hide hrd
    replace hb2 := hide hb2
    go_enter Try.func58, Try.ntmps58
    go_wp2_with fail
    refine (hchk.out _ _).mono ?_
    rintro e w1 ⟨rfl, hb1⟩
    rw [okOr_false]
    have t0 : w1.cell? ⟨w.heap.size + 1, 0, none⟩ = some (Value.int IntKind.u32 0) := (hb1.cell (by simp)).trans ((cell_mid _ _ _ _ _ _).trans rfl)
    have t1 : w1.cell? ⟨w.heap.size + 1, 1, none⟩ = some (Value.int IntKind.u8 0) := (hb1.cell (by simp)).trans ((cell_mid _ _ _ _ _ _).trans rfl)
    have t2 : w1.cell? ⟨w.heap.size + 1, 2, none⟩ = some (Value.bool false) := (hb1.cell (by simp)).trans ((cell_mid _ _ _ _ _ _).trans rfl)
    have t3 : w1.cell? ⟨w.heap.size + 1, 3, none⟩ = some (Value.bool false) := (hb1.cell (by simp)).trans ((cell_mid _ _ _ _ _ _).trans rfl)
    have t4 : w1.cell? ⟨w.heap.size + 1, 4, none⟩ = some (Value.int IntKind.i64 0) := (hb1.cell (by simp)).trans ((cell_mid _ _ _ _ _ _).trans rfl)
    have t5 : w1.cell? ⟨w.heap.size + 1, 5, none⟩ = some (Value.bool false) := (hb1.cell (by simp)).trans ((cell_mid _ _ _ _ _ _).trans rfl)
    have t6 : w1.cell? ⟨w.heap.size + 1, 6, none⟩ = some (Value.slice none 0 0) := (hb1.cell (by simp)).trans ((cell_mid _ _ _ _ _ _).trans rfl)
    have t7 : w1.cell? ⟨w.heap.size + 1, 7, none⟩ = some (Value.slice none 0 0) := (hb1.cell (by simp)).trans ((cell_mid _ _ _ _ _ _).trans rfl)
    have tf : ∀ o, w1.frozen? ⟨w.heap.size + 1, o, none⟩ = false := fun o => (hb1.frozen (by simp)).trans (frozen_mid _ _ _ _ _ _)
    have hbw := (((Bl.refl w).alloc _).alloc _).alloc _ |>.trans hb1
    go_wp2_with fail
    refine bodyPost_ret (v := .tuple #[.agg #[Value.int IntKind.u32 0, Value.int IntKind.u8 0, Value.bool false, Value.bool false, Value.int IntKind.i64 0, Value.bool false, Value.slice none 0 0, Value.slice none 0 0], .int .i64 8]) (by simp [results, Try.results58, go_sem, t0, t1, t2, t3, t4, t5, t6, t7]) rfl ?_
    refine ⟨none, 0, none, 0, rfl, Nat.le_refl _, Nat.zero_le _, Nat.le_refl _, Nat.zero_le _, R.nil, R.nil, ?_⟩
    repeat (refine Bl.setCell ?_ (by simp) _)
    exact hbw
  · have e1 : ownE x = x := by unfold ownE; rw [hm]; rfl
    rw [e1]
    clear e1
    have hsm : smallS [x] := ⟨by simp, fun y hy => by simp at hy; subst hy; exact small_of_may hm⟩
    rw [hm] at hchk
    replace hchk := hide hchk
    have htw : ∀ o p w1, Bl (((w.alloc o).alloc p).alloc (.cells #[Value.int IntKind.u32 x.id.t, Value.int IntKind.u8 x.id.r, Value.bool x.ready, Value.bool x.pin, Value.int IntKind.i64 x.used, Value.bool x.known, Value.slice A x.snap.length c, Value.slice B x.got.length d] 31)) w1 → Calls Try.prog 16 #[.slice (some ⟨w.heap.size + 1 + 1, 0, none⟩) 1 1] w1 (New cEntry [x] w1) := fun o p w1 hb => shelfTwin _ 1 [x] w1 hsm ((hrd o p).bl hb)
    replace htw := hide htw
    replace hrd := hide hrd
    replace hb2 := hide hb2
    go_enter Try.func58, Try.ntmps58
    go_wp2_with fail
    refine (hchk.out _ _).mono ?_
    rintro e w1 ⟨rfl, hb1⟩
    rw [okOr_true]
    go_wp2_with fail
    refine (htw.out _ _ _ hb1).mono ?_
    rintro e w2 ⟨A', c', rfl, h5, h6, hr, hb3⟩
    have hb13 := hb1.trans hb3
    obtain ⟨b', off', rfl, hlo, hb'⟩ := hr.addr (by simp)
    obtain ⟨_, ho, S, sc, G, gc, s1, s2, g1, g2, hS, hG, c0, c1, c2, c3, c4, c5, c6, c7⟩ := hr.entry (k := 0) (x := x) rfl
    simp only [Nat.zero_mul, Nat.add_zero] at c0 c1 c2 c3 c4 c5 c6 c7
    have t0 : w2.cell? ⟨w.heap.size + 1, 0, none⟩ = some (Value.int IntKind.u32 0) := (hb13.cell (by simp)).trans ((cell_mid _ _ _ _ _ _).trans rfl)
    have t1 : w2.cell? ⟨w.heap.size + 1, 1, none⟩ = some (Value.int IntKind.u8 0) := (hb13.cell (by simp)).trans ((cell_mid _ _ _ _ _ _).trans rfl)
    have t2 : w2.cell? ⟨w.heap.size + 1, 2, none⟩ = some (Value.bool false) := (hb13.cell (by simp)).trans ((cell_mid _ _ _ _ _ _).trans rfl)
    have t3 : w2.cell? ⟨w.heap.size + 1, 3, none⟩ = some (Value.bool false) := (hb13.cell (by simp)).trans ((cell_mid _ _ _ _ _ _).trans rfl)
    have t4 : w2.cell? ⟨w.heap.size + 1, 4, none⟩ = some (Value.int IntKind.i64 0) := (hb13.cell (by simp)).trans ((cell_mid _ _ _ _ _ _).trans rfl)
    have t5 : w2.cell? ⟨w.heap.size + 1, 5, none⟩ = some (Value.bool false) := (hb13.cell (by simp)).trans ((cell_mid _ _ _ _ _ _).trans rfl)
    have t6 : w2.cell? ⟨w.heap.size + 1, 6, none⟩ = some (Value.slice none 0 0) := (hb13.cell (by simp)).trans ((cell_mid _ _ _ _ _ _).trans rfl)
    have t7 : w2.cell? ⟨w.heap.size + 1, 7, none⟩ = some (Value.slice none 0 0) := (hb13.cell (by simp)).trans ((cell_mid _ _ _ _ _ _).trans rfl)
    have tf : ∀ o, w2.frozen? ⟨w.heap.size + 1, o, none⟩ = false := fun o => (hb13.frozen (by simp)).trans (frozen_mid _ _ _ _ _ _)
    have hbw := (((Bl.refl w).alloc _).alloc _).alloc _ |>.trans hb13
    have hz1 := lt_of_alloc hb1
    simp only [World.size_alloc] at hz1
    have hne : b' ≠ w.heap.size + 1 := by omega
    go_wp2_with fail
    refine bodyPost_ret (v := .tuple #[.agg #[.int .u32 x.id.t, .int .u8 x.id.r, .bool x.ready, .bool x.pin, .int .i64 x.used, .bool x.known, .slice S x.snap.length sc, .slice G x.got.length gc], .int .i64 0]) (by simp [results, Try.results58, go_sem, t0, t1, t2, t3, t4, t5, t6, t7]) rfl ?_
    refine ⟨S, sc, G, gc, rfl, s1, s2, g1, g2, ?_, ?_, ?_⟩
    · refine R.more (lo := w1.heap.size) ?_ (by omega)
      repeat (refine R.set ?_ (by simp; omega) _)
      exact hS
    · refine R.more (lo := w1.heap.size) ?_ (by omega)
      repeat (refine R.set ?_ (by simp; omega) _)
      exact hG
    · repeat (refine Bl.setCell ?_ (by simp) _)
      exact hbw
end Go.Proofs.Ytegmddgbdjlidaa
