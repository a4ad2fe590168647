/-
  The walks of the laws' inner functions: nine, left, alive.
-/
import Derived.Test.YtegmddgbdjlidaaTook
namespace Go.Proofs.Ytegmddgbdjlidaa
open Go.RowKit

def nineL : List Times := [⟨0, [⟨1, 9⟩]⟩]

theorem nineC (w : World) : Calls Try.prog 24 #[] w (New cTimes nineL w) := by
  go_enter Try.func24, Try.ntmps24
  go_wp2
  go_ret
  have h1 : R cSpan w.heap.size (w.alloc (.cells #[Value.int IntKind.u32 1, Value.int IntKind.u32 9] 94)) (some ⟨w.heap.size, 0, none⟩) [⟨1, 9⟩] :=
    R.single (C := cSpan) (cs := [Value.int IntKind.u32 1, Value.int IntKind.u32 9]) ⟨⟨by decide, by decide, by decide, by decide⟩, rfl⟩ (Nat.le_refl _)
  have h2 := R.single (C := cTimes) (lo := w.heap.size) (x := ⟨0, [⟨1, 9⟩]⟩) (cs := [Value.int IntKind.u8 0, Value.slice (some ⟨w.heap.size, 0, none⟩) 1 1]) (t := 87) ⟨⟨by decide, by decide⟩, some ⟨w.heap.size, 0, none⟩, 1, Nat.le_refl _, by decide, rfl, h1⟩ (by rw [World.size_alloc]; omega)
  rw [World.size_alloc] at h2
  exact ⟨some ⟨w.heap.size + 1, 0, none⟩, 1, rfl, Nat.le_refl _, by decide, h2, ((Bl.refl w).alloc _).alloc _⟩

theorem R.int {lo : Nat} {w : World} {b off k : Nat} {l : List Int} {x : Int} (h : R cInt lo w (some ⟨b, off, none⟩) l) (hk : l[k]? = some x) :
    (lo ≤ b ∧ b < w.heap.size) ∧ i64ok x ∧ w.cell? ⟨b, off + k, none⟩ = some (.int .i64 x) := by
  obtain ⟨h1, m, ⟨h2, rfl⟩, ha⟩ := R.get h hk
  have := ha 0 _ rfl
  rw [show off + k * cInt.size + 0 = off + k from by show off + k * 1 + 0 = _; omega] at this
  exact ⟨h1, h2, this.1⟩

/-- Is it left, and only that? -/
def leftIs (x : Entry) (want : List Int) : Bool := entryMay x && same (leftOf x) want
theorem neqInt_false {x y : Int} (h : (x != y) = false) : x = y := by simpa using h
theorem neqInt_true {x y : Int} (h : (x != y) = true) : x ≠ y := by simpa using h

set_option maxRecDepth 100000 in
set_option maxHeartbeats 400000 in
theorem leftC (x : Entry) (A B D : Option Addr) (c d k : Nat) (m : List Int) (w : World) (hx : x.ok) (h1 : x.snap.length ≤ c) (h2 : c ≤ maxLen) (h3 : x.got.length ≤ d) (h4 : d ≤ maxLen) (hA : R cTimes 0 w A x.snap) (hB : R cBool 0 w B x.got) (hD : R cInt 0 w D m) :
    Calls Try.prog 62 #[.agg #[.int .u32 x.id.t, .int .u8 x.id.r, .bool x.ready, .bool x.pin, .int .i64 x.used, .bool x.known, .slice A x.snap.length c, .slice B x.got.length d], .slice D m.length k] w fun e w' => e = .returned (.bool (leftIs x m)) ∧ Bl w w' := by
  have hl0 := fun W (hb : Bl w W) => fetchLeft x A B c d W hx h1 h2 h3 h4 (hA.bl hb) (hB.bl hb)
  unfold leftIs
  cases hmay : entryMay x
  · rw [hmay, okOr_false] at hl0
    replace hl0 := hide hl0
    go_enter Try.func62, Try.ntmps62
    go_wp2_with (go_at_call 27; refine (hl0.out _ ((Bl.refl w).alloc _)).mono ?_; rintro e w1 ⟨A1, c1, rfl, m1, m2, hr, hb1⟩)
    go_ret
    exact ⟨rfl, ((Bl.refl w).alloc _).trans hb1⟩
  · rw [hmay, okOr_true] at hl0
    replace hl0 := hide hl0
    have hgl : x.got.length ≤ 1048576 := (small_of_may hmay).2
    have hlen : (leftOf x).length ≤ 1048576 := by
      unfold leftOf
      rw [hmay]
      exact Nat.le_trans (leftFrom_length _ _) hgl
    rw [Bool.true_and]
    obtain ⟨l, hl⟩ : ∃ l, l = leftOf x := ⟨_, rfl⟩
    rw [← hl] at hl0 hlen ⊢
    clear hl hmay hgl
    by_cases hne : l.length = m.length
    · have hne1 : ((l.length : Int) != (m.length : Int)) = false := by simp [hne]
      have hle : l.length ≤ m.length := by omega
      have hle' : m.length ≤ l.length := by omega
      clear hne
      go_enter Try.func62, Try.ntmps62
      go_wp2_with (go_at_call 27; refine (hl0.out _ ((Bl.refl w).alloc _)).mono ?_; rintro e w1 ⟨A1, c1, rfl, m1, m2, hr1, hb1⟩)
      have hbl1 := ((Bl.refl w).alloc _).trans hb1
      replace hr1 := hr1.zero
      go_loopw [7] (fun i wr => Bl w1 wr ∧ ∃ k : Nat, k ≤ l.length ∧ i = .int .i64 k ∧ Hid (decide (l = m) = decide (l.drop k = m.drop k))) (fun i _ => l.length - (intOf i).toNat)
      case atStart => exact ⟨Bl.refl _, 0, Nat.zero_le _, rfl, rfl⟩
      case round =>
        obtain ⟨hbl, k, hk, rfl, hf⟩ := hrel
        by_cases hlt : k < l.length
        · have hR := hr1.bl hbl
          have hS := hD.bl (hbl1.trans hbl)
          obtain ⟨b, off, rfl, _, hb⟩ := hR.addr (by omega)
          obtain ⟨b', off', rfl, _, hb'⟩ := hS.addr (by omega)
          obtain ⟨x, hx⟩ := get_lt hlt
          obtain ⟨y, hy⟩ := get_lt (show k < m.length by omega)
          obtain ⟨_, _, c0⟩ := hR.int hx
          obtain ⟨_, _, d0⟩ := hS.int hy
          have C0 := fun p : Wd wr => Wd.cell c0 hb p
          have D0 := fun p : Wd wr => Wd.cell d0 hb' p
          clear c0 d0
          replace hx := hide hx
          replace hy := hide hy
          have hi : (k : Int) < (l.length : Int) := by omega
          have hi' : (k : Int) < (m.length : Int) := by omega
          cases hq : (x != y)
          · have g := hide (drop_eq_step hf.out hx.out hy.out (neqInt_false hq))
            go_wp2
            (refine wp_region_wd (by kernel_rfl) (by kernel_rfl) ?_
             repeat (go_big_quiet_step ((fail)))
             refine wpQuiet_nil ?_
             intro w2 hw'
             obtain ⟨⟨wx, hb2⟩, hw''⟩ := hw'
             subst hw'')
            go_wp2
            go_roundw
            case rel => exact ⟨hbl.trans hb2, k + 1, by omega, by go_num, g⟩
            case measure => simp [intOf]; omega
          · have g := hide (drop_ne_step hf.out hx.out hy.out (neqInt_true hq))
            go_wp2
            (refine wp_region_wd (by kernel_rfl) (by kernel_rfl) ?_
             repeat (go_big_quiet_step ((fail)))
             refine wpQuiet_nil ?_
             intro w2 hw'
             obtain ⟨⟨wx, hb2⟩, hw''⟩ := hw'
             subst hw'')
            go_wp2
            go_ret
            exact ⟨ret_bool g.out, hbl1.trans (hbl.trans hb2)⟩
        · have hkl : l.length ≤ k := by omega
          go_wp2
          go_ret
          exact ⟨ret_bool (drop_eq_end hf.out hkl (by omega)), hbl1.trans hbl⟩
    · have hne1 : ((l.length : Int) != (m.length : Int)) = true := by simp; omega
      go_enter Try.func62, Try.ntmps62
      go_wp2_with (go_at_call 27; refine (hl0.out _ ((Bl.refl w).alloc _)).mono ?_; rintro e w1 ⟨A1, c1, rfl, m1, m2, hr1, hb1⟩)
      go_ret
      exact ⟨ret_bool (ne_of_length hne), ((Bl.refl w).alloc _).trans hb1⟩

theorem EntAt.new (w : World) (x : Entry) (A : Option Addr) (c : Nat) (B : Option Addr) (d : Nat) (t : TypeId) : EntAt (w.alloc (.cells #[Value.int IntKind.u32 x.id.t, Value.int IntKind.u8 x.id.r, Value.bool x.ready, Value.bool x.pin, Value.int IntKind.i64 x.used, Value.bool x.known, Value.slice A x.snap.length c, Value.slice B x.got.length d] t)) w.heap.size x A c B d := fun j u hu =>
  ⟨by rw [cell_of_row _ w.heap.size j _ t (0, 0) (heap_alloc_new w _)]; simpa [entryCells] using hu, frozen_new w _ t j⟩
/-- An entry that a world holds. -/
structure Held (V : World) (x : Entry) (A : Option Addr) (c : Nat) (B : Option Addr) (d : Nat) : Prop where
  l1 : x.snap.length ≤ c
  l2 : c ≤ maxLen
  l3 : x.got.length ≤ d
  l4 : d ≤ maxLen
  hS : R cTimes 0 V A x.snap
  hG : R cBool 0 V B x.got
theorem Held.bl {V V' : World} {x : Entry} {A B : Option Addr} {c d : Nat} (h : Held V x A c B d) (hb : Bl V V') : Held V' x A c B d := ⟨h.l1, h.l2, h.l3, h.l4, h.hS.bl hb, h.hG.bl hb⟩
/-- What hands back an entry, and an error: held. -/
def EntN (y : Entry) (n : Int) (w : World) (e : Ending) (w' : World) : Prop := ∃ A c B d, e = .returned (.tuple #[.agg #[.int .u32 y.id.t, .int .u8 y.id.r, .bool y.ready, .bool y.pin, .int .i64 y.used, .bool y.known, .slice A y.snap.length c, .slice B y.got.length d], .int .i64 n]) ∧ Held w' y A c B d ∧ Bl w w'
theorem Ent2.n {y : Entry} {n : Int} {w w' : World} {e : Ending} (h : Ent2 y n w e w') : EntN y n w e w' := by
  obtain ⟨A, c, B, d, rfl, l1, l2, l3, l4, hS, hG, hb⟩ := h
  exact ⟨A, c, B, d, rfl, ⟨l1, l2, l3, l4, hS.zero, hG.zero⟩, hb⟩
theorem zeroE_held (V : World) : Held V zeroE none 0 none 0 := ⟨Nat.le_refl _, Nat.zero_le _, Nat.le_refl _, Nat.zero_le _, R.nil, R.nil⟩

/-! ### The chapter's examples -/
def ex1 : Entry := ⟨⟨0, 0⟩, false, false, 0, true, nineL, [false, false]⟩
def ex2 : Entry := ⟨⟨0, 0⟩, false, false, 0, true, nineL, [false, true]⟩
theorem ok0 (b : Bool) : Entry.ok ⟨⟨0, 0⟩, b, false, 0, false, [], []⟩ := by cases b <;> exact ⟨⟨by decide, by decide, by decide, by decide⟩, by decide, by decide⟩
theorem okex1 : ex1.ok := ⟨⟨by decide, by decide, by decide, by decide⟩, by decide, by decide⟩
theorem okex2 : ex2.ok := ⟨⟨by decide, by decide, by decide, by decide⟩, by decide, by decide⟩
theorem plain_begin : beginN zeroE nineL = 0 ∧ beginE zeroE nineL = ex1 := by decide +kernel
theorem plain_took : tookN ex1 1 [⟨9, 0⟩] = 0 ∧ tookE ex1 1 [⟨9, 0⟩] = ex2 := by decide +kernel
theorem plain_left : leftIs ex1 [0, 1] = true ∧ leftIs ex2 [0] = true := by decide +kernel

theorem begin1 (A : Option Addr) (c : Nat) (w : World) (hA : R cTimes 0 w A nineL) : Calls Try.prog 23 #[.agg #[.int .u32 0, .int .u8 0, .bool false, .bool false, .int .i64 0, .bool false, .slice none 0 0, .slice none 0 0], .slice A 1 c] w (EntN ex1 0 w) := by
  have := fetchBegin zeroE none none A 0 0 c nineL w (ok0 false) (Nat.le_refl _) (Nat.zero_le _) (Nat.le_refl _) (Nat.zero_le _) (by decide) R.nil R.nil hA
  rw [plain_begin.1, plain_begin.2] at this
  exact this.mono fun _ _ h => h.n
theorem tookC (x : Entry) (n : Int) (ids : List Id) {y : Entry} {m : Int} (hp : tookN x n ids = m ∧ tookE x n ids = y) (hx : x.ok) (hn : i64ok n) (hm : ids.length ≤ maxLen) {A B D : Option Addr} {c d k : Nat} {w : World} (h : Held w x A c B d) (hD : R cId 0 w D ids) :
    Calls Try.prog 25 #[.agg #[.int .u32 x.id.t, .int .u8 x.id.r, .bool x.ready, .bool x.pin, .int .i64 x.used, .bool x.known, .slice A x.snap.length c, .slice B x.got.length d], .int .i64 n, .slice D ids.length k] w (EntN y m w) := by
  have := fetchTook x n ids A B D c d k w hx hn h.l1 h.l2 h.l3 h.l4 hm h.hS h.hG hD
  rw [hp.1, hp.2] at this
  exact this.mono fun _ _ h => h.n
theorem leftN (x : Entry) (m : List Int) (hp : leftIs x m = true) (hx : x.ok) {A B D : Option Addr} {c d k : Nat} {w : World} (h : Held w x A c B d) (hD : R cInt 0 w D m) :
    Calls Try.prog 62 #[.agg #[.int .u32 x.id.t, .int .u8 x.id.r, .bool x.ready, .bool x.pin, .int .i64 x.used, .bool x.known, .slice A x.snap.length c, .slice B x.got.length d], .slice D m.length k] w fun e w' => e = .returned (.bool true) ∧ Bl w w' := by
  have := leftC x A B D c d k m w hx h.l1 h.l2 h.l3 h.l4 h.hS h.hG hD
  rw [hp] at this
  exact this
theorem idRow (w : World) (x : Id) (hx : x.ok) : R cId 0 (w.alloc (.cells #[Value.int IntKind.u32 x.t, Value.int IntKind.u8 x.r] 25)) (some ⟨w.heap.size, 0, none⟩) [x] :=
  R.single (C := cId) (cs := [Value.int IntKind.u32 x.t, Value.int IntKind.u8 x.r]) ⟨hx, rfl⟩ (Nat.zero_le _)
theorem intRow1 (w : World) (x : Int) (hx : i64ok x) : R cInt 0 (w.alloc (.cells #[Value.int IntKind.i64 x] 3)) (some ⟨w.heap.size, 0, none⟩) [x] :=
  R.single (C := cInt) (cs := [Value.int IntKind.i64 x]) ⟨hx, rfl⟩ (Nat.zero_le _)
theorem intRow2 (w : World) (x y : Int) (hx : i64ok x) (hy : i64ok y) : R cInt 0 (w.alloc (.cells #[Value.int IntKind.i64 x, Value.int IntKind.i64 y] 3)) (some ⟨w.heap.size, 0, none⟩) [x, y] := by
  refine ⟨[.int .i64 x, .int .i64 y], ⟨[_], [_], rfl, ⟨hx, rfl⟩, [_], [], rfl, ⟨hy, rfl⟩, rfl⟩, fun _ => ⟨w.heap.size, 0, rfl, ⟨Nat.zero_le _, by rw [World.size_alloc]; omega⟩, fun j u hu => ⟨?_, ?_⟩⟩⟩
  · rw [Nat.zero_add, cell_of_row _ w.heap.size j _ _ (0, 0) (heap_alloc_new w _)]
    simpa using hu
  · rw [Nat.zero_add]
    exact frozen_new w _ _ j

/-- nine, its length written out. -/
theorem nine1 (w : World) : Calls Try.prog 24 #[] w fun e w' => ∃ A c, e = .returned (.slice A 1 c) ∧ R cTimes 0 w' A nineL ∧ Bl w w' :=
  (nineC w).mono fun _ _ ⟨A, c, he, _, _, hr, hb⟩ => ⟨A, c, he, hr.zero, hb⟩
attribute [irreducible] ex1 ex2 nineL
end Go.Proofs.Ytegmddgbdjlidaa
