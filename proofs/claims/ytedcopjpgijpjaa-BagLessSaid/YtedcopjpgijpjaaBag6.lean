/-
  The walks of bag.Same, and of the references Same of the layers 6, 9, 10.
-/
import Derived.Test.YtedcopjpgijpjaaOp4
namespace Go.Proofs.Ytedcopjpgijpjaa
open Go.RowKit

set_option maxRecDepth 100000 in
set_option maxHeartbeats 1000000 in
theorem opEqualFunc (A B : Option Addr) (c d : Nat) (l m : List Op) (w : World) (hl : l.length ≤ maxLen) (_hm : m.length ≤ maxLen) (hA : R cOp 0 w A l) (hB : R cOp 0 w B m) :
    Calls Try.prog 40 #[.slice A l.length c, .slice B m.length d, .func (.func 20) #[] #[]] w fun e w' => e = .returned (.bool (same l m)) ∧ Bl w w' := by
  unfold maxLen at hl
  by_cases hne : l.length = m.length
  · have hne1 : ((l.length : Int) != (m.length : Int)) = false := by simp [hne]
    have hle : l.length ≤ m.length := by omega
    have hle' : m.length ≤ l.length := by omega
    clear hne
    go_enter Try.func40, Try.ntmps40
    go_wp2
    go_loopw [17] (fun i wr => Bl w wr ∧ ∃ k : Nat, k ≤ l.length ∧ i = .int .i64 k ∧ Hid (decide (l = m) = decide (l.drop k = m.drop k))) (fun i _ => l.length - (intOf i).toNat)
    case atStart => exact ⟨Bl.refl _, 0, Nat.zero_le _, rfl, rfl⟩
    case round =>
      obtain ⟨hbl, k, hk, rfl, hf⟩ := hrel
      by_cases hlt : k < l.length
      · have hR := hA.bl hbl
        have hS := hB.bl hbl
        obtain ⟨b, off, rfl, _, hb⟩ := hR.addr (by omega)
        obtain ⟨b', off', rfl, _, hb'⟩ := hS.addr (by omega)
        obtain ⟨x, hx⟩ := get_lt hlt
        obtain ⟨y, hy⟩ := get_lt (show k < m.length by omega)
        obtain ⟨_, ho, A1, a1, ha1, ha2, hA1, c0, c1, c2, c3, c4⟩ := hR.op hx
        obtain ⟨_, ho', B1, b1, hb1, hb2, hB1, d0, d1, d2, d3, d4⟩ := hS.op hy
        have hx := hide hx
        have hy := hide hy
        have hlt' : k < m.length := by omega
        have hxo : OpIn wr x A1 a1 := ⟨ho, ha1, ha2, hA1⟩
        have hyo : OpIn wr y B1 b1 := ⟨ho', hb1, hb2, hB1⟩
        have hcall := fun W (hW : Bl wr W) => opSame x y A1 B1 a1 b1 W (hxo.bl hW) (hyo.bl hW)
        cases hq : eqOp x y
        · have g := hide (drop_ne_step hf.out hx.out hy.out (eqOp_false hq))
          rw [hq] at hcall
          have hcall := hide hcall
          clear hq
          go_wp2_with (go_at_call 20; refine (hcall.out _ (((Bl.refl _).alloc _).alloc _)).mono ?_; rintro e w1 ⟨rfl, hbq⟩)
          go_ret
          exact ⟨ret_bool g.out, ((hbl.alloc _).alloc _).trans hbq⟩
        · have g := hide (drop_eq_step hf.out hx.out hy.out (eqOp_true hq))
          rw [hq] at hcall
          have hcall := hide hcall
          clear hq
          go_wp2_with (go_at_call 20; refine (hcall.out _ (((Bl.refl _).alloc _).alloc _)).mono ?_; rintro e w1 ⟨rfl, hbq⟩)
          go_roundw
          case rel => exact ⟨((hbl.alloc _).alloc _).trans hbq, k + 1, by omega, by go_num, g⟩
          case measure => simp [intOf]; omega
      · have hkl : l.length ≤ k := by omega
        go_wp2
        go_ret
        exact ⟨ret_bool (drop_eq_end hf.out hkl (by omega)), hbl⟩
  · have hne1 : ((l.length : Int) != (m.length : Int)) = true := by simp; omega
    go_enter Try.func40, Try.ntmps40
    go_wp2
    go_ret
    exact ⟨ret_bool (ne_of_length hne), Bl.refl _⟩

set_option maxHeartbeats 400000 in
theorem bagSame (A B : Option Addr) (c d : Nat) (l m : List Op) (w : World) (hl : l.length ≤ maxLen) (hm : m.length ≤ maxLen) (hA : R cOp 0 w A l) (hB : R cOp 0 w B m) :
    Calls Try.prog 14 #[.slice A l.length c, .slice B m.length d] w fun e w' => e = .returned (.bool (same l m)) ∧ Bl w w' := by
  go_enter Try.func14, Try.ntmps14
  go_wp2_with (go_at_call 40; refine (opEqualFunc A B c d l m _ hl hm hA hB).mono ?_; rintro e w' ⟨rfl, hb⟩)
  go_ret
  exact ⟨rfl, hb⟩

set_option maxHeartbeats 1000000 in
theorem refSame06 (A B : Option Addr) (c d : Nat) (l m : List Run) (w : World) (hl : l.length ≤ maxLen) (_hm : m.length ≤ maxLen) (hA : R cRun 0 w A l) (hB : R cRun 0 w B m) :
    Calls Try.prog 61 #[.slice A l.length c, .slice B m.length d] w fun e w' => e = .returned (.bool (same l m)) ∧ Bl w w' := by
  unfold maxLen at hl
  by_cases hne : l.length = m.length
  · have hne1 : ((l.length : Int) != (m.length : Int)) = false := by simp [hne]
    have hle : l.length ≤ m.length := by omega
    have hle' : m.length ≤ l.length := by omega
    clear hne
    go_enter Try.func61, Try.ntmps61
    go_wp2
    go_loopw [5] (fun i wr => Bl w wr ∧ ∃ k : Nat, k ≤ l.length ∧ i = .int .i64 k ∧ Hid (decide (l = m) = decide (l.drop k = m.drop k))) (fun i _ => l.length - (intOf i).toNat)
    case atStart => exact ⟨Bl.refl _, 0, Nat.zero_le _, rfl, rfl⟩
    case round =>
      obtain ⟨hbl, k, hk, rfl, hf⟩ := hrel
      by_cases hlt : k < l.length
      · have hR := hA.bl hbl
        have hS := hB.bl hbl
        obtain ⟨b, off, rfl, _, hb⟩ := hR.addr (by omega)
        obtain ⟨b', off', rfl, _, hb'⟩ := hS.addr (by omega)
        obtain ⟨x, hx⟩ := get_lt hlt
        obtain ⟨y, hy⟩ := get_lt (show k < m.length by omega)
        obtain ⟨_, ho, c0, c1, c2⟩ := hR.run hx
        obtain ⟨_, ho', d0, d1, d2⟩ := hS.run hy
        have C0 := fun p : Wd wr => Wd.cell c0 hb p
        have C1 := fun p : Wd wr => Wd.cell c1 hb p
        have C2 := fun p : Wd wr => Wd.cell c2 hb p
        have D0 := fun p : Wd wr => Wd.cell d0 hb' p
        have D1 := fun p : Wd wr => Wd.cell d1 hb' p
        have D2 := fun p : Wd wr => Wd.cell d2 hb' p
        clear c0 c1 c2 d0 d1 d2
        have hx := hide hx
        have hy := hide hy
        have hi : (k : Int) < (l.length : Int) := by omega
        have hi' : (k : Int) < (m.length : Int) := by omega
        have hne := run_neqRun x y
        cases hq : neqRun x y
        · have g := hide (drop_eq_step hf.out hx.out hy.out (neqRun_false hq))
          rw [hq] at hne
          clear hq
          go_wp2
          (refine wp_region_wd (by kernel_rfl) (by kernel_rfl) ?_
           repeat (go_big_quiet_step ((fail)))
           refine wpQuiet_nil ?_
           intro w2 hw'
           obtain ⟨⟨wx, hb2⟩, hw''⟩ := hw'
           subst hw'')
          go_wp2
          go_roundw
          case rel => exact ⟨hbl.trans hb2, k + 1, by omega, by go_num, g⟩
          case measure => simp [intOf]; omega
        · have g := hide (drop_ne_step hf.out hx.out hy.out (neqRun_true hq))
          rw [hq] at hne
          clear hq
          go_wp2
          (refine wp_region_wd (by kernel_rfl) (by kernel_rfl) ?_
           repeat (go_big_quiet_step ((fail)))
           refine wpQuiet_nil ?_
           intro w2 hw'
           obtain ⟨⟨wx, hb2⟩, hw''⟩ := hw'
           subst hw'')
          go_wp2
          go_ret
          exact ⟨ret_bool g.out, hbl.trans hb2⟩
      · have hkl : l.length ≤ k := by omega
        go_wp2
        go_ret
        exact ⟨ret_bool (drop_eq_end hf.out hkl (by omega)), hbl⟩
  · have hne1 : ((l.length : Int) != (m.length : Int)) = true := by simp; omega
    go_enter Try.func61, Try.ntmps61
    go_wp2
    go_ret
    exact ⟨ret_bool (ne_of_length hne), Bl.refl _⟩

theorem eqOp_parts9 (x y : Op) : eqOp x y = (x.kind == y.kind && (!neqId x.id y.id && (same x.pl y.pl && x.pt == y.pt))) := by
  rw [eqOp_parts, Bool.and_comm (x.pt == y.pt)]

set_option maxRecDepth 100000 in
set_option maxHeartbeats 2000000 in
theorem refSame09 (x y : Op) (A B : Option Addr) (c d : Nat) (w : World) (hx : OpIn w x A c) (hy : OpIn w y B d) :
    Calls Try.prog 32 #[.agg #[.int .u8 x.kind, .int .u32 x.id.t, .int .u8 x.id.r, .slice A x.pl.length c, .int .i64 x.pt], .agg #[.int .u8 y.kind, .int .u32 y.id.t, .int .u8 y.id.r, .slice B y.pl.length d, .int .i64 y.pt]] w fun e w' => e = .returned (.bool (eqOp x y)) ∧ Bl w w' := by
  obtain ⟨T, hT⟩ : ∃ T, T = eqOp x y := ⟨_, rfl⟩
  rw [← hT]
  rw [eqOp_parts9] at hT
  have heq := run_eqId x.id y.id
  obtain ⟨W, hW⟩ : ∃ W, W = (w.alloc (.cells #[Value.int IntKind.u8 x.kind, Value.int IntKind.u32 x.id.t, Value.int IntKind.u8 x.id.r, Value.slice A x.pl.length c, Value.int IntKind.i64 x.pt] 33)).alloc (.cells #[Value.int IntKind.u8 y.kind, Value.int IntKind.u32 y.id.t, Value.int IntKind.u8 y.id.r, Value.slice B y.pl.length d, Value.int IntKind.i64 y.pt] 33) := ⟨_, rfl⟩
  have hbW : Bl w W := by rw [hW]; exact ((Bl.refl _).alloc _).alloc _
  have at0 : OpBox W w.heap.size x A c := by rw [hW]; exact (OpBox.new w x A c _).bl ((Bl.refl _).alloc _)
  have at1 : OpBox W (w.heap.size + 1) y B d := by
    rw [hW]
    have := OpBox.new (w.alloc (.cells #[Value.int IntKind.u8 x.kind, Value.int IntKind.u32 x.id.t, Value.int IntKind.u8 x.id.r, Value.slice A x.pl.length c, Value.int IntKind.i64 x.pt] 33)) y B d 33
    rw [World.size_alloc] at this
    exact this
  have hbl : ∀ o1 o2, Bl w ((w.alloc o1).alloc o2) := fun _ _ => ((Bl.refl _).alloc _).alloc _
  have hs := hide (refSame06 A B c d x.pl y.pl W hx.small hy.small (hx.hR.bl hbW) (hy.hR.bl hbW))
  cases h1 : (x.kind == y.kind)
  · rw [h1] at hT
    have g := hide (show false = T from hT.symm ▸ rfl)
    clear hT
    go_enter Try.func32, Try.ntmps32
    go_wp2_with fail
    go_ret
    exact ⟨ret_bool g.out, hbl _ _⟩
  rw [h1] at hT
  cases h2 : neqId x.id y.id
  rotate_left
  · rw [h2] at hT heq
    have g := hide (show false = T from hT.symm ▸ rfl)
    clear hT h2
    go_enter Try.func32, Try.ntmps32
    go_wp2_with fail
    go_ret
    exact ⟨ret_bool g.out, hbl _ _⟩
  rw [h2] at hT heq
  clear h2
  have hT' : T = (same x.pl y.pl && x.pt == y.pt) := hT
  clear hT
  cases h3 : same x.pl y.pl
  · rw [h3] at hT' hs
    have g := hide (show false = T from hT'.symm ▸ rfl)
    clear hT' h3
    go_enter Try.func32, Try.ntmps32
    go_wp2_with fail
    rw [← hW]
    clear hW
    refine hs.out.mono ?_
    rintro e w1 ⟨rfl, hb1⟩
    go_wp2_with fail
    go_ret
    exact ⟨ret_bool g.out, hbW.trans hb1⟩
  · rw [h3] at hT' hs
    have hT2 : (x.pt == y.pt) = T := by rw [hT']; rfl
    clear hT' h3
    go_enter Try.func32, Try.ntmps32
    go_wp2_with fail
    rw [← hW]
    clear hW
    refine hs.out.mono ?_
    rintro e w1 ⟨rfl, hb1⟩
    obtain ⟨x0, x1, x2, x3, x4⟩ := (at0.bl hb1).cells
    obtain ⟨y0, y1, y2, y3, y4⟩ := (at1.bl hb1).cells
    have hl0 := (at0.bl hb1).lt
    have hl1 := (at1.bl hb1).lt
    go_wp2_with fail
    go_ret
    exact ⟨rfl, hbW.trans hb1⟩

set_option maxRecDepth 100000 in
set_option maxHeartbeats 1000000 in
theorem refSame10 (A B : Option Addr) (c d : Nat) (l m : List Op) (w : World) (hl : l.length ≤ maxLen) (_hm : m.length ≤ maxLen) (hA : R cOp 0 w A l) (hB : R cOp 0 w B m) :
    Calls Try.prog 36 #[.slice A l.length c, .slice B m.length d] w fun e w' => e = .returned (.bool (same l m)) ∧ Bl w w' := by
  unfold maxLen at hl
  by_cases hne : l.length = m.length
  · have hne1 : ((l.length : Int) != (m.length : Int)) = false := by simp [hne]
    have hle : l.length ≤ m.length := by omega
    have hle' : m.length ≤ l.length := by omega
    clear hne
    go_enter Try.func36, Try.ntmps36
    go_wp2
    go_loopw [5] (fun i wr => Bl w wr ∧ ∃ k : Nat, k ≤ l.length ∧ i = .int .i64 k ∧ Hid (decide (l = m) = decide (l.drop k = m.drop k))) (fun i _ => l.length - (intOf i).toNat)
    case atStart => exact ⟨Bl.refl _, 0, Nat.zero_le _, rfl, rfl⟩
    case round =>
      obtain ⟨hbl, k, hk, rfl, hf⟩ := hrel
      by_cases hlt : k < l.length
      · have hR := hA.bl hbl
        have hS := hB.bl hbl
        obtain ⟨b, off, rfl, _, hb⟩ := hR.addr (by omega)
        obtain ⟨b', off', rfl, _, hb'⟩ := hS.addr (by omega)
        obtain ⟨x, hx⟩ := get_lt hlt
        obtain ⟨y, hy⟩ := get_lt (show k < m.length by omega)
        obtain ⟨_, ho, A1, a1, ha1, ha2, hA1, c0, c1, c2, c3, c4⟩ := hR.op hx
        obtain ⟨_, ho', B1, b1, hb1, hb2, hB1, d0, d1, d2, d3, d4⟩ := hS.op hy
        have C0 := fun p : Wd wr => Wd.cell c0 hb p
        have C1 := fun p : Wd wr => Wd.cell c1 hb p
        have C2 := fun p : Wd wr => Wd.cell c2 hb p
        have C3 := fun p : Wd wr => Wd.cell c3 hb p
        have C4 := fun p : Wd wr => Wd.cell c4 hb p
        have D0 := fun p : Wd wr => Wd.cell d0 hb' p
        have D1 := fun p : Wd wr => Wd.cell d1 hb' p
        have D2 := fun p : Wd wr => Wd.cell d2 hb' p
        have D3 := fun p : Wd wr => Wd.cell d3 hb' p
        have D4 := fun p : Wd wr => Wd.cell d4 hb' p
        clear c0 c1 c2 c3 c4 d0 d1 d2 d3 d4
        have hx := hide hx
        have hy := hide hy
        have hi : (k : Int) < (l.length : Int) := by omega
        have hi' : (k : Int) < (m.length : Int) := by omega
        have hxo : OpIn wr x A1 a1 := ⟨ho, ha1, ha2, hA1⟩
        have hyo : OpIn wr y B1 b1 := ⟨ho', hb1, hb2, hB1⟩
        have hcall := fun pw : Wd wr => refSame09 x y A1 B1 a1 b1 pw.v (hxo.bl pw.h) (hyo.bl pw.h)
        cases hq : eqOp x y
        · have g := hide (drop_ne_step hf.out hx.out hy.out (eqOp_false hq))
          rw [hq] at hcall
          have hcall := hide hcall
          clear hq
          go_wp2
          (refine wp_region_wd (by kernel_rfl) (by kernel_rfl) ?_
           repeat (go_big_quiet_step ((go_at_call 32; exact Calls.wd (hcall.out _))))
           refine wpQuiet_nil ?_
           intro w2 hw'
           obtain ⟨⟨wx, hb2⟩, hw''⟩ := hw'
           subst hw'')
          go_wp2
          go_ret
          exact ⟨ret_bool g.out, hbl.trans hb2⟩
        · have g := hide (drop_eq_step hf.out hx.out hy.out (eqOp_true hq))
          rw [hq] at hcall
          have hcall := hide hcall
          clear hq
          go_wp2
          (refine wp_region_wd (by kernel_rfl) (by kernel_rfl) ?_
           repeat (go_big_quiet_step ((go_at_call 32; exact Calls.wd (hcall.out _))))
           refine wpQuiet_nil ?_
           intro w2 hw'
           obtain ⟨⟨wx, hb2⟩, hw''⟩ := hw'
           subst hw'')
          go_wp2
          go_roundw
          case rel => exact ⟨hbl.trans hb2, k + 1, by omega, by go_num, g⟩
          case measure => simp [intOf]; omega
      · have hkl : l.length ≤ k := by omega
        go_wp2
        go_ret
        exact ⟨ret_bool (drop_eq_end hf.out hkl (by omega)), hbl⟩
  · have hne1 : ((l.length : Int) != (m.length : Int)) = true := by simp; omega
    go_enter Try.func36, Try.ntmps36
    go_wp2
    go_ret
    exact ⟨ret_bool (ne_of_length hne), Bl.refl _⟩
end Go.Proofs.Ytedcopjpgijpjaa
