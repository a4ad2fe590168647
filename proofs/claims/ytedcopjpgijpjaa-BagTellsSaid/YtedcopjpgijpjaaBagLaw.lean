/-
  The walks of law 11's own functions: one, put, unlike.
-/
import Derived.Test.YtedcopjpgijpjaaBagPlain
namespace Go.Proofs.Ytedcopjpgijpjaa
open Go.RowKit

set_option maxRecDepth 100000 in
set_option maxHeartbeats 1000000 in
theorem lawOne11 (t r : Int) (w : World) (h0 : 0 ≤ t) (h1 : t < 4294967296) (h2 : 0 ≤ r) (h3 : r < 256) :
    Calls Try.prog 35 #[.int .u32 t, .int .u8 r] w (NewOp ⟨2, ⟨t, r⟩, [⟨t, r, 1⟩], 0⟩ w) := by
  go_enter Try.func35, Try.ntmps35
  go_wp2
  refine bodyPost_ret (v := .agg #[.int .u8 2, .int .u32 t, .int .u8 r, .slice (some ⟨w.heap.size + 1, 0, none⟩) 1 1, .int .i64 0]) (by simp [results, Try.results35, go_sem]) rfl ?_
  refine ⟨some ⟨w.heap.size + 1, 0, none⟩, 1, rfl, Nat.le_refl _, by decide, ?_, ((Bl.refl _).alloc _).alloc _⟩
  have h := R.single (C := cRun) (lo := w.heap.size) (w := w.alloc (Obj.cells #[Value.int IntKind.u8 2, Value.int IntKind.u32 t, Value.int IntKind.u8 r, .slice (some ⟨w.heap.size + 1, 0, none⟩) 1 1, .int .i64 0] 33)) (x := ⟨t, r, 1⟩) (cs := [.int .u32 t, .int .u8 r, .int .i64 1]) (t := 71) ⟨⟨h0, h1, h2, h3, by show i64ok 1; unfold i64ok; omega⟩, rfl⟩ (by simp)
  rw [World.size_alloc] at h
  exact h

set_option maxRecDepth 100000 in
set_option maxHeartbeats 1000000 in
theorem lawPut11 (A B : Option Addr) (c d : Nat) (l m : List Op) (w : World) (hlc : l.length ≤ c) (hcm : c ≤ maxLen) (hl : l.length + m.length ≤ 1048576) (hA : R cOp 0 w A l) (hB : R cOp 0 w B m) :
    Calls Try.prog 12 #[.slice A l.length c, .slice B m.length d] w fun e w' => ∃ A' c', e = .returned (.tuple #[.slice A' (putL l m).length c', .bool (putOk l m)]) ∧ (putL l m).length ≤ c' ∧ c' ≤ maxLen ∧ R cOp 0 w' A' (putL l m) ∧ Bl w w' := by
  obtain ⟨P, hP⟩ : ∃ P, P = putL l m := ⟨_, rfl⟩
  obtain ⟨K, hK⟩ : ∃ K, K = putOk l m := ⟨_, rfl⟩
  rw [← hP, ← hK]
  go_enter Try.func12, Try.ntmps12
  go_wp2
  go_loopw [0, 6, 7] (fun s0 s6 s7 wr => Bl w wr ∧ ∃ (k : Nat) (l' : List Op) (A' : Option Addr) (c' : Nat) (ok : Bool), k ≤ m.length ∧ s7 = .int .i64 k ∧ s6 = .bool ok ∧ s0 = .slice A' l'.length c' ∧ l'.length ≤ c' ∧ c' ≤ maxLen ∧ R cOp 0 wr A' l' ∧ Hid (P = putL l' (m.drop k)) ∧ Hid (K = (ok && putOk l' (m.drop k)))) (fun _ _ s7 _ => m.length - (intOf s7).toNat)
  case atStart => exact ⟨Bl.refl _, 0, l, A, c, true, Nat.zero_le _, rfl, rfl, rfl, hlc, hcm, hA, hP, by rw [hK]; rfl⟩
  case round =>
    obtain ⟨hbl, k, l', A', c', ok, hk, rfl, rfl, rfl, hlc', hcm', hR, hPk, hKk⟩ := hrel
    by_cases hlt : k < m.length
    · obtain ⟨b, off, rfl, _, hb⟩ := hB.addr (by omega)
      obtain ⟨x, hx⟩ := get_lt hlt
      obtain ⟨_, ho, S, sc, s1, s2, hS, c0, c1, c2, c3, c4⟩ := (hB.bl hbl).op hx
      have hdr := drop_cons hx
      rw [hdr] at hPk hKk
      have hPn := hide (show P = putL (addL l' x) (m.drop (k + 1)) from hPk.out)
      have hKn := hide (show K = (ok && (decide (addN l' x = 0) && putOk (addL l' x) (m.drop (k + 1)))) from hKk.out)
      clear hx hdr hPk hKk hP hK
      have hki : (k : Int) < (m.length : Int) := by omega
      have hadd := hide (bagAdd A' S c' sc l' x wr (Nat.le_trans hlc' hcm') hR ⟨ho, s1, s2, hS⟩)
      have hdec : (addN l' x == 0) = decide (addN l' x = 0) := by by_cases h : addN l' x = 0 <;> simp [h]
      generalize addL l' x = l2 at *
      generalize addN l' x = n2 at *
      generalize decide (n2 = 0) = q at hdec hKn
      cases ok
      · go_wp2_with fail
        refine hadd.out.mono ?_
        rintro e w1 ⟨A1, c1', rfl, q1, q2, hr1, hb1⟩
        go_wp2_with fail
        go_roundw
        case rel => exact ⟨hbl.trans hb1, k + 1, l2, A1, c1', false, by omega, by go_num, rfl, rfl, q1, q2, hr1.zero, hPn.out, by rw [hKn.out]; rfl⟩
        case measure => simp [intOf]; omega
      · go_wp2_with fail
        refine hadd.out.mono ?_
        rintro e w1 ⟨A1, c1', rfl, q1, q2, hr1, hb1⟩
        go_wp2_with fail
        go_roundw
        case rel => exact ⟨hbl.trans hb1, k + 1, l2, A1, c1', q, by omega, by go_num, rfl, rfl, q1, q2, hr1.zero, hPn.out, by rw [hKn.out]; rfl⟩
        case measure => simp [intOf]; omega
    · have hkl : m.length ≤ k := by omega
      have e1 := hide (show P = l' by rw [hPk.out, List.drop_eq_nil_of_le hkl]; rfl)
      have e2 := hide (show K = ok by rw [hKk.out, List.drop_eq_nil_of_le hkl]; simp [putOk])
      clear hPk hKk hP hK
      go_wp2
      go_ret2
      rw [e1.out, e2.out]
      exact ⟨A', c', rfl, hlc', hcm', hR, hbl⟩

/-- Two unlike ones have one stamp. -/
def Unlike (l : List Op) : Prop := ∃ (i k : Nat) (x y : Op), k < i ∧ l[i]? = some x ∧ l[k]? = some y ∧ x.id = y.id ∧ x ≠ y
theorem not_unlike {l : List Op} (h : ¬ Unlike l) : Alike l := by
  intro x hx y hy e
  obtain ⟨i, hi⟩ := List.getElem?_of_mem hx
  obtain ⟨k, hk⟩ := List.getElem?_of_mem hy
  by_cases he : x = y
  · exact he
  exfalso
  rcases Nat.lt_trichotomy i k with h1 | h1 | h1
  · exact h ⟨k, i, y, x, h1, hk, hi, e.symm, fun e => he e.symm⟩
  · subst h1
    rw [hi] at hk
    cases hk
    exact he rfl
  · exact h ⟨i, k, x, y, h1, hi, hk, e, he⟩

set_option maxRecDepth 100000 in
set_option maxHeartbeats 2000000 in
theorem lawUnlike11 (A : Option Addr) (c : Nat) (l : List Op) (w : World) (hl : l.length ≤ maxLen) (hA : R cOp 0 w A l) :
    Calls Try.prog 11 #[.slice A l.length c] w fun e w' => ∃ b, e = .returned (.bool b) ∧ (b = false → ¬ Unlike l) ∧ Bl w w' := by
  unfold maxLen at hl
  go_enter Try.func11, Try.ntmps11
  go_wp2
  go_loopw [3] (fun s3 wr => Bl w wr ∧ ∃ i : Nat, i ≤ l.length ∧ s3 = .int .i64 i ∧ Hid (∀ (p k : Nat) (x y : Op), p < i → k < p → l[p]? = some x → l[k]? = some y → x.id = y.id → x = y)) (fun s3 _ => l.length - (intOf s3).toNat)
  case atStart => exact ⟨Bl.refl _, 0, Nat.zero_le _, rfl, fun p k x y h => by omega⟩
  case round =>
    obtain ⟨hbl, i, hi, rfl, hno⟩ := hrel
    by_cases hlt : i < l.length
    · have hii : (i : Int) < (l.length : Int) := by omega
      obtain ⟨b, off, rfl, _, hb⟩ := hA.addr (by omega)
      obtain ⟨x, hx⟩ := get_lt hlt
      go_wp2
      go_loopw [4] (fun s4 wr => Bl w wr ∧ ∃ k : Nat, k ≤ i ∧ s4 = .int .i64 k ∧ Hid (∀ (q : Nat) (y : Op), q < k → l[q]? = some y → x.id = y.id → x = y)) (fun s4 _ => i - (intOf s4).toNat)
      case atStart => exact ⟨hbl, 0, Nat.zero_le _, rfl, fun q y h => by omega⟩
      case round =>
        obtain ⟨hblq, k, hk, rfl, hnk⟩ := hrel
        by_cases hkt : k < i
        · have hki : (k : Int) < (i : Int) := by omega
          have hkl : (k : Int) < (l.length : Int) := by omega
          obtain ⟨y, hy⟩ := get_lt (show k < l.length by omega)
          obtain ⟨_, ho, A1, a1, ha1, ha2, hA1, c0, c1, c2, c3, c4⟩ := (hA.bl hblq).op hx
          obtain ⟨_, ho', B1, b1, hb1, hb2, hB1, d0, d1, d2, d3, d4⟩ := (hA.bl hblq).op hy
          have hbq := Nat.lt_of_lt_of_le hb hblq.size
          have C0 := fun p : Wd wr => Wd.cell c0 hbq p
          have C1 := fun p : Wd wr => Wd.cell c1 hbq p
          have C2 := fun p : Wd wr => Wd.cell c2 hbq p
          have C3 := fun p : Wd wr => Wd.cell c3 hbq p
          have C4 := fun p : Wd wr => Wd.cell c4 hbq p
          have D0 := fun p : Wd wr => Wd.cell d0 hbq p
          have D1 := fun p : Wd wr => Wd.cell d1 hbq p
          have D2 := fun p : Wd wr => Wd.cell d2 hbq p
          have D3 := fun p : Wd wr => Wd.cell d3 hbq p
          have D4 := fun p : Wd wr => Wd.cell d4 hbq p
          clear c0 c1 c2 c3 c4 d0 d1 d2 d3 d4
          have hxo : OpIn wr x A1 a1 := ⟨ho, ha1, ha2, hA1⟩
          have hyo : OpIn wr y B1 b1 := ⟨ho', hb1, hb2, hB1⟩
          have hcall := fun pw : Wd wr => opSame x y A1 B1 a1 b1 pw.v (hxo.bl pw.h) (hyo.bl pw.h)
          have heq := run_eqId x.id y.id
          cases h1 : neqId x.id y.id
          · rw [h1] at heq
            have hid := neqId_false h1
            cases hq : eqOp x y
            · have g := hide (show Unlike l from ⟨i, k, x, y, hkt, hx, hy, hid, eqOp_false hq⟩)
              rw [hq] at hcall
              have hcall := hide hcall
              clear hq h1 hx hy hid
              go_wp2
              (refine wp_region_wd (by kernel_rfl) (by kernel_rfl) ?_
               repeat (go_big_quiet_step ((go_at_call 20; exact Calls.wd (hcall.out _))))
               refine wpQuiet_nil ?_
               intro w2 hw'
               obtain ⟨⟨wx, hb2⟩, hw''⟩ := hw'
               subst hw'')
              go_wp2
              go_ret
              exact ⟨true, rfl, (fun h => by cases h), hblq.trans hb2⟩
            · have hxy := eqOp_true hq
              have g := hide (show ∀ (q : Nat) (z : Op), q < k + 1 → l[q]? = some z → x.id = z.id → x = z from fun q z hq hz e => by
                by_cases h : q = k
                · subst h; rw [hy] at hz; cases hz; exact hxy
                · exact hnk.out q z (by omega) hz e)
              rw [hq] at hcall
              have hcall := hide hcall
              have hx' := hide hx
              clear hq h1 hx hy hid hxy
              go_wp2
              (refine wp_region_wd (by kernel_rfl) (by kernel_rfl) ?_
               repeat (go_big_quiet_step ((go_at_call 20; exact Calls.wd (hcall.out _))))
               refine wpQuiet_nil ?_
               intro w2 hw'
               obtain ⟨⟨wx, hb2⟩, hw''⟩ := hw'
               subst hw'')
              go_wp2
              go_roundw
              case rel => exact ⟨hblq.trans hb2, k + 1, by omega, by go_num, g.out⟩
              case measure => simp [intOf]; omega
          · rw [h1] at heq
            have hid := neqId_true h1
            have g := hide (show ∀ (q : Nat) (z : Op), q < k + 1 → l[q]? = some z → x.id = z.id → x = z from fun q z hq hz e => by
              by_cases h : q = k
              · subst h; rw [hy] at hz; cases hz; exact absurd e hid
              · exact hnk.out q z (by omega) hz e)
            have hx' := hide hx
            clear h1 hx hy hid hcall
            go_wp2
            (refine wp_region_wd (by kernel_rfl) (by kernel_rfl) ?_
             repeat (go_big_quiet_step ((fail)))
             refine wpQuiet_nil ?_
             intro w2 hw'
             obtain ⟨⟨wx, hb2⟩, hw''⟩ := hw'
             subst hw'')
            go_wp2
            go_roundw
            case rel => exact ⟨hblq.trans hb2, k + 1, by omega, by go_num, g.out⟩
            case measure => simp [intOf]; omega
        · have hkk : k = i := by omega
          have g := hide (show ∀ (p q : Nat) (z y : Op), p < i + 1 → q < p → l[p]? = some z → l[q]? = some y → z.id = y.id → z = y from fun p q z y hp hq hz hy e => by
            by_cases h : p = i
            · subst h; rw [hx] at hz; cases hz; exact hnk.out q y (by omega) hy e
            · exact hno.out p q z y (by omega) hq hz hy e)
          have hki : ¬ (k : Int) < (i : Int) := by omega
          clear hx hkk
          go_wp2
          go_roundw
          case rel => exact ⟨hblq, i + 1, by omega, by go_num, g.out⟩
          case measure => simp [intOf]; omega
    · have hil : l.length ≤ i := by omega
      have g := hide (show ¬ Unlike l from fun ⟨p, k, x, y, h1, h2, h3, h4, h5⟩ => h5 (hno.out p k x y (by have := (List.getElem?_eq_some_iff.1 h2).1; omega) h1 h2 h3 h4))
      clear hno
      go_wp2
      go_ret
      exact ⟨false, rfl, fun _ => g.out, hbl⟩
end Go.Proofs.Ytedcopjpgijpjaa
