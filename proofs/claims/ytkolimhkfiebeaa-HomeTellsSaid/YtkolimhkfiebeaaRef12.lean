/-
  The walks of the references Target of layer 9, Ended of layer 12.
-/
import Derived.Test.YtkolimhkfiebeaaHeld
import Derived.Test.YtkolimhkfiebeaaMarkPlain
namespace Go.Proofs.Ytkolimhkfiebeaa
open Go.RowKit

set_option maxRecDepth 100000 in
set_option maxHeartbeats 1000000 in
theorem refTarget09 (x : Op) (A : Option Addr) (c : Nat) (w : World) (hx : OpIn w x A c) (hp : placeMay x.pl = true) :
    Calls Try.prog 163 #[.agg #[.int .u8 x.kind, .int .u32 x.id.t, .int .u8 x.id.r, .slice A x.pl.length c, .int .i64 x.pt]] w fun e w' => e = .returned (.agg #[.int .u32 (placeFin x.pl).t, .int .u8 (placeFin x.pl).r]) ∧ Bl w w' := by
  obtain ⟨W, hW⟩ : ∃ W, W = (w.alloc (.cells #[Value.int IntKind.u8 x.kind, Value.int IntKind.u32 x.id.t, Value.int IntKind.u8 x.id.r, Value.slice A x.pl.length c, Value.int IntKind.i64 x.pt] 68)).alloc (.cells #[Value.int IntKind.u32 0, Value.int IntKind.u8 0] 36) := ⟨_, rfl⟩
  have hbW : Bl w W := by rw [hW]; exact ((Bl.refl _).alloc _).alloc _
  have at0 : OpBox W w.heap.size x A c := by rw [hW]; exact (OpBox.new w x A c _).bl ((Bl.refl _).alloc _)
  have at1 : IdBox W (w.heap.size + 1) ⟨0, 0⟩ := by
    have h := IdBox.new (w.alloc (.cells #[Value.int IntKind.u8 x.kind, Value.int IntKind.u32 x.id.t, Value.int IntKind.u8 x.id.r, Value.slice A x.pl.length c, Value.int IntKind.i64 x.pt] 68)) ⟨0, 0⟩ 36
    rw [World.size_alloc w] at h
    rw [hW]
    exact h
  have hf := hide fun V (hv : Bl w V) => refFinal06 A c x.pl V hp (hx.hR.bl hv)
  obtain ⟨x0, x1, x2, x3, x4⟩ := at0.cells
  generalize placeFin x.pl = q at *
  go_enter Try.func163, Try.ntmps163
  go_wp2_with fail
  rw [← hW]
  clear hW
  refine (hf.out _ hbW).mono ?_
  rintro e w1 ⟨rfl, hb1⟩
  obtain ⟨y0, y1, f0, f1⟩ := at1.bl hb1
  have hyl := (at1.bl hb1).lt
  have hfin := hide (show Bl w ((w1.setCell ⟨w.heap.size + 1, 0, none⟩ (.int .u32 q.t)).setCell ⟨w.heap.size + 1, 1, none⟩ (.int .u8 q.r)) from ((hbW.trans hb1).setCell (Nat.le_succ _) _).setCell (Nat.le_succ _) _)
  go_wp2_with fail
  refine bodyPost_ret (v := .agg #[.int .u32 q.t, .int .u8 q.r]) (by simp [results, Try.results163, go_sem, y0, y1]) rfl ?_
  exact ⟨rfl, hfin.out⟩

def endX (s : Id) (o : Op) : Bool := decide (o.kind = 4) && decide (placeFin o.pl = s)

set_option maxRecDepth 100000 in
set_option maxHeartbeats 2000000 in
theorem refEnded12 (A : Option Addr) (c : Nat) (l : List Op) (s : Id) (w : World) (hl : l.length ≤ maxLen) (hp : ∀ x ∈ l, placeMay x.pl = true) (hA : R cOp 0 w A l) :
    Calls Try.prog 134 #[.slice A l.length c, .agg #[.int .u32 s.t, .int .u8 s.r]] w fun e w' => e = .returned (.bool (endedF l s)) ∧ Bl w w' := by
  unfold maxLen at hl
  obtain ⟨W, hW⟩ : ∃ W, W = w.alloc (.cells #[Value.int IntKind.u32 s.t, Value.int IntKind.u8 s.r] 36) := ⟨_, rfl⟩
  have hbW : Bl w W := by rw [hW]; exact (Bl.refl _).alloc _
  have at0 : IdBox W w.heap.size s := by rw [hW]; exact IdBox.new w s _
  obtain ⟨T, hT⟩ : ∃ T, T = endedF l s := ⟨_, rfl⟩
  rw [← hT]
  have hyes := hide (show (∃ x ∈ l, endX s x = true) → true = T from fun h => by
    rw [hT, eq_comm]
    unfold endedF
    rw [List.any_eq_true]
    exact h)
  have hno := hide (show (∀ x ∈ l, endX s x = false) → false = T from fun h => by
    rw [hT, eq_comm]
    unfold endedF
    rw [List.any_eq_false]
    exact fun x hx e => by
      have := h x hx
      unfold endX at this
      rw [e] at this
      cases this)
  clear hT
  replace hp := hide hp
  go_enter Try.func134, Try.ntmps134
  go_wp2_with fail
  rw [← hW]
  clear hW
  go_loopw [5] (fun i wr => Bl W wr ∧ ∃ k : Nat, k ≤ l.length ∧ i = .int .i64 k ∧ Hid (∀ y ∈ l.take k, endX s y = false)) (fun i _ => l.length - (intOf i).toNat)
  case atStart => exact ⟨Bl.refl _, 0, Nat.zero_le _, rfl, fun y hy => by simp at hy⟩
  case round =>
    obtain ⟨hbl, k, hk, rfl, hf⟩ := hrel
    by_cases hlt : k < l.length
    · obtain ⟨b, off, rfl, _, hb⟩ := hA.addr (by omega)
      obtain ⟨x, hx⟩ := get_lt hlt
      obtain ⟨_, ho, S, sc, s1, s2, hS, c0, c1, c2, c3, c4⟩ := hA.op hx
      have hki : (k : Int) < (l.length : Int) := by omega
      have hbwr := hbW.trans hbl
      have hbr := Nat.lt_of_lt_of_le hb hbwr.size
      have hsl := (at0.bl hbl).lt
      have hpx := hide (hp.out x (List.mem_of_getElem? hx))
      have hin := hide (show OpIn wr x S sc from ⟨ho, s1, s2, hS.bl hbwr⟩)
      have C0 := fun p : Wd wr => Wd.cell ((hbwr.cell hb).trans c0) hbr p
      have C1 := fun p : Wd wr => Wd.cell ((hbwr.cell hb).trans c1) hbr p
      have C2 := fun p : Wd wr => Wd.cell ((hbwr.cell hb).trans c2) hbr p
      have C3 := fun p : Wd wr => Wd.cell ((hbwr.cell hb).trans c3) hbr p
      have C4 := fun p : Wd wr => Wd.cell ((hbwr.cell hb).trans c4) hbr p
      have S0 := fun p : Wd wr => Wd.cell (at0.bl hbl).c0 hsl p
      have S1 := fun p : Wd wr => Wd.cell (at0.bl hbl).c1 hsl p
      have hend : endX s x = (decide (x.kind = 4) && !neqId (placeFin x.pl) s) := by unfold endX neqId; rw [Bool.not_not]
      have hstep := hide (show endX s x = false → ∀ y ∈ l.take (k + 1), endX s y = false from fun h y hy => by
        rw [take_snoc hx, List.mem_append] at hy
        rcases hy with hy | hy
        · exact hf.out y hy
        · rw [List.mem_singleton] at hy; subst hy; exact h)
      have hit := hide (show endX s x = true → true = T from fun h => hyes.out ⟨x, List.mem_of_getElem? hx, h⟩)
      have heq := run_eqId (placeFin x.pl) s
      have htg := hide fun p : Wd wr => refTarget09 x S sc p.v (hin.out.bl p.h) hpx.out
      clear hx hf c0 c1 c2 c3 c4
      generalize placeFin x.pl = q at *
      by_cases hk4 : x.kind = 4
      · have e4 : (x.kind == 4) = true := by simp [hk4]
        rw [decide_eq_true hk4, Bool.true_and] at hend
        replace hk4 := hide hk4
        cases hq : neqId q s
        · have g := hide (hit.out (by rw [hend, hq]; rfl))
          rw [hq] at heq
          clear hend hq
          go_wp2_with fail
          (refine wp_region_wd (by kernel_rfl) (by kernel_rfl) ?_
           repeat (go_big_quiet_step ((go_at_call 163; exact Calls.wd (htg.out _))))
           refine wpQuiet_nil ?_
           intro w2 hw'
           obtain ⟨⟨wx, hb2⟩, hw''⟩ := hw'
           subst hw'')
          go_wp2_with fail
          go_ret
          exact ⟨ret_bool g.out, hbwr.trans hb2⟩
        · have g := hide (hstep.out (by rw [hend, hq]; rfl))
          rw [hq] at heq
          clear hend hq
          go_wp2_with fail
          (refine wp_region_wd (by kernel_rfl) (by kernel_rfl) ?_
           repeat (go_big_quiet_step ((go_at_call 163; exact Calls.wd (htg.out _))))
           refine wpQuiet_nil ?_
           intro w2 hw'
           obtain ⟨⟨wx, hb2⟩, hw''⟩ := hw'
           subst hw'')
          go_wp2_with fail
          go_roundw
          case rel => exact ⟨hbl.trans hb2, k + 1, by omega, by go_num, g.out⟩
          case measure => simp [intOf]; omega
      · have e4 : (x.kind == 4) = false := by simp [hk4]
        have g := hide (hstep.out (by rw [hend, decide_eq_false hk4]; rfl))
        replace hk4 := hide hk4
        clear hend
        go_wp2_with fail
        (refine wp_region_wd (by kernel_rfl) (by kernel_rfl) ?_
         repeat (go_big_quiet_step ((fail)))
         refine wpQuiet_nil ?_
         intro w2 hw'
         obtain ⟨⟨wx, hb2⟩, hw''⟩ := hw'
         subst hw'')
        go_wp2_with fail
        go_roundw
        case rel => exact ⟨hbl.trans hb2, k + 1, by omega, by go_num, g.out⟩
        case measure => simp [intOf]; omega
    · have hkl : k = l.length := by omega
      have g := hide (hno.out fun x hx => hf.out x (by rw [hkl, List.take_length]; exact hx))
      have hki : ¬ (k : Int) < (l.length : Int) := by omega
      clear hf
      replace hkl := hide hkl
      go_wp2_with fail
      go_ret
      exact ⟨ret_bool g.out, hbW.trans hbl⟩
end Go.Proofs.Ytkolimhkfiebeaa
