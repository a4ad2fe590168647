/-
  The walks of slices.ContainsFunc at operations, of marks.Joined and its closure.
-/
import Derived.Test.YtkolimhkfiebeaaLessA
import Derived.Test.YtkolimhkfiebeaaLiveP
namespace Go.Proofs.Ytkolimhkfiebeaa
open Go.RowKit

set_option maxRecDepth 100000 in
set_option maxHeartbeats 1000000 in
theorem opContainsFunc (fn : FuncId) (ps : Array Value) (hfe : ∀ args w, (callFunc fn args).run Try.prog w = .ok (.enter fn args) w) (A : Option Addr) (c : Nat) (l : List Op) (p : Op → Bool) (w0 w : World) (hb0 : Bl w0 w) (hl : l.length ≤ 1048576) (hA : R cOp 0 w A l) (hp : PredO w0 fn ps p) :
    Calls Try.prog 114 #[.slice A l.length c, .func (.func fn) #[] ps] w fun e w' => e = .returned (.bool (l.any p)) ∧ Bl w w' := by
  have hix := hide (opIndexFunc fn ps hfe A c l p w0 w hb0 hl hA hp)
  obtain ⟨T, hT⟩ : ∃ T, T = l.any p := ⟨_, rfl⟩
  rw [← hT]
  replace hT := hide hT
  go_enter Try.func114, Try.ntmps114
  go_wp2_with fail
  refine hix.out.mono ?_
  rintro e w1 ⟨r, rfl, hfst, hb1⟩
  rcases hfst with ⟨rfl, hno⟩ | ⟨k, x, rfl, hx, hpx, -⟩
  · have g := hide (show false = T by
      rw [hT.out, eq_comm, List.any_eq_false]
      intro x hx
      rw [hno x hx]
      decide)
    clear hno
    go_wp2_with fail
    go_ret
    exact ⟨ret_bool g.out, hb1⟩
  · have g := hide (show true = T by
      rw [hT.out, eq_comm, List.any_eq_true]
      exact ⟨x, List.mem_of_getElem? hx, hpx⟩)
    have hk : decide ((0 : Int) ≤ (k : Int)) = true := by simp
    clear hx hpx
    go_wp2_with fail
    go_ret
    exact ⟨ret_bool g.out, hb1⟩

def joinedX (s : Id) (o : Op) : Bool := decide (o.kind = 4) && decide (placeFin o.pl = s)

set_option maxRecDepth 100000 in
set_option maxHeartbeats 1000000 in
theorem joined1 (x : Op) (A : Option Addr) (c Y : Nat) (s : Id) (w : World) (hx : OpIn w x A c) (hY : IdBox w Y s) :
    Calls Try.prog 113 #[.agg #[.int .u8 x.kind, .int .u32 x.id.t, .int .u8 x.id.r, .slice A x.pl.length c, .int .i64 x.pt], .pointer (some ⟨Y, 0, none⟩)] w fun e w' => e = .returned (.bool (joinedX s x)) ∧ Bl w w' := by
  obtain ⟨W, hW⟩ : ∃ W, W = w.alloc (.cells #[Value.int IntKind.u8 x.kind, Value.int IntKind.u32 x.id.t, Value.int IntKind.u8 x.id.r, Value.slice A x.pl.length c, Value.int IntKind.i64 x.pt] 68) := ⟨_, rfl⟩
  have hbW : Bl w W := by rw [hW]; exact (Bl.refl _).alloc _
  have at0 : OpBox W w.heap.size x A c := by rw [hW]; exact OpBox.new w x A c _
  have atY := hY.bl hbW
  have hla := fun p : Wd W => placeLast A c x.pl p.v hx.small (hx.hR.bl (hbW.trans p.h))
  obtain ⟨x0, x1, x2, x3, x4⟩ := at0.cells
  have hal := at0.lt
  have hyl := atY.lt
  have X0 := fun p : Wd W => Wd.cell x0 hal p
  have X3 := fun p : Wd W => Wd.cell x3 hal p
  have Y0 := fun p : Wd W => Wd.cell atY.c0 hyl p
  have Y1 := fun p : Wd W => Wd.cell atY.c1 hyl p
  obtain ⟨T, hT⟩ : ∃ T, T = joinedX s x := ⟨_, rfl⟩
  rw [← hT]
  have hjn : joinedX s x = (decide (x.kind = 4) && !neqId (placeFin x.pl) s) := by unfold joinedX neqId; rw [Bool.not_not]
  rw [hjn] at hT
  have heq := run_eqId (placeFin x.pl) s
  generalize placeFin x.pl = q at *
  clear hjn x0 x1 x2 x3 x4
  by_cases hk4 : x.kind = 4
  · have e4 : (x.kind == 4) = true := by simp [hk4]
    rw [decide_eq_true hk4, Bool.true_and] at hT
    replace hk4 := hide hk4
    obtain ⟨v, hv⟩ : ∃ v, v = neqId q s := ⟨_, rfl⟩
    rw [← hv] at hT heq
    have g := hide hT
    replace hla := hide hla
    clear hT hv
    go_enter Try.func113, Try.ntmps113
    go_wp2_with fail
    rw [← hW]
    clear hW
    (refine wp_region_wd (by kernel_rfl) (by kernel_rfl) ?_
     repeat (go_big_quiet_step ((go_at_call 54; exact Calls.wd (hla.out _))))
     refine wpQuiet_nil ?_
     intro w2 hw'
     obtain ⟨⟨wx, hb2⟩, hw''⟩ := hw'
     subst hw'')
    go_wp2_with fail
    go_ret
    exact ⟨ret_bool g.out.symm, hbW.trans hb2⟩
  · have e4 : (x.kind == 4) = false := by simp [hk4]
    have g := hide (show false = T by rw [hT, decide_eq_false hk4]; rfl)
    replace hk4 := hide hk4
    clear hT hla
    go_enter Try.func113, Try.ntmps113
    go_wp2_with fail
    rw [← hW]
    clear hW
    (refine wp_region_wd (by kernel_rfl) (by kernel_rfl) ?_
     repeat (go_big_quiet_step ((fail)))
     refine wpQuiet_nil ?_
     intro w2 hw'
     obtain ⟨⟨wx, hb2⟩, hw''⟩ := hw'
     subst hw'')
    go_wp2_with fail
    go_ret
    exact ⟨ret_bool g.out, hbW.trans hb2⟩

set_option maxRecDepth 100000 in
set_option maxHeartbeats 1000000 in
theorem marksJoined (A : Option Addr) (c : Nat) (l : List Op) (s : Id) (w : World) (hl : l.length ≤ maxLen) (hA : R cOp 0 w A l) :
    Calls Try.prog 53 #[.slice A l.length c, .agg #[.int .u32 s.t, .int .u8 s.r]] w fun e w' => e = .returned (.bool (bagMay l && endedF l s)) ∧ Bl w w' := by
  have hck := fun V (hv : Bl w V) => bagCheck A c l V hl (hA.bl hv)
  obtain ⟨W, hW⟩ : ∃ W, W = w.alloc (.cells #[Value.int IntKind.u32 s.t, Value.int IntKind.u8 s.r] 36) := ⟨_, rfl⟩
  have hbW : Bl w W := by rw [hW]; exact (Bl.refl _).alloc _
  have at0 : IdBox W w.heap.size s := by rw [hW]; exact IdBox.new w s _
  cases h : bagMay l
  · rw [h] at hck
    replace hck := hide hck
    clear h
    go_enter Try.func53, Try.ntmps53
    go_wp2_with fail
    rw [← hW]
    clear hW
    refine (hck.out _ hbW).mono ?_
    rintro e w1 ⟨rfl, hb1⟩
    go_wp2_with fail
    go_ret
    exact ⟨rfl, hbW.trans hb1⟩
  · rw [h] at hck
    replace hck := hide hck
    have hl1 : l.length ≤ 1024 := (bagMay_parts h).1
    have hp : PredO W 113 #[.pointer (some ⟨w.heap.size, 0, none⟩)] (joinedX s) := fun V x A c hV hx => joined1 x A c w.heap.size s V hx (at0.bl hV)
    have hcf := hide fun V (hv : Bl W V) => opContainsFunc 113 #[.pointer (some ⟨w.heap.size, 0, none⟩)] (enters_of Try.func113 (by kernel_rfl) rfl) A c l (joinedX s) W V hv (by omega) (hA.bl (hbW.trans hv)) hp
    rw [show (true && endedF l s) = l.any (joinedX s) from Bool.true_and _]
    generalize l.any (joinedX s) = T at *
    clear h hp
    go_enter Try.func53, Try.ntmps53
    go_wp2_with fail
    rw [← hW]
    clear hW
    refine (hck.out _ hbW).mono ?_
    rintro e w1 ⟨rfl, hb1⟩
    go_wp2_with fail
    refine (hcf.out _ hb1).mono ?_
    rintro e w2 ⟨rfl, hb2⟩
    go_wp2_with fail
    go_ret
    exact ⟨rfl, hbW.trans (hb1.trans hb2)⟩
end Go.Proofs.Ytkolimhkfiebeaa
