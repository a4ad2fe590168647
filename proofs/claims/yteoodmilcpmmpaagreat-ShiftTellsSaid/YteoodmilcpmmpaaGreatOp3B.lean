/-
  The walks of op.right, op.Check, Same, Twin.
  The walks of op.Same, op.Twin.
-/
import Derived.Test.YteoodmilcpmmpaaGreatRunB
import Derived.Laws.EntriesVeiled
namespace Go.Proofs.YteoodmilcpmmpaaGreat

open Go.RowKit

def rightBox (w w' : World) : Prop := w'.cell? ⟨w.heap.size, 0, none⟩ = some (.func (.func 157) #[] #[])

set_option maxRecDepth 100000 in
set_option maxHeartbeats 1000000 in
theorem opRight0 (w : World) : Calls Tryz.prog 110 #[.int .u8 0] w fun e w' => e = .returned .nilFunc ∧ Bl w w' := by
  have hix : ∀ (v0 v1 v2 v3 v4 : Value) (W : World), (Instr.index 190 (.agg #[v0, v1, v2, v3, v4]) (.int .u8 0)).run Tryz.prog W = .ok v0 W := fun _ _ _ _ _ _ => by kernel_rfl
  go_enter Tryz.func110, Tryz.ntmps110
  go_wp2
  go_ret
  exact ⟨rfl, (Bl.refl _).alloc _⟩

set_option maxRecDepth 100000 in
set_option maxHeartbeats 1000000 in
theorem opRight5 (k : Int) (w : World) (hk : 5 ≤ k) : Calls Tryz.prog 110 #[.int .u8 k] w fun e w' => e = .returned .nilFunc ∧ Bl w w' := by
  go_enter Tryz.func110, Tryz.ntmps110
  go_wp2
  go_ret
  exact ⟨rfl, Bl.refl _⟩

set_option maxRecDepth 100000 in
set_option maxHeartbeats 1000000 in
theorem opRight1 (w : World) : Calls Tryz.prog 110 #[.int .u8 1] w fun e w' => e = .returned (.func (.func 159) #[] #[.pointer (some ⟨w.heap.size, 0, none⟩)]) ∧ Bl w w' ∧ rightBox w w' := by
  have hix : ∀ (v0 v1 v2 v3 v4 : Value) (W : World), (Instr.index 190 (.agg #[v0, v1, v2, v3, v4]) (.int .u8 1)).run Tryz.prog W = .ok v1 W := fun _ _ _ _ _ _ => by kernel_rfl
  go_enter Tryz.func110, Tryz.ntmps110
  go_wp2
  go_ret
  refine ⟨rfl, (Bl.refl _).alloc _, ?_⟩
  exact (At.new w [.func (.func 157) #[] #[]] _ 0 _ rfl).1

set_option maxRecDepth 100000 in
set_option maxHeartbeats 1000000 in
theorem opRight2 (w : World) : Calls Tryz.prog 110 #[.int .u8 2] w fun e w' => e = .returned (.func (.func 161) #[] #[.pointer (some ⟨w.heap.size, 0, none⟩)]) ∧ Bl w w' ∧ rightBox w w' := by
  have hix : ∀ (v0 v1 v2 v3 v4 : Value) (W : World), (Instr.index 190 (.agg #[v0, v1, v2, v3, v4]) (.int .u8 2)).run Tryz.prog W = .ok v2 W := fun _ _ _ _ _ _ => by kernel_rfl
  go_enter Tryz.func110, Tryz.ntmps110
  go_wp2
  go_ret
  refine ⟨rfl, (Bl.refl _).alloc _, ?_⟩
  exact (At.new w [.func (.func 157) #[] #[]] _ 0 _ rfl).1

set_option maxRecDepth 100000 in
set_option maxHeartbeats 1000000 in
theorem opRight3 (w : World) : Calls Tryz.prog 110 #[.int .u8 3] w fun e w' => e = .returned (.func (.func 158) #[] #[]) ∧ Bl w w' := by
  have hix : ∀ (v0 v1 v2 v3 v4 : Value) (W : World), (Instr.index 190 (.agg #[v0, v1, v2, v3, v4]) (.int .u8 3)).run Tryz.prog W = .ok v3 W := fun _ _ _ _ _ _ => by kernel_rfl
  go_enter Tryz.func110, Tryz.ntmps110
  go_wp2
  go_ret
  exact ⟨rfl, (Bl.refl _).alloc _⟩

set_option maxRecDepth 100000 in
set_option maxHeartbeats 1000000 in
theorem opRight4 (w : World) : Calls Tryz.prog 110 #[.int .u8 4] w fun e w' => e = .returned (.func (.func 158) #[] #[]) ∧ Bl w w' := by
  have hix : ∀ (v0 v1 v2 v3 v4 : Value) (W : World), (Instr.index 190 (.agg #[v0, v1, v2, v3, v4]) (.int .u8 4)).run Tryz.prog W = .ok v4 W := fun _ _ _ _ _ _ => by kernel_rfl
  go_enter Tryz.func110, Tryz.ntmps110
  go_wp2
  go_ret
  exact ⟨rfl, (Bl.refl _).alloc _⟩

theorem opMay_kind {x : Op} (h : x.kind < 1 ∨ 4 < x.kind) : opMay x = false := by
  unfold opMay
  rcases h with h | h
  · rw [decide_eq_false (show ¬ 1 ≤ x.kind by omega)]; rfl
  · rw [decide_eq_false (show ¬ x.kind ≤ 4 by omega), Bool.and_false]; rfl

theorem opMay_in {x : Op} (h1 : 1 ≤ x.kind) (h2 : x.kind ≤ 4) : opMay x = (idMay x.id && placeMay x.pl && opTail x) := by
  unfold opMay
  rw [decide_eq_true h1, decide_eq_true h2]
  rfl

set_option maxRecDepth 100000 in
set_option maxHeartbeats 2000000 in
theorem opCheck1 (x : Op) (A : Option Addr) (c : Nat) (w : World) (hx : OpIn w x A c) (hk : x.kind = 1) :
    Calls Tryz.prog 55 #[.agg #[.int .u8 x.kind, .int .u32 x.id.t, .int .u8 x.id.r, .slice A x.pl.length c, .int .i64 x.pt]] w fun e w' => e = .returned (.int .i64 (okOr 8 (opMay x))) ∧ Bl w w' := by
  obtain ⟨N, hN⟩ : ∃ N, N = okOr 8 (opMay x) := ⟨_, rfl⟩
  rw [← hN]
  rw [opMay_in (by omega) (by omega)] at hN
  have hcl0 : ∀ U V, OpIn V x A c → V.cell? ⟨U, 0, none⟩ = some (.func (.func 157) #[] #[]) → Calls Tryz.prog 159 #[.agg #[.int .u8 x.kind, .int .u32 x.id.t, .int .u8 x.id.r, .slice A x.pl.length c, .int .i64 x.pt], .pointer (some ⟨U, 0, none⟩)] V fun e w' => e = .returned (.bool (opTail x)) ∧ Bl V w' := fun U V h hY => by
    have := opInsert x A c U V h hY
    rwa [show (!neqId (placeFin x.pl) x.id && pointIs x.pt) = opTail x by unfold opTail; rw [if_pos hk]] at this
  rw [hk] at hcl0
  replace hcl0 := hide hcl0
  have hnf : ∀ (f : Fn) (a b : Array Value) (V : World), (binOp .eql 121 (.func f a b) .nilFunc).run Tryz.prog V = .ok (.bool false) V := fun _ _ _ _ => by kernel_rfl
  obtain ⟨W, hW⟩ : ∃ W, W = w.alloc (.cells #[Value.int IntKind.u8 1, Value.int IntKind.u32 x.id.t, Value.int IntKind.u8 x.id.r, Value.slice A x.pl.length c, Value.int IntKind.i64 x.pt] 47) := ⟨_, rfl⟩
  have hbW : Bl w W := by rw [hW]; exact (Bl.refl _).alloc _
  have hat : OpBox W w.heap.size x A c := by rw [hW, ← hk]; exact OpBox.new w x A c _
  have h5 := hide (fun V => stampCheck x.id V)
  have h6 := hide (fun V (hb : Bl w V) => placeCheck A c x.pl V hx.small (hx.hR.bl hb))
  have hcel : ∀ V, Bl W V → V.cell? ⟨w.heap.size, 0, none⟩ = some (.int .u8 1) ∧ V.cell? ⟨w.heap.size, 1, none⟩ = some (.int .u32 x.id.t) ∧ V.cell? ⟨w.heap.size, 2, none⟩ = some (.int .u8 x.id.r) ∧ V.cell? ⟨w.heap.size, 3, none⟩ = some (.slice A x.pl.length c) ∧ V.cell? ⟨w.heap.size, 4, none⟩ = some (.int .i64 x.pt) ∧ w.heap.size < V.heap.size := fun V hV => by
    have h := (hat.bl hV).cells
    rw [hk] at h
    exact ⟨h.1, h.2.1, h.2.2.1, h.2.2.2.1, h.2.2.2.2, (hat.bl hV).lt⟩
  replace hcel := hide hcel
  rw [hk]
  replace hk := hide hk
  cases hi : idMay x.id
  · rw [hi] at hN h5
    have g := hide (show 8 = N from hN.symm)
    replace h5 := hide h5.out
    clear hN hi hat
    go_enter Tryz.func55, Tryz.ntmps55
    go_wp2_with fail
    rw [← hW]
    clear hW
    refine (opRight1 _).mono ?_
    rintro e w1 ⟨rfl, hb1, hbx⟩
    obtain ⟨c0, c1, c2, c3, c4, c5⟩ := hcel.out _ hb1
    go_wp2_with fail
    refine (h5.out _).mono ?_
    rintro e w2 ⟨rfl, hb2⟩
    rw [okOr_false]
    go_wp2_with fail
    go_ret
    exact ⟨ret_int g.out, hbW.trans (hb1.trans hb2)⟩
  rw [hi] at hN h5
  replace h5 := hide h5.out
  clear hi
  cases hp : placeMay x.pl
  · rw [hp] at hN h6
    have g := hide (show 8 = N from hN.symm)
    replace h6 := hide h6.out
    clear hN hp hat
    go_enter Tryz.func55, Tryz.ntmps55
    go_wp2_with fail
    rw [← hW]
    clear hW
    refine (opRight1 _).mono ?_
    rintro e w1 ⟨rfl, hb1, hbx⟩
    obtain ⟨c0, c1, c2, c3, c4, c5⟩ := hcel.out _ hb1
    go_wp2_with fail
    refine (h5.out _).mono ?_
    rintro e w2 ⟨rfl, hb2⟩
    rw [okOr_true]
    clear c0 c1 c2 c3 c4 c5
    obtain ⟨c0, c1, c2, c3, c4, c5⟩ := hcel.out _ (hb1.trans hb2)
    go_wp2_with fail
    refine (h6.out _ (hbW.trans (hb1.trans hb2))).mono ?_
    rintro e w3 ⟨rfl, hb3⟩
    rw [okOr_false]
    go_wp2_with fail
    go_ret
    exact ⟨ret_int g.out, hbW.trans ((hb1.trans hb2).trans hb3)⟩
  rw [hp] at hN h6
  replace h6 := hide h6.out
  clear hp
  have hN' : N = okOr 8 (opTail x) := hN
  clear hN
  generalize opTail x = bt at *
  go_enter Tryz.func55, Tryz.ntmps55
  go_wp2_with fail
  rw [← hW]
  clear hW
  refine (opRight1 _).mono ?_
  rintro e w1 ⟨rfl, hb1, hbx⟩
  obtain ⟨c0, c1, c2, c3, c4, c5⟩ := hcel.out _ hb1
  go_wp2_with fail
  refine (h5.out _).mono ?_
  rintro e w2 ⟨rfl, hb2⟩
  rw [okOr_true]
  clear c0 c1 c2 c3 c4 c5
  obtain ⟨c0, c1, c2, c3, c4, c5⟩ := hcel.out _ (hb1.trans hb2)
  go_wp2_with fail
  refine (h6.out _ (hbW.trans (hb1.trans hb2))).mono ?_
  rintro e w3 ⟨rfl, hb3⟩
  rw [okOr_true]
  clear c0 c1 c2 c3 c4 c5
  have hb13 := (hb1.trans hb2).trans hb3
  obtain ⟨c0, c1, c2, c3, c4, c5⟩ := hcel.out _ hb13
  go_wp2_with fail
  refine (hcl0.out W.heap.size w3 (hx.bl (hbW.trans hb13)) (((hb2.trans hb3).cell (World.block_lt_of_cell? _ _ hbx)).trans hbx)).mono ?_
  rintro e w4 ⟨rfl, hb4⟩
  cases bt
  · have g := hide (show 8 = N from hN'.symm)
    clear hN'
    go_wp2_with fail
    go_ret
    exact ⟨ret_int g.out, hbW.trans (hb13.trans hb4)⟩
  · have g := hide (show 0 = N from hN'.symm)
    clear hN'
    go_wp2_with fail
    go_ret
    exact ⟨ret_int g.out, hbW.trans (hb13.trans hb4)⟩

set_option maxRecDepth 100000 in
set_option maxHeartbeats 2000000 in
theorem opCheck2 (x : Op) (A : Option Addr) (c : Nat) (w : World) (hx : OpIn w x A c) (hk : x.kind = 2) :
    Calls Tryz.prog 55 #[.agg #[.int .u8 x.kind, .int .u32 x.id.t, .int .u8 x.id.r, .slice A x.pl.length c, .int .i64 x.pt]] w fun e w' => e = .returned (.int .i64 (okOr 8 (opMay x))) ∧ Bl w w' := by
  obtain ⟨N, hN⟩ : ∃ N, N = okOr 8 (opMay x) := ⟨_, rfl⟩
  rw [← hN]
  rw [opMay_in (by omega) (by omega)] at hN
  have hcl0 : ∀ U V, OpIn V x A c → V.cell? ⟨U, 0, none⟩ = some (.func (.func 157) #[] #[]) → Calls Tryz.prog 161 #[.agg #[.int .u8 x.kind, .int .u32 x.id.t, .int .u8 x.id.r, .slice A x.pl.length c, .int .i64 x.pt], .pointer (some ⟨U, 0, none⟩)] V fun e w' => e = .returned (.bool (opTail x)) ∧ Bl V w' := fun U V h hY => by
    have := opMark x A c U V h hY
    rwa [show (!neqId (placeFin x.pl) x.id && decide (x.pt = 0)) = opTail x by unfold opTail; rw [if_neg (by omega), if_pos hk]] at this
  rw [hk] at hcl0
  replace hcl0 := hide hcl0
  have hnf : ∀ (f : Fn) (a b : Array Value) (V : World), (binOp .eql 121 (.func f a b) .nilFunc).run Tryz.prog V = .ok (.bool false) V := fun _ _ _ _ => by kernel_rfl
  obtain ⟨W, hW⟩ : ∃ W, W = w.alloc (.cells #[Value.int IntKind.u8 2, Value.int IntKind.u32 x.id.t, Value.int IntKind.u8 x.id.r, Value.slice A x.pl.length c, Value.int IntKind.i64 x.pt] 47) := ⟨_, rfl⟩
  have hbW : Bl w W := by rw [hW]; exact (Bl.refl _).alloc _
  have hat : OpBox W w.heap.size x A c := by rw [hW, ← hk]; exact OpBox.new w x A c _
  have h5 := hide (fun V => stampCheck x.id V)
  have h6 := hide (fun V (hb : Bl w V) => placeCheck A c x.pl V hx.small (hx.hR.bl hb))
  have hcel : ∀ V, Bl W V → V.cell? ⟨w.heap.size, 0, none⟩ = some (.int .u8 2) ∧ V.cell? ⟨w.heap.size, 1, none⟩ = some (.int .u32 x.id.t) ∧ V.cell? ⟨w.heap.size, 2, none⟩ = some (.int .u8 x.id.r) ∧ V.cell? ⟨w.heap.size, 3, none⟩ = some (.slice A x.pl.length c) ∧ V.cell? ⟨w.heap.size, 4, none⟩ = some (.int .i64 x.pt) ∧ w.heap.size < V.heap.size := fun V hV => by
    have h := (hat.bl hV).cells
    rw [hk] at h
    exact ⟨h.1, h.2.1, h.2.2.1, h.2.2.2.1, h.2.2.2.2, (hat.bl hV).lt⟩
  replace hcel := hide hcel
  rw [hk]
  replace hk := hide hk
  cases hi : idMay x.id
  · rw [hi] at hN h5
    have g := hide (show 8 = N from hN.symm)
    replace h5 := hide h5.out
    clear hN hi hat
    go_enter Tryz.func55, Tryz.ntmps55
    go_wp2_with fail
    rw [← hW]
    clear hW
    refine (opRight2 _).mono ?_
    rintro e w1 ⟨rfl, hb1, hbx⟩
    obtain ⟨c0, c1, c2, c3, c4, c5⟩ := hcel.out _ hb1
    go_wp2_with fail
    refine (h5.out _).mono ?_
    rintro e w2 ⟨rfl, hb2⟩
    rw [okOr_false]
    go_wp2_with fail
    go_ret
    exact ⟨ret_int g.out, hbW.trans (hb1.trans hb2)⟩
  rw [hi] at hN h5
  replace h5 := hide h5.out
  clear hi
  cases hp : placeMay x.pl
  · rw [hp] at hN h6
    have g := hide (show 8 = N from hN.symm)
    replace h6 := hide h6.out
    clear hN hp hat
    go_enter Tryz.func55, Tryz.ntmps55
    go_wp2_with fail
    rw [← hW]
    clear hW
    refine (opRight2 _).mono ?_
    rintro e w1 ⟨rfl, hb1, hbx⟩
    obtain ⟨c0, c1, c2, c3, c4, c5⟩ := hcel.out _ hb1
    go_wp2_with fail
    refine (h5.out _).mono ?_
    rintro e w2 ⟨rfl, hb2⟩
    rw [okOr_true]
    clear c0 c1 c2 c3 c4 c5
    obtain ⟨c0, c1, c2, c3, c4, c5⟩ := hcel.out _ (hb1.trans hb2)
    go_wp2_with fail
    refine (h6.out _ (hbW.trans (hb1.trans hb2))).mono ?_
    rintro e w3 ⟨rfl, hb3⟩
    rw [okOr_false]
    go_wp2_with fail
    go_ret
    exact ⟨ret_int g.out, hbW.trans ((hb1.trans hb2).trans hb3)⟩
  rw [hp] at hN h6
  replace h6 := hide h6.out
  clear hp
  have hN' : N = okOr 8 (opTail x) := hN
  clear hN
  generalize opTail x = bt at *
  go_enter Tryz.func55, Tryz.ntmps55
  go_wp2_with fail
  rw [← hW]
  clear hW
  refine (opRight2 _).mono ?_
  rintro e w1 ⟨rfl, hb1, hbx⟩
  obtain ⟨c0, c1, c2, c3, c4, c5⟩ := hcel.out _ hb1
  go_wp2_with fail
  refine (h5.out _).mono ?_
  rintro e w2 ⟨rfl, hb2⟩
  rw [okOr_true]
  clear c0 c1 c2 c3 c4 c5
  obtain ⟨c0, c1, c2, c3, c4, c5⟩ := hcel.out _ (hb1.trans hb2)
  go_wp2_with fail
  refine (h6.out _ (hbW.trans (hb1.trans hb2))).mono ?_
  rintro e w3 ⟨rfl, hb3⟩
  rw [okOr_true]
  clear c0 c1 c2 c3 c4 c5
  have hb13 := (hb1.trans hb2).trans hb3
  obtain ⟨c0, c1, c2, c3, c4, c5⟩ := hcel.out _ hb13
  go_wp2_with fail
  refine (hcl0.out W.heap.size w3 (hx.bl (hbW.trans hb13)) (((hb2.trans hb3).cell (World.block_lt_of_cell? _ _ hbx)).trans hbx)).mono ?_
  rintro e w4 ⟨rfl, hb4⟩
  cases bt
  · have g := hide (show 8 = N from hN'.symm)
    clear hN'
    go_wp2_with fail
    go_ret
    exact ⟨ret_int g.out, hbW.trans (hb13.trans hb4)⟩
  · have g := hide (show 0 = N from hN'.symm)
    clear hN'
    go_wp2_with fail
    go_ret
    exact ⟨ret_int g.out, hbW.trans (hb13.trans hb4)⟩

set_option maxRecDepth 100000 in
set_option maxHeartbeats 2000000 in
theorem opCheck3 (x : Op) (A : Option Addr) (c : Nat) (w : World) (hx : OpIn w x A c) (hk : x.kind = 3) :
    Calls Tryz.prog 55 #[.agg #[.int .u8 x.kind, .int .u32 x.id.t, .int .u8 x.id.r, .slice A x.pl.length c, .int .i64 x.pt]] w fun e w' => e = .returned (.int .i64 (okOr 8 (opMay x))) ∧ Bl w w' := by
  obtain ⟨N, hN⟩ : ∃ N, N = okOr 8 (opMay x) := ⟨_, rfl⟩
  rw [← hN]
  rw [opMay_in (by omega) (by omega)] at hN
  have hcl0 : ∀ V, OpIn V x A c → Calls Tryz.prog 158 #[.agg #[.int .u8 x.kind, .int .u32 x.id.t, .int .u8 x.id.r, .slice A x.pl.length c, .int .i64 x.pt]] V fun e w' => e = .returned (.bool (opTail x)) ∧ Bl V w' := fun V h => by
    have := opYounger x A c V h
    rwa [show (decide (x.pt = 0) && decide ((placeFin x.pl).t < x.id.t)) = opTail x by unfold opTail; rw [if_neg (by omega), if_neg (by omega)]] at this
  rw [hk] at hcl0
  replace hcl0 := hide hcl0
  have hnf : ∀ (f : Fn) (a b : Array Value) (V : World), (binOp .eql 121 (.func f a b) .nilFunc).run Tryz.prog V = .ok (.bool false) V := fun _ _ _ _ => by kernel_rfl
  obtain ⟨W, hW⟩ : ∃ W, W = w.alloc (.cells #[Value.int IntKind.u8 3, Value.int IntKind.u32 x.id.t, Value.int IntKind.u8 x.id.r, Value.slice A x.pl.length c, Value.int IntKind.i64 x.pt] 47) := ⟨_, rfl⟩
  have hbW : Bl w W := by rw [hW]; exact (Bl.refl _).alloc _
  have hat : OpBox W w.heap.size x A c := by rw [hW, ← hk]; exact OpBox.new w x A c _
  have h5 := hide (fun V => stampCheck x.id V)
  have h6 := hide (fun V (hb : Bl w V) => placeCheck A c x.pl V hx.small (hx.hR.bl hb))
  have hcel : ∀ V, Bl W V → V.cell? ⟨w.heap.size, 0, none⟩ = some (.int .u8 3) ∧ V.cell? ⟨w.heap.size, 1, none⟩ = some (.int .u32 x.id.t) ∧ V.cell? ⟨w.heap.size, 2, none⟩ = some (.int .u8 x.id.r) ∧ V.cell? ⟨w.heap.size, 3, none⟩ = some (.slice A x.pl.length c) ∧ V.cell? ⟨w.heap.size, 4, none⟩ = some (.int .i64 x.pt) ∧ w.heap.size < V.heap.size := fun V hV => by
    have h := (hat.bl hV).cells
    rw [hk] at h
    exact ⟨h.1, h.2.1, h.2.2.1, h.2.2.2.1, h.2.2.2.2, (hat.bl hV).lt⟩
  replace hcel := hide hcel
  rw [hk]
  replace hk := hide hk
  cases hi : idMay x.id
  · rw [hi] at hN h5
    have g := hide (show 8 = N from hN.symm)
    replace h5 := hide h5.out
    clear hN hi hat
    go_enter Tryz.func55, Tryz.ntmps55
    go_wp2_with fail
    rw [← hW]
    clear hW
    refine (opRight3 _).mono ?_
    rintro e w1 ⟨rfl, hb1⟩
    obtain ⟨c0, c1, c2, c3, c4, c5⟩ := hcel.out _ hb1
    go_wp2_with fail
    refine (h5.out _).mono ?_
    rintro e w2 ⟨rfl, hb2⟩
    rw [okOr_false]
    go_wp2_with fail
    go_ret
    exact ⟨ret_int g.out, hbW.trans (hb1.trans hb2)⟩
  rw [hi] at hN h5
  replace h5 := hide h5.out
  clear hi
  cases hp : placeMay x.pl
  · rw [hp] at hN h6
    have g := hide (show 8 = N from hN.symm)
    replace h6 := hide h6.out
    clear hN hp hat
    go_enter Tryz.func55, Tryz.ntmps55
    go_wp2_with fail
    rw [← hW]
    clear hW
    refine (opRight3 _).mono ?_
    rintro e w1 ⟨rfl, hb1⟩
    obtain ⟨c0, c1, c2, c3, c4, c5⟩ := hcel.out _ hb1
    go_wp2_with fail
    refine (h5.out _).mono ?_
    rintro e w2 ⟨rfl, hb2⟩
    rw [okOr_true]
    clear c0 c1 c2 c3 c4 c5
    obtain ⟨c0, c1, c2, c3, c4, c5⟩ := hcel.out _ (hb1.trans hb2)
    go_wp2_with fail
    refine (h6.out _ (hbW.trans (hb1.trans hb2))).mono ?_
    rintro e w3 ⟨rfl, hb3⟩
    rw [okOr_false]
    go_wp2_with fail
    go_ret
    exact ⟨ret_int g.out, hbW.trans ((hb1.trans hb2).trans hb3)⟩
  rw [hp] at hN h6
  replace h6 := hide h6.out
  clear hp
  have hN' : N = okOr 8 (opTail x) := hN
  clear hN
  generalize opTail x = bt at *
  go_enter Tryz.func55, Tryz.ntmps55
  go_wp2_with fail
  rw [← hW]
  clear hW
  refine (opRight3 _).mono ?_
  rintro e w1 ⟨rfl, hb1⟩
  obtain ⟨c0, c1, c2, c3, c4, c5⟩ := hcel.out _ hb1
  go_wp2_with fail
  refine (h5.out _).mono ?_
  rintro e w2 ⟨rfl, hb2⟩
  rw [okOr_true]
  clear c0 c1 c2 c3 c4 c5
  obtain ⟨c0, c1, c2, c3, c4, c5⟩ := hcel.out _ (hb1.trans hb2)
  go_wp2_with fail
  refine (h6.out _ (hbW.trans (hb1.trans hb2))).mono ?_
  rintro e w3 ⟨rfl, hb3⟩
  rw [okOr_true]
  clear c0 c1 c2 c3 c4 c5
  have hb13 := (hb1.trans hb2).trans hb3
  obtain ⟨c0, c1, c2, c3, c4, c5⟩ := hcel.out _ hb13
  go_wp2_with fail
  refine (hcl0.out w3 (hx.bl (hbW.trans hb13))).mono ?_
  rintro e w4 ⟨rfl, hb4⟩
  cases bt
  · have g := hide (show 8 = N from hN'.symm)
    clear hN'
    go_wp2_with fail
    go_ret
    exact ⟨ret_int g.out, hbW.trans (hb13.trans hb4)⟩
  · have g := hide (show 0 = N from hN'.symm)
    clear hN'
    go_wp2_with fail
    go_ret
    exact ⟨ret_int g.out, hbW.trans (hb13.trans hb4)⟩

set_option maxRecDepth 100000 in
set_option maxHeartbeats 2000000 in
theorem opCheck4 (x : Op) (A : Option Addr) (c : Nat) (w : World) (hx : OpIn w x A c) (hk : x.kind = 4) :
    Calls Tryz.prog 55 #[.agg #[.int .u8 x.kind, .int .u32 x.id.t, .int .u8 x.id.r, .slice A x.pl.length c, .int .i64 x.pt]] w fun e w' => e = .returned (.int .i64 (okOr 8 (opMay x))) ∧ Bl w w' := by
  obtain ⟨N, hN⟩ : ∃ N, N = okOr 8 (opMay x) := ⟨_, rfl⟩
  rw [← hN]
  rw [opMay_in (by omega) (by omega)] at hN
  have hcl0 : ∀ V, OpIn V x A c → Calls Tryz.prog 158 #[.agg #[.int .u8 x.kind, .int .u32 x.id.t, .int .u8 x.id.r, .slice A x.pl.length c, .int .i64 x.pt]] V fun e w' => e = .returned (.bool (opTail x)) ∧ Bl V w' := fun V h => by
    have := opYounger x A c V h
    rwa [show (decide (x.pt = 0) && decide ((placeFin x.pl).t < x.id.t)) = opTail x by unfold opTail; rw [if_neg (by omega), if_neg (by omega)]] at this
  rw [hk] at hcl0
  replace hcl0 := hide hcl0
  have hnf : ∀ (f : Fn) (a b : Array Value) (V : World), (binOp .eql 121 (.func f a b) .nilFunc).run Tryz.prog V = .ok (.bool false) V := fun _ _ _ _ => by kernel_rfl
  obtain ⟨W, hW⟩ : ∃ W, W = w.alloc (.cells #[Value.int IntKind.u8 4, Value.int IntKind.u32 x.id.t, Value.int IntKind.u8 x.id.r, Value.slice A x.pl.length c, Value.int IntKind.i64 x.pt] 47) := ⟨_, rfl⟩
  have hbW : Bl w W := by rw [hW]; exact (Bl.refl _).alloc _
  have hat : OpBox W w.heap.size x A c := by rw [hW, ← hk]; exact OpBox.new w x A c _
  have h5 := hide (fun V => stampCheck x.id V)
  have h6 := hide (fun V (hb : Bl w V) => placeCheck A c x.pl V hx.small (hx.hR.bl hb))
  have hcel : ∀ V, Bl W V → V.cell? ⟨w.heap.size, 0, none⟩ = some (.int .u8 4) ∧ V.cell? ⟨w.heap.size, 1, none⟩ = some (.int .u32 x.id.t) ∧ V.cell? ⟨w.heap.size, 2, none⟩ = some (.int .u8 x.id.r) ∧ V.cell? ⟨w.heap.size, 3, none⟩ = some (.slice A x.pl.length c) ∧ V.cell? ⟨w.heap.size, 4, none⟩ = some (.int .i64 x.pt) ∧ w.heap.size < V.heap.size := fun V hV => by
    have h := (hat.bl hV).cells
    rw [hk] at h
    exact ⟨h.1, h.2.1, h.2.2.1, h.2.2.2.1, h.2.2.2.2, (hat.bl hV).lt⟩
  replace hcel := hide hcel
  rw [hk]
  replace hk := hide hk
  cases hi : idMay x.id
  · rw [hi] at hN h5
    have g := hide (show 8 = N from hN.symm)
    replace h5 := hide h5.out
    clear hN hi hat
    go_enter Tryz.func55, Tryz.ntmps55
    go_wp2_with fail
    rw [← hW]
    clear hW
    refine (opRight4 _).mono ?_
    rintro e w1 ⟨rfl, hb1⟩
    obtain ⟨c0, c1, c2, c3, c4, c5⟩ := hcel.out _ hb1
    go_wp2_with fail
    refine (h5.out _).mono ?_
    rintro e w2 ⟨rfl, hb2⟩
    rw [okOr_false]
    go_wp2_with fail
    go_ret
    exact ⟨ret_int g.out, hbW.trans (hb1.trans hb2)⟩
  rw [hi] at hN h5
  replace h5 := hide h5.out
  clear hi
  cases hp : placeMay x.pl
  · rw [hp] at hN h6
    have g := hide (show 8 = N from hN.symm)
    replace h6 := hide h6.out
    clear hN hp hat
    go_enter Tryz.func55, Tryz.ntmps55
    go_wp2_with fail
    rw [← hW]
    clear hW
    refine (opRight4 _).mono ?_
    rintro e w1 ⟨rfl, hb1⟩
    obtain ⟨c0, c1, c2, c3, c4, c5⟩ := hcel.out _ hb1
    go_wp2_with fail
    refine (h5.out _).mono ?_
    rintro e w2 ⟨rfl, hb2⟩
    rw [okOr_true]
    clear c0 c1 c2 c3 c4 c5
    obtain ⟨c0, c1, c2, c3, c4, c5⟩ := hcel.out _ (hb1.trans hb2)
    go_wp2_with fail
    refine (h6.out _ (hbW.trans (hb1.trans hb2))).mono ?_
    rintro e w3 ⟨rfl, hb3⟩
    rw [okOr_false]
    go_wp2_with fail
    go_ret
    exact ⟨ret_int g.out, hbW.trans ((hb1.trans hb2).trans hb3)⟩
  rw [hp] at hN h6
  replace h6 := hide h6.out
  clear hp
  have hN' : N = okOr 8 (opTail x) := hN
  clear hN
  generalize opTail x = bt at *
  go_enter Tryz.func55, Tryz.ntmps55
  go_wp2_with fail
  rw [← hW]
  clear hW
  refine (opRight4 _).mono ?_
  rintro e w1 ⟨rfl, hb1⟩
  obtain ⟨c0, c1, c2, c3, c4, c5⟩ := hcel.out _ hb1
  go_wp2_with fail
  refine (h5.out _).mono ?_
  rintro e w2 ⟨rfl, hb2⟩
  rw [okOr_true]
  clear c0 c1 c2 c3 c4 c5
  obtain ⟨c0, c1, c2, c3, c4, c5⟩ := hcel.out _ (hb1.trans hb2)
  go_wp2_with fail
  refine (h6.out _ (hbW.trans (hb1.trans hb2))).mono ?_
  rintro e w3 ⟨rfl, hb3⟩
  rw [okOr_true]
  clear c0 c1 c2 c3 c4 c5
  have hb13 := (hb1.trans hb2).trans hb3
  obtain ⟨c0, c1, c2, c3, c4, c5⟩ := hcel.out _ hb13
  go_wp2_with fail
  refine (hcl0.out w3 (hx.bl (hbW.trans hb13))).mono ?_
  rintro e w4 ⟨rfl, hb4⟩
  cases bt
  · have g := hide (show 8 = N from hN'.symm)
    clear hN'
    go_wp2_with fail
    go_ret
    exact ⟨ret_int g.out, hbW.trans (hb13.trans hb4)⟩
  · have g := hide (show 0 = N from hN'.symm)
    clear hN'
    go_wp2_with fail
    go_ret
    exact ⟨ret_int g.out, hbW.trans (hb13.trans hb4)⟩

set_option maxRecDepth 100000 in
set_option maxHeartbeats 2000000 in
theorem opCheck (x : Op) (A : Option Addr) (c : Nat) (w : World) (hx : OpIn w x A c) :
    Calls Tryz.prog 55 #[.agg #[.int .u8 x.kind, .int .u32 x.id.t, .int .u8 x.id.r, .slice A x.pl.length c, .int .i64 x.pt]] w fun e w' => e = .returned (.int .i64 (okOr 8 (opMay x))) ∧ Bl w w' := by
  by_cases k1 : x.kind = 1
  · exact opCheck1 x A c w hx k1
  by_cases k2 : x.kind = 2
  · exact opCheck2 x A c w hx k2
  by_cases k3 : x.kind = 3
  · exact opCheck3 x A c w hx k3
  by_cases k4 : x.kind = 4
  · exact opCheck4 x A c w hx k4
  have hu := hx.ok.1
  obtain ⟨u0, u1⟩ := hu
  have g := hide (show (8 : Int) = okOr 8 (opMay x) by rw [opMay_kind (by omega)]; rfl)
  have hnf : ∀ V : World, (binOp .eql 121 .nilFunc .nilFunc).run Tryz.prog V = .ok (.bool true) V := fun _ => by kernel_rfl
  by_cases k0 : x.kind = 0
  · have hri := hide (fun W => opRight0 W)
    rw [k0]
    clear k0 k1 k2 k3 k4 u0 u1 hx
    go_enter Tryz.func55, Tryz.ntmps55
    go_wp2_with fail
    refine (hri.out _).mono ?_
    rintro e w1 ⟨rfl, hb1⟩
    go_wp2_with fail
    go_ret
    exact ⟨ret_int g.out, ((Bl.refl _).alloc _).trans hb1⟩
  · have hri := hide (fun W => opRight5 x.kind W (by omega))
    clear k0 k1 k2 k3 k4 u0 u1 hx
    go_enter Tryz.func55, Tryz.ntmps55
    go_wp2_with fail
    refine (hri.out _).mono ?_
    rintro e w1 ⟨rfl, hb1⟩
    go_wp2_with fail
    go_ret
    exact ⟨ret_int g.out, ((Bl.refl _).alloc _).trans hb1⟩

end Go.Proofs.YteoodmilcpmmpaaGreat

namespace Go.Proofs.YteoodmilcpmmpaaGreat

open Go.RowKit

def eqOp (x y : Op) : Bool := decide (x = y)

theorem eqOp_true {x y : Op} (h : eqOp x y = true) : x = y := by unfold eqOp at h; simpa using h

theorem eqOp_false {x y : Op} (h : eqOp x y = false) : x ≠ y := by unfold eqOp at h; simpa using h

theorem eqOp_parts (x y : Op) : eqOp x y = (x.kind == y.kind && (!neqId x.id y.id && (x.pt == y.pt && same x.pl y.pl))) := by
  cases x; cases y
  unfold eqOp same neqId
  rw [Bool.eq_iff_iff]
  simp
  intros
  exact and_comm

/-- What hands back an operation whose place is new. -/
def NewOp (x : Op) (w : World) (e : Ending) (w' : World) : Prop := ∃ A c, e = .returned (.agg #[.int .u8 x.kind, .int .u32 x.id.t, .int .u8 x.id.r, .slice A x.pl.length c, .int .i64 x.pt]) ∧ x.pl.length ≤ c ∧ c ≤ maxLen ∧ R cRun w.heap.size w' A x.pl ∧ Bl w w'

set_option maxRecDepth 100000 in
set_option maxHeartbeats 2000000 in
theorem opTwin (x : Op) (A : Option Addr) (c : Nat) (w : World) (hx : OpIn w x A c) (hs : x.pl.length ≤ 1048576) :
    Calls Tryz.prog 59 #[.agg #[.int .u8 x.kind, .int .u32 x.id.t, .int .u8 x.id.r, .slice A x.pl.length c, .int .i64 x.pt]] w (NewOp x w) := by
  obtain ⟨W, hW⟩ : ∃ W, W = (w.alloc (.cells #[Value.int IntKind.u8 x.kind, Value.int IntKind.u32 x.id.t, Value.int IntKind.u8 x.id.r, Value.slice A x.pl.length c, Value.int IntKind.i64 x.pt] 47)).alloc (.cells #[Value.int IntKind.u8 0, Value.int IntKind.u32 0, Value.int IntKind.u8 0, Value.slice none 0 0, Value.int IntKind.i64 0] 47) := ⟨_, rfl⟩
  have hbW : Bl w W := by rw [hW]; exact ((Bl.refl _).alloc _).alloc _
  have at0 : OpBox W w.heap.size x A c := by rw [hW]; exact (OpBox.new w x A c _).bl ((Bl.refl _).alloc _)
  have at1 : OpBox W (w.heap.size + 1) ⟨0, ⟨0, 0⟩, [], 0⟩ none 0 := by
    rw [hW]
    have := OpBox.new (w.alloc (.cells #[Value.int IntKind.u8 x.kind, Value.int IntKind.u32 x.id.t, Value.int IntKind.u8 x.id.r, Value.slice A x.pl.length c, Value.int IntKind.i64 x.pt] 47)) ⟨0, ⟨0, 0⟩, [], 0⟩ none 0 47
    rw [World.size_alloc] at this
    exact this
  have hplt := hide (placeTwin A c x.pl W hs (hx.hR.bl hbW))
  obtain ⟨c0, c1, c2, c3, c4⟩ := at0.cells
  have hl0 := at0.lt
  go_enter Tryz.func59, Tryz.ntmps59
  go_wp2_with fail
  rw [← hW]
  clear hW
  go_wp2_with fail
  refine hplt.out.mono ?_
  rintro e w1 ⟨A1, n1, rfl, h1, h2, hr1, hb1⟩
  clear c0 c1 c2 c3 c4 hl0
  obtain ⟨c0, c1, c2, c3, c4⟩ := (at0.bl hb1).cells
  obtain ⟨f0, f1, f2, f3, f4⟩ := (at0.bl hb1).frozens
  obtain ⟨d0, d1, d2, d3, d4⟩ := (at1.bl hb1).cells
  obtain ⟨g0, g1, g2, g3, g4⟩ := (at1.bl hb1).frozens
  have hl0 := (at0.bl hb1).lt
  have hl1 := (at1.bl hb1).lt
  go_wp2_with fail
  refine bodyPost_ret (v := .agg #[.int .u8 x.kind, .int .u32 x.id.t, .int .u8 x.id.r, .slice A1 x.pl.length n1, .int .i64 x.pt]) (by simp [results, Tryz.results59, go_sem, d0, d1, d2, d3, d4]) rfl ?_
  refine ⟨A1, n1, rfl, h1, h2, ?_, ?_⟩
  · refine R.more (lo := W.heap.size) ?_ hbW.size
    have hlw0 := at0.lt
    have hlw1 := at1.lt
    repeat (refine R.set ?_ (by first | exact hlw0 | exact hlw1) _)
    exact hr1
  · have hb := hbW.trans hb1
    repeat (refine Bl.setCell ?_ (by simp) _)
    exact hb

end Go.Proofs.YteoodmilcpmmpaaGreat
