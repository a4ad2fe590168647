/-
  The walks of layer 22's references: Started, Begin.
-/
import Derived.Test.YtegmddgbdjlidaaRef22
namespace Go.Proofs.Ytegmddgbdjlidaa
open Go.RowKit

theorem refMany21 (n : Int) (w : World) (h0 : 0 ≤ n) (h1 : n ≤ 1099511627776) :
    Calls Try.prog 99 #[.int .i64 n] w fun e w' => e = .returned (.int .i64 ((n + 7) / 8)) ∧ Bl w w' := by
  go_enter Try.func99, Try.ntmps99
  go_wp2
  all_goals
    go_ret
    exact ⟨ret_int (by omega), Bl.refl _⟩

/-- An entry that knows a manifest anew. -/
def freshE (x : Entry) (m : List Times) : Entry := ⟨x.id, false, x.pin, x.used, true, m, List.replicate (chunksOf m).toNat false⟩
def startedE (x : Entry) (m : List Times) : Entry := doneE (if x.known && same x.snap m then x else freshE x m)

theorem entmade_at {w : World} (x : Entry) (A : Option Addr) (c : Nat) (B : Option Addr) (d : Nat) (o : Obj) : EntAt ((w.alloc (.cells #[Value.int IntKind.u32 x.id.t, Value.int IntKind.u8 x.id.r, Value.bool x.ready, Value.bool x.pin, Value.int IntKind.i64 x.used, Value.bool x.known, Value.slice A x.snap.length c, Value.slice B x.got.length d] 31)).alloc o) w.heap.size x A c B d := (EntAt.new w x A c B d _).bl ((Bl.refl _).alloc _)

theorem HeldO.set8g {Y G : Nat} {V : World} {x y : Entry} {A B A' B' : Option Addr} {c d c' d' : Nat} (h : HeldO Y G V x A c B d) : HeldO Y G (_root_.Go.Proofs.Ytegmddgbdjlidaa.set8 V G y A' c' B' d') x A c B d :=
  (((((((h.set (.inr rfl)).set (.inr rfl)).set (.inr rfl)).set (.inr rfl)).set (.inr rfl)).set (.inr rfl)).set (.inr rfl)).set (.inr rfl)
theorem entzero_at (w : World) (cs : Array Value) : EntAt ((w.alloc (.cells cs 31)).alloc (Obj.cells #[Value.int IntKind.u32 0, Value.int IntKind.u8 0, Value.bool false, Value.bool false, Value.int IntKind.i64 0, Value.bool false, Value.slice none 0 0, Value.slice none 0 0] 31)) (w.heap.size + 1) zeroE none 0 none 0 := by
  have := EntAt.new (w.alloc (Obj.cells cs 31)) zeroE none 0 none 0 31
  rw [World.size_alloc] at this
  exact this

set_option maxRecDepth 100000 in
set_option maxHeartbeats 2000000 in
theorem refStarted (x : Entry) (m : List Times) (A B C : Option Addr) (c d k : Nat) (w : World) (hx : Held w x A c B d) (hgl : x.got.length ≤ 1048576) (hsl : x.snap.length ≤ 1048576) (he : clockIdsErr m = 0) (hC : R cTimes 0 w C m) :
    Calls Try.prog 66 #[.agg #[.int .u32 x.id.t, .int .u8 x.id.r, .bool x.ready, .bool x.pin, .int .i64 x.used, .bool x.known, .slice A x.snap.length c, .slice B x.got.length d], .slice C m.length k] w (EntR (startedE x m) w) := by
  obtain ⟨hm, hm1⟩ := idsErr_may he
  obtain ⟨hch, hch0⟩ := chunksOf_many he
  have hml : m.length ≤ 8 := clockMay_length hm
  have hmn0 : 0 ≤ clockMany m := (clockMany_le m (clockFrom_all _ (show clockFrom (-1) m = true from hm))).1
  have hsm : smallC m := ⟨by omega, fun y hy => by
    have := clockFrom_all _ (show clockFrom (-1) m = true from hm) y hy
    unfold spansMay at this
    simp at this
    omega⟩
  replace hm := hide hm
  replace hsm := hide hsm
  clear he
  obtain ⟨N, hN⟩ : ∃ N : Nat, chunksOf m = (N : Int) := ⟨(chunksOf m).toNat, by omega⟩
  have hN1 : (clockMany m + 7) / 8 = (N : Int) := by rw [← hch, hN]
  have hN2 : N ≤ 128 := by omega
  have hst : startedE x m = doneE (if x.known && same x.snap m then x else ⟨x.id, false, x.pin, x.used, true, m, List.replicate N false⟩) := by unfold startedE freshE; rw [hN, Int.toNat_natCast]
  clear hch hch0 hN
  obtain ⟨y, hy⟩ : ∃ y, y = startedE x m := ⟨_, rfl⟩
  rw [← hy] at hst ⊢
  clear hy
  have hmx : m.length ≤ maxLen := by unfold maxLen; omega
  have hxx : x.snap.length ≤ maxLen := by unfold maxLen; omega
  have hsame := fun W (hb : Bl w W) => refSame08 A C c k x.snap m W hxx hmx (hx.hS.bl hb) (hC.bl hb)
  clear hmx hxx
  have hmany := fun W (hb : Bl w W) => refMany08 C k m W hm.out (hC.bl hb)
  replace hmany := hide hmany
  have hmk : ∀ V, (Instr.makeSlice 29 (.int .i64 (N : Int)) (.int .i64 (N : Int))).run Try.prog V = .ok (.slice (some ⟨V.heap.size, 0, none⟩) N N) (V.alloc (.cells (madeCells (Value.bool false).cells N) 4)) := by
    intro V
    obtain ⟨i0, hi, hz0, hz1, hz2⟩ := info_parts Try.infoBool
    have := run_make (P := Try.prog) V 29 4 i0 _ Try.underlying29 hi hz0 .i64 .i64 (N : Int) (N : Int) (by omega) (Int.le_refl _) (by rw [hz2]; omega) (by omega)
    rw [hz1, Int.toNat_natCast, Nat.mul_one] at this
    exact this
  obtain ⟨hN1', hN1''⟩ : (clockMany m + 7) / 8 = (N : Int) ∧ True := ⟨hN1, trivial⟩
  clear hN1 hN1''
  cases hq : (x.known && same x.snap m)
  · rw [hq] at hst
    replace hst := hide hst
    cases hkn : x.known
    · clear hsame hq
      go_enter Try.func66, Try.ntmps66
      go_upto_region 3 with fail
      obtain ⟨W, hW⟩ : ∃ W, W = (w.alloc (Obj.cells #[Value.int IntKind.u32 x.id.t, Value.int IntKind.u8 x.id.r, Value.bool x.ready, Value.bool x.pin, Value.int IntKind.i64 x.used, Value.bool x.known, Value.slice A x.snap.length c, Value.slice B x.got.length d] 31)).alloc (Obj.cells #[Value.int IntKind.u32 0, Value.int IntKind.u8 0, Value.bool false, Value.bool false, Value.int IntKind.i64 0, Value.bool false, Value.slice none 0 0, Value.slice none 0 0] 31) := ⟨_, rfl⟩
      have hblW : Bl w W := by rw [hW]; exact ((Bl.refl _).alloc _).alloc _
      have at0 : EntAt W w.heap.size x A c B d := by rw [hW]; exact entmade_at x A c B d _
      have at1 : EntAt W (w.heap.size + 1) zeroE none 0 none 0 := by rw [hW]; exact entzero_at w _
      have hs0 := at0.lt
      have hs1 := at1.lt
      try rw [hkn] at hW
      try rw [hrn] at hW
      rw [← hW]
      clear hW
      obtain ⟨x0, x1, x2, x3, x4, x5, x6, x7⟩ := at0.cells
      have htw := refTwin08 C k m
      have ne1 : w.heap.size ≠ W.heap.size := by omega
      have ne2 : W.heap.size ≠ w.heap.size := by omega
      go_region_held3 (fun w' => w'.cell? ⟨w.heap.size, 0, none⟩ = some (.int .u32 x.id.t) ∧ w'.cell? ⟨w.heap.size, 1, none⟩ = some (.int .u8 x.id.r) ∧ w'.cell? ⟨w.heap.size, 3, none⟩ = some (.bool x.pin) ∧ w'.cell? ⟨w.heap.size, 4, none⟩ = some (.int .i64 x.used)) (go_keep) ((go_at_call 63; refine (htw _ hsm.out (hC.bl (by first | exact hblW.drew | exact (hblW.drew).alloc _ | exact (hblW.alloc _).drew))).mono ?_; rintro e w1 ⟨A1, c1, rfl, h1, h2, hr1, hb0⟩; have hb1 : Bl W w1 := (by first | exact (Bl.refl W).drew.trans hb0 | exact ((Bl.refl W).drew.alloc _).trans hb0 | exact ((Bl.refl W).alloc _).drew.trans hb0); have hz0 := hb0.size; obtain ⟨x0, x1, x2, x3, x4, x5, x6, x7⟩ := (at0.bl hb1).cells; have hc0 := hb0.cells; have hf0 := hb0.frozens))
      all_goals go_upto_region 4 with fail
      all_goals clear x0 x1 x2 x3 x4 x5 x6 x7 ne1 ne2 hc0 hf0
      · obtain ⟨V5, hV5⟩ : ∃ V5, V5 = w1.alloc (.cells #[Value.int IntKind.u32 x.id.t, Value.int IntKind.u8 x.id.r, Value.bool false, Value.bool x.pin, Value.int IntKind.i64 x.used, Value.bool true, Value.slice A1 m.length c1, Value.slice none 0 0] 31) := ⟨_, rfl⟩
        have hat : EntAt V5 w1.heap.size ⟨x.id, false, x.pin, x.used, true, m, []⟩ A1 c1 none 0 := by
          rw [hV5]
          exact EntAt.new w1 ⟨x.id, false, x.pin, x.used, true, m, []⟩ A1 c1 none 0 _
        have hb5 : Bl W V5 := by rw [hV5]; exact hb1.alloc _
        have hr5 : RS cTimes V5 (Off w1.heap.size (w.heap.size + 1) V5) A1 m := by
          rw [hV5]
          refine RS.keep hr1 (((Bl.refl w1).alloc _).keeps fun _ h => h.2) fun b hb => ⟨by have := hb.2; rw [World.size_alloc]; omega, by have := hb.2; omega, by have := hb.1; simp at this; omega⟩
        rw [← hV5]
        clear hV5
        obtain ⟨T, hT⟩ : ∃ T, T = w1.heap.size := ⟨_, rfl⟩
        have hTw : w.heap.size + 1 < T := by have := hb1.size; omega
        rw [← hT] at hat hr5 ⊢
        clear hT hb0 hz0 hr1 hb1
        have hbl5 := hblW.trans hb5
        have at1' := at1.bl hb5
        clear hblW hb5 at0 at1
        go_wp2_with fail
        refine (hmany.out _ hbl5).mono ?_
        rintro e w6 ⟨rfl, hb6⟩
        go_wp2_with fail
        refine (refMany21 (clockMany m) _ hmn0 (by omega)).mono ?_
        rintro e w7 ⟨rfl, hb7⟩
        rw [hN1']
        have hb57 := hb6.trans hb7
        obtain ⟨x0, x1, x2, x3, x4, x5, x6, x7⟩ := (hat.bl hb57).cells
        obtain ⟨f0, f1, f2, f3, f4, f5, f6, f7⟩ := (hat.bl hb57).frozens
        have hzT := (hat.bl hb57).lt
        have neT1 : T ≠ w7.heap.size := by omega
        have neT2 : w7.heap.size ≠ T := by omega
        go_wp2_with fail
        have hszs : (w7.setCell ⟨T, 7, none⟩ (.slice (some ⟨w7.heap.size, 0, none⟩) N N)).heap.size = w7.heap.size := by simp [World.setCell]
        have hG8 := R.made N w7.heap.size (w7.setCell ⟨T, 7, none⟩ (.slice (some ⟨w7.heap.size, 0, none⟩) N N)) 4 (by rw [hszs]; exact Nat.le_refl _)
        rw [hszs] at hG8
        have hx5 : HeldO T (w.heap.size + 1) V5 ⟨x.id, false, x.pin, x.used, true, m, []⟩ A1 c1 none 0 := ⟨h1, h2, Nat.le_refl _, Nat.zero_le _, hr5, RS.nil⟩
        have hS8 := ((hx5.bl hb57).set (b := T) (o := 7) (u := .slice (some ⟨w7.heap.size, 0, none⟩) N N) (.inl rfl)).bl ((Bl.refl _).alloc (.cells (madeCells (Value.bool false).cells N) 4))
        have hbl8 := ((hbl5.trans hb57).setCell (p := ⟨T, 7, none⟩) (by show w.heap.size ≤ T; omega) (.slice (some ⟨w7.heap.size, 0, none⟩) N N)).alloc (.cells (madeCells (Value.bool false).cells N) 4)
        have hat1 := ((at1'.bl hb57).other (E := T) (o := 7) (by omega) (.slice (some ⟨w7.heap.size, 0, none⟩) N N)).bl ((Bl.refl _).alloc (.cells (madeCells (Value.bool false).cells N) 4))
        have hs7 := hb57.size
        have hx8 : HeldO T (w.heap.size + 1) ((w7.setCell ⟨T, 7, none⟩ (.slice (some ⟨w7.heap.size, 0, none⟩) N N)).alloc (.cells (madeCells (Value.bool false).cells N) 4)) ⟨x.id, false, x.pin, x.used, true, m, List.replicate N false⟩ A1 c1 (some ⟨w7.heap.size, 0, none⟩) N :=
          ⟨h1, h2, by show (List.replicate N false).length ≤ N; rw [List.length_replicate]; exact Nat.le_refl _, by unfold maxLen; omega, hS8.hS, hG8.up fun b hb => ⟨hb.2, by have := hb.1; omega, by have := hb.1; omega⟩⟩
        have hdn := refDone T (w.heap.size + 1) ⟨x.id, false, x.pin, x.used, true, m, List.replicate N false⟩ A1 (some ⟨w7.heap.size, 0, none⟩) c1 N _ (by show (List.replicate N false).length ≤ _; rw [List.length_replicate]; omega) hx8
        clear hx8 hS8 hx5 hG8 hszs x0 x1 x2 x3 x4 x5 x6 x7 f0 f1 f2 f3 f4 f5 f6 f7 hmk
        simp only [List.length_replicate] at hdn
        refine hdn.mono ?_
        rintro e w8 ⟨A2, c2, B2, d2, rfl, hx2, hb8⟩
        replace hst : y = doneE ⟨x.id, false, x.pin, x.used, true, m, List.replicate N false⟩ := hst.out
        rw [← hst] at hx2 ⊢
        replace hst := hide hst
        have hat2 := hat1.bl hb8
        obtain ⟨y0, y1, y2, y3, y4, y5, y6, y7⟩ := hat2.cells
        obtain ⟨f0, f1, f2, f3, f4, f5, f6, f7⟩ := hat2.frozens
        have hset := set8_bl (hbl8.trans hb8) (Y := w.heap.size + 1) (by omega) y A2 c2 B2 d2
        have hxs : HeldO T (w.heap.size + 1) (set8 w8 (w.heap.size + 1) y A2 c2 B2 d2) y A2 c2 B2 d2 := HeldO.set8g hx2
        clear hdn hat hat1 hat2
        go_wp2_with fail
        refine bodyPost_ret (v := .agg #[.int .u32 y.id.t, .int .u8 y.id.r, .bool y.ready, .bool y.pin, .int .i64 y.used, .bool y.known, .slice A2 y.snap.length c2, .slice B2 y.got.length d2]) (by simp [results, Try.results66, go_sem, y0, y1, y2, y3, y4, y5, y6, y7]) rfl ?_
        exact ⟨A2, c2, B2, d2, rfl, hxs.held, hset⟩
      · obtain ⟨V5, hV5⟩ : ∃ V5, V5 = set8 w1 W.heap.size ⟨x.id, false, x.pin, x.used, true, m, []⟩ A1 c1 none 0 := ⟨_, rfl⟩
        have hzz : W.heap.size + 1 ≤ w1.heap.size := by have := hz0; simp at this; omega
        have hat : EntAt V5 W.heap.size ⟨x.id, false, x.pin, x.used, true, m, []⟩ A1 c1 none 0 := by
          rw [hV5]
          refine set8_at (y0 := zeroE) (A0 := none) (c0 := 0) (B0 := none) (d0 := 0) ?_ _ _ _ _ _
          exact EntAt.bl (EntAt.drew (EntAt.new W zeroE none 0 none 0 31)) hb0
        have hb5 : Bl W V5 := by rw [hV5]; exact set8_bl hb1 (Nat.le_refl _) _ _ _ _ _
        have hr5 : RS cTimes V5 (Off W.heap.size (w.heap.size + 1) V5) A1 m := by
          rw [hV5]
          refine RS.up (S := Off W.heap.size (w.heap.size + 1) (set8 w1 W.heap.size ⟨x.id, false, x.pin, x.used, true, m, []⟩ A1 c1 none 0)) ?_ fun _ h => h
          refine (HeldO.set8 (Y := W.heap.size) (G := w.heap.size + 1) (x := ⟨x.id, false, x.pin, x.used, true, m, []⟩) (B := none) (d := 0) ⟨h1, h2, Nat.le_refl _, Nat.zero_le _, hr1.up fun b hb => ⟨hb.2, ?_, ?_⟩, RS.nil⟩).hS
          · have := hb.1; simp at this; omega
          · have := hb.1; simp at this; omega
        unfold set8 at hV5
        dsimp only [List.length_nil] at hV5
        rw [← hV5]
        clear hV5
        obtain ⟨T, hT⟩ : ∃ T, T = W.heap.size := ⟨_, rfl⟩
        have hTw : w.heap.size + 1 < T := by omega
        rw [← hT] at hat hr5 ⊢
        clear hT hzz hb0 hz0 hr1 hb1
        have hbl5 := hblW.trans hb5
        have at1' := at1.bl hb5
        clear hblW hb5 at0 at1
        go_wp2_with fail
        refine (hmany.out _ hbl5).mono ?_
        rintro e w6 ⟨rfl, hb6⟩
        go_wp2_with fail
        refine (refMany21 (clockMany m) _ hmn0 (by omega)).mono ?_
        rintro e w7 ⟨rfl, hb7⟩
        rw [hN1']
        have hb57 := hb6.trans hb7
        obtain ⟨x0, x1, x2, x3, x4, x5, x6, x7⟩ := (hat.bl hb57).cells
        obtain ⟨f0, f1, f2, f3, f4, f5, f6, f7⟩ := (hat.bl hb57).frozens
        have hzT := (hat.bl hb57).lt
        have neT1 : T ≠ w7.heap.size := by omega
        have neT2 : w7.heap.size ≠ T := by omega
        go_wp2_with fail
        have hszs : (w7.setCell ⟨T, 7, none⟩ (.slice (some ⟨w7.heap.size, 0, none⟩) N N)).heap.size = w7.heap.size := by simp [World.setCell]
        have hG8 := R.made N w7.heap.size (w7.setCell ⟨T, 7, none⟩ (.slice (some ⟨w7.heap.size, 0, none⟩) N N)) 4 (by rw [hszs]; exact Nat.le_refl _)
        rw [hszs] at hG8
        have hx5 : HeldO T (w.heap.size + 1) V5 ⟨x.id, false, x.pin, x.used, true, m, []⟩ A1 c1 none 0 := ⟨h1, h2, Nat.le_refl _, Nat.zero_le _, hr5, RS.nil⟩
        have hS8 := ((hx5.bl hb57).set (b := T) (o := 7) (u := .slice (some ⟨w7.heap.size, 0, none⟩) N N) (.inl rfl)).bl ((Bl.refl _).alloc (.cells (madeCells (Value.bool false).cells N) 4))
        have hbl8 := ((hbl5.trans hb57).setCell (p := ⟨T, 7, none⟩) (by show w.heap.size ≤ T; omega) (.slice (some ⟨w7.heap.size, 0, none⟩) N N)).alloc (.cells (madeCells (Value.bool false).cells N) 4)
        have hat1 := ((at1'.bl hb57).other (E := T) (o := 7) (by omega) (.slice (some ⟨w7.heap.size, 0, none⟩) N N)).bl ((Bl.refl _).alloc (.cells (madeCells (Value.bool false).cells N) 4))
        have hs7 := hb57.size
        have hx8 : HeldO T (w.heap.size + 1) ((w7.setCell ⟨T, 7, none⟩ (.slice (some ⟨w7.heap.size, 0, none⟩) N N)).alloc (.cells (madeCells (Value.bool false).cells N) 4)) ⟨x.id, false, x.pin, x.used, true, m, List.replicate N false⟩ A1 c1 (some ⟨w7.heap.size, 0, none⟩) N :=
          ⟨h1, h2, by show (List.replicate N false).length ≤ N; rw [List.length_replicate]; exact Nat.le_refl _, by unfold maxLen; omega, hS8.hS, hG8.up fun b hb => ⟨hb.2, by have := hb.1; omega, by have := hb.1; omega⟩⟩
        have hdn := refDone T (w.heap.size + 1) ⟨x.id, false, x.pin, x.used, true, m, List.replicate N false⟩ A1 (some ⟨w7.heap.size, 0, none⟩) c1 N _ (by show (List.replicate N false).length ≤ _; rw [List.length_replicate]; omega) hx8
        clear hx8 hS8 hx5 hG8 hszs x0 x1 x2 x3 x4 x5 x6 x7 f0 f1 f2 f3 f4 f5 f6 f7 hmk
        simp only [List.length_replicate] at hdn
        refine hdn.mono ?_
        rintro e w8 ⟨A2, c2, B2, d2, rfl, hx2, hb8⟩
        replace hst : y = doneE ⟨x.id, false, x.pin, x.used, true, m, List.replicate N false⟩ := hst.out
        rw [← hst] at hx2 ⊢
        replace hst := hide hst
        have hat2 := hat1.bl hb8
        obtain ⟨y0, y1, y2, y3, y4, y5, y6, y7⟩ := hat2.cells
        obtain ⟨f0, f1, f2, f3, f4, f5, f6, f7⟩ := hat2.frozens
        have hset := set8_bl (hbl8.trans hb8) (Y := w.heap.size + 1) (by omega) y A2 c2 B2 d2
        have hxs : HeldO T (w.heap.size + 1) (set8 w8 (w.heap.size + 1) y A2 c2 B2 d2) y A2 c2 B2 d2 := HeldO.set8g hx2
        clear hdn hat hat1 hat2
        go_wp2_with fail
        refine bodyPost_ret (v := .agg #[.int .u32 y.id.t, .int .u8 y.id.r, .bool y.ready, .bool y.pin, .int .i64 y.used, .bool y.known, .slice A2 y.snap.length c2, .slice B2 y.got.length d2]) (by simp [results, Try.results66, go_sem, y0, y1, y2, y3, y4, y5, y6, y7]) rfl ?_
        exact ⟨A2, c2, B2, d2, rfl, hxs.held, hset⟩
    · rw [hkn, Bool.true_and] at hq
      rw [hq] at hsame
      replace hsame := hide hsame
      clear hq
      go_enter Try.func66, Try.ntmps66
      go_wp2_with fail
      obtain ⟨W, hW⟩ : ∃ W, W = (w.alloc (Obj.cells #[Value.int IntKind.u32 x.id.t, Value.int IntKind.u8 x.id.r, Value.bool x.ready, Value.bool x.pin, Value.int IntKind.i64 x.used, Value.bool x.known, Value.slice A x.snap.length c, Value.slice B x.got.length d] 31)).alloc (Obj.cells #[Value.int IntKind.u32 0, Value.int IntKind.u8 0, Value.bool false, Value.bool false, Value.int IntKind.i64 0, Value.bool false, Value.slice none 0 0, Value.slice none 0 0] 31) := ⟨_, rfl⟩
      have hblW : Bl w W := by rw [hW]; exact ((Bl.refl _).alloc _).alloc _
      have at0 : EntAt W w.heap.size x A c B d := by rw [hW]; exact entmade_at x A c B d _
      have at1 : EntAt W (w.heap.size + 1) zeroE none 0 none 0 := by rw [hW]; exact entzero_at w _
      have hs0 := at0.lt
      have hs1 := at1.lt
      try rw [hkn] at hW
      try rw [hrn] at hW
      rw [← hW]
      clear hW
      refine (hsame.out _ hblW).mono ?_
      rintro e W' ⟨rfl, hbW⟩
      replace hblW := hblW.trans hbW
      replace at0 := at0.bl hbW
      replace at1 := at1.bl hbW
      replace hs0 := at0.lt
      replace hs1 := at1.lt
      clear hbW hsame
      go_upto_region 3 with fail
      obtain ⟨x0, x1, x2, x3, x4, x5, x6, x7⟩ := at0.cells
      have htw := refTwin08 C k m
      have ne1 : w.heap.size ≠ W'.heap.size := by omega
      have ne2 : W'.heap.size ≠ w.heap.size := by omega
      go_region_held3 (fun w' => w'.cell? ⟨w.heap.size, 0, none⟩ = some (.int .u32 x.id.t) ∧ w'.cell? ⟨w.heap.size, 1, none⟩ = some (.int .u8 x.id.r) ∧ w'.cell? ⟨w.heap.size, 3, none⟩ = some (.bool x.pin) ∧ w'.cell? ⟨w.heap.size, 4, none⟩ = some (.int .i64 x.used)) (go_keep) ((go_at_call 63; refine (htw _ hsm.out (hC.bl (by first | exact hblW.drew | exact (hblW.drew).alloc _ | exact (hblW.alloc _).drew))).mono ?_; rintro e w1 ⟨A1, c1, rfl, h1, h2, hr1, hb0⟩; have hb1 : Bl W' w1 := (by first | exact (Bl.refl W').drew.trans hb0 | exact ((Bl.refl W').drew.alloc _).trans hb0 | exact ((Bl.refl W').alloc _).drew.trans hb0); have hz0 := hb0.size; obtain ⟨x0, x1, x2, x3, x4, x5, x6, x7⟩ := (at0.bl hb1).cells; have hc0 := hb0.cells; have hf0 := hb0.frozens))
      all_goals go_upto_region 4 with fail
      all_goals clear x0 x1 x2 x3 x4 x5 x6 x7 ne1 ne2 hc0 hf0
      · obtain ⟨V5, hV5⟩ : ∃ V5, V5 = w1.alloc (.cells #[Value.int IntKind.u32 x.id.t, Value.int IntKind.u8 x.id.r, Value.bool false, Value.bool x.pin, Value.int IntKind.i64 x.used, Value.bool true, Value.slice A1 m.length c1, Value.slice none 0 0] 31) := ⟨_, rfl⟩
        have hat : EntAt V5 w1.heap.size ⟨x.id, false, x.pin, x.used, true, m, []⟩ A1 c1 none 0 := by
          rw [hV5]
          exact EntAt.new w1 ⟨x.id, false, x.pin, x.used, true, m, []⟩ A1 c1 none 0 _
        have hb5 : Bl W' V5 := by rw [hV5]; exact hb1.alloc _
        have hr5 : RS cTimes V5 (Off w1.heap.size (w.heap.size + 1) V5) A1 m := by
          rw [hV5]
          refine RS.keep hr1 (((Bl.refl w1).alloc _).keeps fun _ h => h.2) fun b hb => ⟨by have := hb.2; rw [World.size_alloc]; omega, by have := hb.2; omega, by have := hb.1; simp at this; omega⟩
        rw [← hV5]
        clear hV5
        obtain ⟨T, hT⟩ : ∃ T, T = w1.heap.size := ⟨_, rfl⟩
        have hTw : w.heap.size + 1 < T := by have := hb1.size; omega
        rw [← hT] at hat hr5 ⊢
        clear hT hb0 hz0 hr1 hb1
        have hbl5 := hblW.trans hb5
        have at1' := at1.bl hb5
        clear hblW hb5 at0 at1
        go_wp2_with fail
        refine (hmany.out _ hbl5).mono ?_
        rintro e w6 ⟨rfl, hb6⟩
        go_wp2_with fail
        refine (refMany21 (clockMany m) _ hmn0 (by omega)).mono ?_
        rintro e w7 ⟨rfl, hb7⟩
        rw [hN1']
        have hb57 := hb6.trans hb7
        obtain ⟨x0, x1, x2, x3, x4, x5, x6, x7⟩ := (hat.bl hb57).cells
        obtain ⟨f0, f1, f2, f3, f4, f5, f6, f7⟩ := (hat.bl hb57).frozens
        have hzT := (hat.bl hb57).lt
        have neT1 : T ≠ w7.heap.size := by omega
        have neT2 : w7.heap.size ≠ T := by omega
        go_wp2_with fail
        have hszs : (w7.setCell ⟨T, 7, none⟩ (.slice (some ⟨w7.heap.size, 0, none⟩) N N)).heap.size = w7.heap.size := by simp [World.setCell]
        have hG8 := R.made N w7.heap.size (w7.setCell ⟨T, 7, none⟩ (.slice (some ⟨w7.heap.size, 0, none⟩) N N)) 4 (by rw [hszs]; exact Nat.le_refl _)
        rw [hszs] at hG8
        have hx5 : HeldO T (w.heap.size + 1) V5 ⟨x.id, false, x.pin, x.used, true, m, []⟩ A1 c1 none 0 := ⟨h1, h2, Nat.le_refl _, Nat.zero_le _, hr5, RS.nil⟩
        have hS8 := ((hx5.bl hb57).set (b := T) (o := 7) (u := .slice (some ⟨w7.heap.size, 0, none⟩) N N) (.inl rfl)).bl ((Bl.refl _).alloc (.cells (madeCells (Value.bool false).cells N) 4))
        have hbl8 := ((hbl5.trans hb57).setCell (p := ⟨T, 7, none⟩) (by show w.heap.size ≤ T; omega) (.slice (some ⟨w7.heap.size, 0, none⟩) N N)).alloc (.cells (madeCells (Value.bool false).cells N) 4)
        have hat1 := ((at1'.bl hb57).other (E := T) (o := 7) (by omega) (.slice (some ⟨w7.heap.size, 0, none⟩) N N)).bl ((Bl.refl _).alloc (.cells (madeCells (Value.bool false).cells N) 4))
        have hs7 := hb57.size
        have hx8 : HeldO T (w.heap.size + 1) ((w7.setCell ⟨T, 7, none⟩ (.slice (some ⟨w7.heap.size, 0, none⟩) N N)).alloc (.cells (madeCells (Value.bool false).cells N) 4)) ⟨x.id, false, x.pin, x.used, true, m, List.replicate N false⟩ A1 c1 (some ⟨w7.heap.size, 0, none⟩) N :=
          ⟨h1, h2, by show (List.replicate N false).length ≤ N; rw [List.length_replicate]; exact Nat.le_refl _, by unfold maxLen; omega, hS8.hS, hG8.up fun b hb => ⟨hb.2, by have := hb.1; omega, by have := hb.1; omega⟩⟩
        have hdn := refDone T (w.heap.size + 1) ⟨x.id, false, x.pin, x.used, true, m, List.replicate N false⟩ A1 (some ⟨w7.heap.size, 0, none⟩) c1 N _ (by show (List.replicate N false).length ≤ _; rw [List.length_replicate]; omega) hx8
        clear hx8 hS8 hx5 hG8 hszs x0 x1 x2 x3 x4 x5 x6 x7 f0 f1 f2 f3 f4 f5 f6 f7 hmk
        simp only [List.length_replicate] at hdn
        refine hdn.mono ?_
        rintro e w8 ⟨A2, c2, B2, d2, rfl, hx2, hb8⟩
        replace hst : y = doneE ⟨x.id, false, x.pin, x.used, true, m, List.replicate N false⟩ := hst.out
        rw [← hst] at hx2 ⊢
        replace hst := hide hst
        have hat2 := hat1.bl hb8
        obtain ⟨y0, y1, y2, y3, y4, y5, y6, y7⟩ := hat2.cells
        obtain ⟨f0, f1, f2, f3, f4, f5, f6, f7⟩ := hat2.frozens
        have hset := set8_bl (hbl8.trans hb8) (Y := w.heap.size + 1) (by omega) y A2 c2 B2 d2
        have hxs : HeldO T (w.heap.size + 1) (set8 w8 (w.heap.size + 1) y A2 c2 B2 d2) y A2 c2 B2 d2 := HeldO.set8g hx2
        clear hdn hat hat1 hat2
        go_wp2_with fail
        refine bodyPost_ret (v := .agg #[.int .u32 y.id.t, .int .u8 y.id.r, .bool y.ready, .bool y.pin, .int .i64 y.used, .bool y.known, .slice A2 y.snap.length c2, .slice B2 y.got.length d2]) (by simp [results, Try.results66, go_sem, y0, y1, y2, y3, y4, y5, y6, y7]) rfl ?_
        exact ⟨A2, c2, B2, d2, rfl, hxs.held, hset⟩
      · obtain ⟨V5, hV5⟩ : ∃ V5, V5 = set8 w1 W'.heap.size ⟨x.id, false, x.pin, x.used, true, m, []⟩ A1 c1 none 0 := ⟨_, rfl⟩
        have hzz : W'.heap.size + 1 ≤ w1.heap.size := by have := hz0; simp at this; omega
        have hat : EntAt V5 W'.heap.size ⟨x.id, false, x.pin, x.used, true, m, []⟩ A1 c1 none 0 := by
          rw [hV5]
          refine set8_at (y0 := zeroE) (A0 := none) (c0 := 0) (B0 := none) (d0 := 0) ?_ _ _ _ _ _
          exact EntAt.bl (EntAt.drew (EntAt.new W' zeroE none 0 none 0 31)) hb0
        have hb5 : Bl W' V5 := by rw [hV5]; exact set8_bl hb1 (Nat.le_refl _) _ _ _ _ _
        have hr5 : RS cTimes V5 (Off W'.heap.size (w.heap.size + 1) V5) A1 m := by
          rw [hV5]
          refine RS.up (S := Off W'.heap.size (w.heap.size + 1) (set8 w1 W'.heap.size ⟨x.id, false, x.pin, x.used, true, m, []⟩ A1 c1 none 0)) ?_ fun _ h => h
          refine (HeldO.set8 (Y := W'.heap.size) (G := w.heap.size + 1) (x := ⟨x.id, false, x.pin, x.used, true, m, []⟩) (B := none) (d := 0) ⟨h1, h2, Nat.le_refl _, Nat.zero_le _, hr1.up fun b hb => ⟨hb.2, ?_, ?_⟩, RS.nil⟩).hS
          · have := hb.1; simp at this; omega
          · have := hb.1; simp at this; omega
        unfold set8 at hV5
        dsimp only [List.length_nil] at hV5
        rw [← hV5]
        clear hV5
        obtain ⟨T, hT⟩ : ∃ T, T = W'.heap.size := ⟨_, rfl⟩
        have hTw : w.heap.size + 1 < T := by omega
        rw [← hT] at hat hr5 ⊢
        clear hT hzz hb0 hz0 hr1 hb1
        have hbl5 := hblW.trans hb5
        have at1' := at1.bl hb5
        clear hblW hb5 at0 at1
        go_wp2_with fail
        refine (hmany.out _ hbl5).mono ?_
        rintro e w6 ⟨rfl, hb6⟩
        go_wp2_with fail
        refine (refMany21 (clockMany m) _ hmn0 (by omega)).mono ?_
        rintro e w7 ⟨rfl, hb7⟩
        rw [hN1']
        have hb57 := hb6.trans hb7
        obtain ⟨x0, x1, x2, x3, x4, x5, x6, x7⟩ := (hat.bl hb57).cells
        obtain ⟨f0, f1, f2, f3, f4, f5, f6, f7⟩ := (hat.bl hb57).frozens
        have hzT := (hat.bl hb57).lt
        have neT1 : T ≠ w7.heap.size := by omega
        have neT2 : w7.heap.size ≠ T := by omega
        go_wp2_with fail
        have hszs : (w7.setCell ⟨T, 7, none⟩ (.slice (some ⟨w7.heap.size, 0, none⟩) N N)).heap.size = w7.heap.size := by simp [World.setCell]
        have hG8 := R.made N w7.heap.size (w7.setCell ⟨T, 7, none⟩ (.slice (some ⟨w7.heap.size, 0, none⟩) N N)) 4 (by rw [hszs]; exact Nat.le_refl _)
        rw [hszs] at hG8
        have hx5 : HeldO T (w.heap.size + 1) V5 ⟨x.id, false, x.pin, x.used, true, m, []⟩ A1 c1 none 0 := ⟨h1, h2, Nat.le_refl _, Nat.zero_le _, hr5, RS.nil⟩
        have hS8 := ((hx5.bl hb57).set (b := T) (o := 7) (u := .slice (some ⟨w7.heap.size, 0, none⟩) N N) (.inl rfl)).bl ((Bl.refl _).alloc (.cells (madeCells (Value.bool false).cells N) 4))
        have hbl8 := ((hbl5.trans hb57).setCell (p := ⟨T, 7, none⟩) (by show w.heap.size ≤ T; omega) (.slice (some ⟨w7.heap.size, 0, none⟩) N N)).alloc (.cells (madeCells (Value.bool false).cells N) 4)
        have hat1 := ((at1'.bl hb57).other (E := T) (o := 7) (by omega) (.slice (some ⟨w7.heap.size, 0, none⟩) N N)).bl ((Bl.refl _).alloc (.cells (madeCells (Value.bool false).cells N) 4))
        have hs7 := hb57.size
        have hx8 : HeldO T (w.heap.size + 1) ((w7.setCell ⟨T, 7, none⟩ (.slice (some ⟨w7.heap.size, 0, none⟩) N N)).alloc (.cells (madeCells (Value.bool false).cells N) 4)) ⟨x.id, false, x.pin, x.used, true, m, List.replicate N false⟩ A1 c1 (some ⟨w7.heap.size, 0, none⟩) N :=
          ⟨h1, h2, by show (List.replicate N false).length ≤ N; rw [List.length_replicate]; exact Nat.le_refl _, by unfold maxLen; omega, hS8.hS, hG8.up fun b hb => ⟨hb.2, by have := hb.1; omega, by have := hb.1; omega⟩⟩
        have hdn := refDone T (w.heap.size + 1) ⟨x.id, false, x.pin, x.used, true, m, List.replicate N false⟩ A1 (some ⟨w7.heap.size, 0, none⟩) c1 N _ (by show (List.replicate N false).length ≤ _; rw [List.length_replicate]; omega) hx8
        clear hx8 hS8 hx5 hG8 hszs x0 x1 x2 x3 x4 x5 x6 x7 f0 f1 f2 f3 f4 f5 f6 f7 hmk
        simp only [List.length_replicate] at hdn
        refine hdn.mono ?_
        rintro e w8 ⟨A2, c2, B2, d2, rfl, hx2, hb8⟩
        replace hst : y = doneE ⟨x.id, false, x.pin, x.used, true, m, List.replicate N false⟩ := hst.out
        rw [← hst] at hx2 ⊢
        replace hst := hide hst
        have hat2 := hat1.bl hb8
        obtain ⟨y0, y1, y2, y3, y4, y5, y6, y7⟩ := hat2.cells
        obtain ⟨f0, f1, f2, f3, f4, f5, f6, f7⟩ := hat2.frozens
        have hset := set8_bl (hbl8.trans hb8) (Y := w.heap.size + 1) (by omega) y A2 c2 B2 d2
        have hxs : HeldO T (w.heap.size + 1) (set8 w8 (w.heap.size + 1) y A2 c2 B2 d2) y A2 c2 B2 d2 := HeldO.set8g hx2
        clear hdn hat hat1 hat2
        go_wp2_with fail
        refine bodyPost_ret (v := .agg #[.int .u32 y.id.t, .int .u8 y.id.r, .bool y.ready, .bool y.pin, .int .i64 y.used, .bool y.known, .slice A2 y.snap.length c2, .slice B2 y.got.length d2]) (by simp [results, Try.results66, go_sem, y0, y1, y2, y3, y4, y5, y6, y7]) rfl ?_
        exact ⟨A2, c2, B2, d2, rfl, hxs.held, hset⟩
  · rw [hq] at hst
    replace hst := hide hst
    rw [Bool.and_eq_true] at hq
    obtain ⟨hkn, hs⟩ := hq
    rw [hs] at hsame
    replace hsame := hide hsame
    have hdone := fun W (hb : Bl w W) => refDone (w.heap.size + 1) (w.heap.size + 1) x A B c d W hgl (HeldO.old hx hb (Nat.le_succ _) (Nat.le_succ _))
    rw [hkn] at hdone
    replace hdone := hide hdone
    clear hs hmany hN1' hmk
    go_enter Try.func66, Try.ntmps66
    go_wp2_with fail
    obtain ⟨W, hW⟩ : ∃ W, W = (w.alloc (Obj.cells #[Value.int IntKind.u32 x.id.t, Value.int IntKind.u8 x.id.r, Value.bool x.ready, Value.bool x.pin, Value.int IntKind.i64 x.used, Value.bool x.known, Value.slice A x.snap.length c, Value.slice B x.got.length d] 31)).alloc (Obj.cells #[Value.int IntKind.u32 0, Value.int IntKind.u8 0, Value.bool false, Value.bool false, Value.int IntKind.i64 0, Value.bool false, Value.slice none 0 0, Value.slice none 0 0] 31) := ⟨_, rfl⟩
    have hblW : Bl w W := by rw [hW]; exact ((Bl.refl _).alloc _).alloc _
    have at0 : EntAt W w.heap.size x A c B d := by rw [hW]; exact entmade_at x A c B d _
    have at1 : EntAt W (w.heap.size + 1) zeroE none 0 none 0 := by rw [hW]; exact entzero_at w _
    have hs0 := at0.lt
    have hs1 := at1.lt
    try rw [hkn] at hW
    try rw [hrn] at hW
    rw [← hW]
    clear hW
    obtain ⟨x0, x1, x2, x3, x4, x5, x6, x7⟩ := at0.cells
    refine (hsame.out _ hblW).mono ?_
    rintro e w1 ⟨rfl, hb1⟩
    obtain ⟨x0, x1, x2, x3, x4, x5, x6, x7⟩ := (at0.bl hb1).cells
    have hz1 := (at0.bl hb1).lt
    go_wp2_with fail
    refine (hdone.out _ (hblW.trans hb1)).mono ?_
    rintro e w2 ⟨A2, c2, B2, d2, rfl, hx2, hb2⟩
    have hb12 := hb1.trans hb2
    have hs2 := hb12.size
    have hz2 := (at1.bl hb12).lt
    obtain ⟨y0, y1, y2, y3, y4, y5, y6, y7⟩ := (at1.bl hb12).cells
    obtain ⟨f0, f1, f2, f3, f4, f5, f6, f7⟩ := (at1.bl hb12).frozens
    have hbl := hblW.trans hb12
    replace hst : y = doneE x := hst.out
    rw [← hst] at hx2 ⊢
    have hset := set8_bl hbl (Y := w.heap.size + 1) (by omega) y A2 c2 B2 d2
    replace hst := hide hst
    go_wp2_with fail
    refine bodyPost_ret (v := .agg #[.int .u32 y.id.t, .int .u8 y.id.r, .bool y.ready, .bool y.pin, .int .i64 y.used, .bool y.known, .slice A2 y.snap.length c2, .slice B2 y.got.length d2]) (by simp [results, Try.results66, go_sem, y0, y1, y2, y3, y4, y5, y6, y7]) rfl ?_
    exact ⟨A2, c2, B2, d2, rfl, (hx2.set8 (y := y) (A' := A2) (B' := B2) (c' := c2) (d' := d2)).held, hset⟩
end Go.Proofs.Ytegmddgbdjlidaa
