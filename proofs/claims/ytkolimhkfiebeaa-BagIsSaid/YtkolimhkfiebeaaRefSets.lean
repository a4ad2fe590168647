/-
  References of layer 7: With, Without, Both, Left, told, Add, Join, Less, Check, Has, Count.
  References of layer 7: Without, Both, Left, told.
  References of layer 7: Both, Left, told, Add, Join, Less, Check, Has, Count.
-/
import Derived.Test.YtkolimhkfiebeaaSetB
import Derived.Test.YtkolimhkfiebeaaRefIn
import Derived.StillTailTactics
namespace Go.Proofs.Ytkolimhkfiebeaa
open Go.RowKit

theorem Own.setLow {e : TypeId} {lo X o : Nat} {W : World} {v : Value} {xs : List Span} (h : Own cSpan e lo W v xs) (hX : X < lo) (u : Value) : Own cSpan e lo (W.setCell ⟨X, o, none⟩ u) v xs := by
  obtain ⟨cells, ho, hr⟩ := h
  refine ⟨cells, ho.kept (row := some X) ⟨rfl, rfl, rfl, by simp [World.setCell], fun k _ hk => Below.heap_setCell _ _ _ k (fun e => hk (by rw [e]))⟩ ?_, rdl_span hr⟩
  refine .inr fun e' => ?_
  have := ho.lt X e'
  omega

/-- A span's two cells, in a box. -/
structure SpBox (W : World) (Y : Nat) (s : Span) : Prop where
  c0 : W.cell? ⟨Y, 0, none⟩ = some (.int .u32 s.f)
  c1 : W.cell? ⟨Y, 1, none⟩ = some (.int .u32 s.t)
  f0 : W.frozen? ⟨Y, 0, none⟩ = false
  f1 : W.frozen? ⟨Y, 1, none⟩ = false

theorem SpBox.lt {W : World} {Y : Nat} {s : Span} (h : SpBox W Y s) : Y < W.heap.size := World.block_lt_of_cell? W _ h.c0

theorem SpBox.bl {W W' : World} {Y : Nat} {s : Span} (h : SpBox W Y s) (hb : Bl W W') : SpBox W' Y s := ⟨(hb.cell h.lt).trans h.c0, (hb.cell h.lt).trans h.c1, (hb.frozen h.lt).trans h.f0, (hb.frozen h.lt).trans h.f1⟩

theorem SpBox.setF {W : World} {Y : Nat} {s : Span} (h : SpBox W Y s) (a : Int) : SpBox (W.setCell ⟨Y, 0, none⟩ (.int .u32 a)) Y ⟨a, s.t⟩ :=
  ⟨box_set_same h.c0, box_set_other (by intro e; injection e with _ e; omega) h.c1, by simp only [World.frozen?_setCell]; exact h.f0, by simp only [World.frozen?_setCell]; exact h.f1⟩

theorem SpBox.setT {W : World} {Y : Nat} {s : Span} (h : SpBox W Y s) (a : Int) : SpBox (W.setCell ⟨Y, 1, none⟩ (.int .u32 a)) Y ⟨s.f, a⟩ :=
  ⟨box_set_other (by intro e; injection e with _ e; omega) h.c0, box_set_same h.c1, by simp only [World.frozen?_setCell]; exact h.f0, by simp only [World.frozen?_setCell]; exact h.f1⟩

theorem SpBox.new (w : World) (s : Span) (t : TypeId) : SpBox (w.alloc (.cells #[Value.int IntKind.u32 s.f, Value.int IntKind.u32 s.t] t)) w.heap.size s := by
  have h := At.new w [Value.int IntKind.u32 s.f, Value.int IntKind.u32 s.t] t
  exact ⟨(h 0 _ rfl).1, (h 1 _ rfl).1, (h 0 _ rfl).2, (h 1 _ rfl).2⟩

theorem filT_step {l : List Span} {k : Nat} {y : Span} (p : Span → Bool) (h : l[k]? = some y) : (l.take (k + 1)).filter p = (l.take k).filter p ++ if p y then [y] else [] := by
  rw [take_snoc h, List.filter_append]
  cases hp : p y <;> simp [hp]

theorem growT_step {l : List Span} {k : Nat} {x y : Span} (h : l[k]? = some y) : growF (l.take (k + 1)) x = growX (growF (l.take k) x) y := by
  unfold growF
  rw [take_snoc h, List.foldl_append]
  rfl

def okS (x : Span) : Prop := 1 ≤ x.f ∧ x.f ≤ x.t ∧ x.t ≤ 1073741824

theorem growX_ok {x y : Span} (hx : okS x) (hy : okS y) : okS (growX x y) := by
  obtain ⟨h1, h2, h3⟩ := hx
  obtain ⟨k1, k2, k3⟩ := hy
  unfold growX okS
  split
  · dsimp only; omega
  · omega

theorem growF_ok : ∀ {l : List Span} {x : Span}, okS x → (∀ y ∈ l, okS y) → okS (growF l x)
  | [], _, h, _ => h
  | y :: l, _, h, hl => growF_ok (l := l) (growX_ok h (hl y (List.mem_cons_self ..))) fun z hz => hl z (List.mem_cons_of_mem _ hz)

theorem from_ok {l : List Span} (h : spansFrom 1 l = true) : ∀ x ∈ l, okS x := fun x hx => by
  obtain ⟨h1, h2⟩ := from_can.1 h
  have := h1.mem hx
  exact ⟨this.1, this.2, h2 x hx⟩

theorem okS.ok {x : Span} (h : okS x) : x.ok := by obtain ⟨h1, h2, h3⟩ := h; exact ⟨by omega, by omega, by omega, by omega⟩

set_option maxRecDepth 100000 in
set_option maxHeartbeats 2000000 in
theorem refWith07 (A : Option Addr) (c : Nat) (l : List Span) (x : Span) (w : World) (hl : spansFrom 1 l = true) (hx : okS x) (hA : R cSpan 0 w A l) :
    Calls Try.prog 209 #[.slice A l.length c, .agg #[.int .u32 x.f, .int .u32 x.t]] w (New cSpan (withF l x) w) := by
  obtain ⟨i0, hi, hz0, hz1, hz2⟩ := info_parts Try.infoSpan
  have hlen := from_len hl
  have hok := hide (from_ok hl)
  clear hl
  have hxo := hx.ok
  obtain ⟨x1, x2, x3⟩ := hx
  obtain ⟨W, hW⟩ : ∃ W, W = w.alloc (.cells #[.int .u32 x.f, .int .u32 x.t] 93) := ⟨_, rfl⟩
  have hbW : Bl w W := by rw [hW]; exact (Bl.refl _).alloc _
  have hsW : W.heap.size = w.heap.size + 1 := by rw [hW]; simp
  have at0 : SpBox W w.heap.size x := by rw [hW]; exact SpBox.new w x _
  have hAW := hA.bl hbW
  go_enter Try.func209, Try.ntmps209
  go_wp2_with fail
  rw [← hW]
  clear hW
  go_loopw [5, 6] (fun v5 v6 wr => Bl W wr ∧ ∃ k : Nat, k ≤ l.length ∧ v6 = .int .i64 k ∧ Own cSpan 93 W.heap.size wr v5 ((l.take k).filter fun y => decide (y.t + 1 < x.f))) (fun _ v6 _ => l.length - (intOf v6).toNat)
  case atStart => exact ⟨Bl.refl _, 0, Nat.zero_le _, rfl, by rw [List.take_zero]; exact Own.nil⟩
  case round =>
    obtain ⟨hbl, k, hk, rfl, hown⟩ := hrel
    obtain ⟨X0, X1, -, -⟩ := at0.bl hbl
    have hXl := (at0.bl hbl).lt
    by_cases hlt : k < l.length
    · obtain ⟨b, off, rfl, -, hbb⟩ := hAW.addr (by omega)
      obtain ⟨y, hy⟩ := get_lt hlt
      obtain ⟨-, -, c0', c1'⟩ := hAW.span hy
      have c0 := (hbl.cell hbb).trans c0'
      have c1 := (hbl.cell hbb).trans c1'
      have hbr := Nat.lt_of_lt_of_le hbb hbl.size
      obtain ⟨y1, y2, y3⟩ := hok.out y (List.mem_of_getElem? hy)
      have hfs := filT_step (fun y => decide (y.t + 1 < x.f)) hy
      have hFl := List.length_filter_le (fun y => decide (y.t + 1 < x.f)) (l.take k)
      rw [List.length_take] at hFl
      clear hy c0' c1'
      generalize (l.take k).filter (fun y => decide (y.t + 1 < x.f)) = F at hown hfs hFl
      have D1 := fun p : Wd wr => Wd.cell c1 hbr p
      have D0 := fun p : Wd wr => Wd.cell c0 hbr p
      have E0 := fun p : Wd wr => Wd.cell X0 hXl p
      have e1 : IntKind.u32.wrap (y.t + 1) = y.t + 1 := IntWalk.u32_in _ (by omega)
      have hki : (k : Int) < (l.length : Int) := by omega
      cases hq : decide (y.t + 1 < x.f)
      · rw [hq] at hfs
        simp only [Bool.false_eq_true, if_false, List.append_nil] at hfs
        replace hfs := hide hfs
        have hq' : ¬ (y.t + 1 < x.f) := of_decide_eq_false hq
        clear c0 c1 X0 X1 hq
        go_wp2
        (refine wp_region_wd (by kernel_rfl) (by kernel_rfl) ?_
         repeat (go_big_quiet_step ((fail)))
         refine wpQuiet_nil ?_
         intro w2 hw'
         obtain ⟨⟨wx, hb2⟩, hw''⟩ := hw'
         subst hw'')
        clear e1
        go_wp2
        go_roundw
        case rel => exact ⟨hbl.trans hb2, k + 1, by omega, by go_num, by rw [hfs.out]; exact hown.bl hb2⟩
        case measure => simp [intOf]; omega
      · rw [hq] at hfs
        simp only [if_true] at hfs
        replace hfs := hide hfs
        have hq' : y.t + 1 < x.f := of_decide_eq_true hq
        clear X0 X1 hq
        go_wp2
        (refine wp_region_wd (by kernel_rfl) (by kernel_rfl) ?_
         repeat (go_big_quiet_step ((fail)))
         refine wpQuiet_nil ?_
         intro w2 hw'
         obtain ⟨⟨wx, hb2⟩, hw''⟩ := hw'
         subst hw'')
        clear e1 D0 D1 E0
        have c0 := (hb2.cell hbr).trans c0
        have c1 := (hb2.cell hbr).trans c1
        replace hown := hown.bl hb2
        have hb12 := hbl.trans hb2
        have hown1 := hown.bl ((Bl.refl w2).alloc (.cells #[.int .u32 y.f, .int .u32 y.t] 93))
        have hsrc := Own.src (t := 93) (w1 := w2) (cs := [.int .u32 y.f, .int .u32 y.t]) (x := y) hown (Bl.refl _) hb12.size ⟨by refine ⟨?_, ?_, ?_, ?_⟩ <;> omega, rfl⟩
        have q1 : F.length + [y].length ≤ maxLen := by simp [maxLen]; omega
        have q2 : (F.length + [y].length) * 8 ≤ 140737488355328 := by simp; omega
        have q3 := (hb12.alloc (.cells #[.int .u32 y.f, .int .u32 y.t] 93)).size
        replace hsrc := hide hsrc
        replace hown1 := hide hown1
        go_wp2_with (at_builtin; refine Hid.out ?_)
        refine hide ?_
        refine wpList_append_any2 (C := cSpan) (xs := F) (ys := [y]) rfl (.tmp 24) (.tmp 29) _ rfl 93 i0 _ 8 Try.underlying94 hi hz0 hz1 hz2 rfl u5 W.heap.size rfl hown1.out (some ⟨w2.heap.size, 0, none⟩) 1 1 rfl rfl hsrc.out q1 q2 q3 ?_
        intro v9 w9 hown9 hg9 hf9
        have hb9 : Bl W w9 := (hb12.alloc _).app hown1.out (Nat.le_refl _) hg9
        clear hown hown1 hsrc q1 q2 q3 hg9 hf9
        go_wp2
        go_roundw
        case rel => exact ⟨hb9, k + 1, by omega, by go_num, by rw [hfs.out]; exact hown9⟩
        case measure => simp [intOf]; omega
    · have hkl : k = l.length := by omega
      subst hkl
      rw [List.take_length] at hown
      have hFl := List.length_filter_le (fun y => decide (y.t + 1 < x.f)) l
      obtain ⟨F, hF⟩ : ∃ F, F = l.filter (fun y => decide (y.t + 1 < x.f)) := ⟨_, rfl⟩
      rw [← hF] at hown hFl
      replace hF := hide hF
      have hki : ¬ ((l.length : Int) < (l.length : Int)) := by omega
      have hbox := (at0.bl hbl)
      clear X0 X1 at0
      obtain ⟨w1, hw1⟩ : ∃ w1, w1 = wr := ⟨_, rfl⟩
      subst hw1
      go_wp2_with fail
      go_loopw [7] (fun v7 wr => Bl w wr ∧ W.heap.size ≤ wr.heap.size ∧ ∃ k : Nat, k ≤ l.length ∧ v7 = .int .i64 k ∧ Own cSpan 93 W.heap.size wr u5 F ∧ SpBox wr w.heap.size (growF (l.take k) x)) (fun v7 _ => l.length - (intOf v7).toNat)
      case atStart => exact ⟨hbW.trans hbl, hbl.size, 0, Nat.zero_le _, rfl, hown, by rw [List.take_zero]; exact hbox⟩
      case round =>
        clear hbox hown hbl
        obtain ⟨hbl, hsz, k, hk, rfl, hown, hbx⟩ := hrel
        have hXl := hbx.lt
        by_cases hlt : k < l.length
        · have hAr := hA.bl hbl
          obtain ⟨b, off, rfl, -, hbb⟩ := hA.addr (by omega)
          obtain ⟨y, hy⟩ := get_lt hlt
          obtain ⟨-, -, c0, c1⟩ := hAr.span hy
          have hbr := Nat.lt_of_lt_of_le hbb hbl.size
          have hyo : okS y := hok.out y (List.mem_of_getElem? hy)
          have hgo : okS (growF (l.take k) x) := growF_ok ⟨x1, x2, x3⟩ fun z hz => hok.out z (List.mem_of_mem_take hz)
          have hst := growT_step (x := x) hy
          replace hst := hide hst
          clear hy hAr
          generalize growF (l.take k) x = g at *
          obtain ⟨y1, y2, y3⟩ := hyo
          obtain ⟨g1, g2, g3⟩ := hgo
          obtain ⟨X0, X1, X2, X3⟩ := hbx
          have D1 := fun p : Wd wr => Wd.cell c1 hbr p
          have D0 := fun p : Wd wr => Wd.cell c0 hbr p
          have E0 := fun p : Wd wr => Wd.cell X0 hXl p
          have E1 := fun p : Wd wr => Wd.cell X1 hXl p
          have e1 : IntKind.u32.wrap (y.t + 1) = y.t + 1 := IntWalk.u32_in _ (by omega)
          have e2 : IntKind.u32.wrap (g.t + 1) = g.t + 1 := IntWalk.u32_in _ (by omega)
          have hki : (k : Int) < (l.length : Int) := by omega
          by_cases q1 : g.f ≤ y.t + 1
          · by_cases q2 : y.f ≤ g.t + 1
            · have hgx : growX g y = ⟨min g.f y.f, max g.t y.t⟩ := by unfold growX; rw [if_pos ⟨q1, q2⟩]
              rw [hgx] at hst
              clear hgx
              go_upto_region 10 with fail
              (refine wp_region_wd (by kernel_rfl) (by kernel_rfl) ?_
               repeat (go_big_quiet_step ((fail)))
               refine wpQuiet_nil ?_
               intro w2 hw'
               obtain ⟨⟨wx, hb2⟩, hw''⟩ := hw'
               subst hw'')
              go_upto_region 11 with fail
              clear D0 D1 E0 E1 e1 e2
              have hX2 : SpBox w2 w.heap.size g := ⟨(hb2.cell hXl).trans X0, (hb2.cell hXl).trans X1, (hb2.frozen hXl).trans X2, (hb2.frozen hXl).trans X3⟩
              have c0' := (hb2.cell hbr).trans c0
              have c1' := (hb2.cell hbr).trans c1
              have hbw2 := hbl.trans hb2
              have hsz2 := Nat.le_trans hsz hb2.size
              have hX3 := (hX2.setF (min g.f y.f)).bl ((Bl.refl _).drew)
              have hX4 := (hX3.setT (max g.t y.t)).bl ((Bl.refl _).drew)
              have hne : b ≠ w.heap.size := by omega
              have hown2 := hown.bl hb2
              have hown3 := ((hown2.setLow (X := w.heap.size) (o := 0) (by omega) (.int .u32 (min g.f y.f))).bl ((Bl.refl _).drew)).setLow (X := w.heap.size) (o := 1) (by omega) (.int .u32 (max g.t y.t))
              have hown4 := hown3.bl ((Bl.refl _).drew)
              clear X0 X1 X2 X3 c0 c1 hown hown2 hown3
              obtain ⟨X0, X1, X2, X3⟩ := hX2
              obtain ⟨Y0, Y1, Y2, Y3⟩ := hX3
              go_upto_region 11 with fail
              go_still_tail 9, (by kernel_rfl)
              go_upto_region 12 with fail
              have hbw3 : Bl w ((w2.setCell ⟨w.heap.size, 0, none⟩ (.int .u32 (min g.f y.f))).drew) := (hbw2.setCell (p := ⟨w.heap.size, 0, none⟩) (Nat.le_refl _) _).drew
              have hs3 : W.heap.size ≤ ((w2.setCell ⟨w.heap.size, 0, none⟩ (.int .u32 (min g.f y.f))).drew).heap.size := by simp [World.setCell, World.drew]; omega
              have c1s : ((w2.setCell ⟨w.heap.size, 0, none⟩ (.int .u32 (min g.f y.f))).drew).cell? ⟨b, off + k * 2 + 1, none⟩ = some (.int .u32 y.t) := box_set_other (by intro e; injection e with e1 _; exact hne e1) c1'
              clear X0 X1 X2 X3 c0' c1' hbw2 hb2 hsz2
              generalize (w2.setCell ⟨w.heap.size, 0, none⟩ (.int .u32 (min g.f y.f))).drew = w3 at *
              go_still_tail 9, (by kernel_rfl)
              go_wp2
              go_roundw
              case rel => exact ⟨(hbw3.setCell (p := ⟨w.heap.size, 1, none⟩) (Nat.le_refl _) _).drew, by simp [World.setCell, World.drew]; omega, k + 1, by omega, by go_num, hown4, by rw [hst.out]; exact hX4⟩
              case measure => simp [intOf]; omega
            · have hgx : growX g y = g := by unfold growX; rw [if_neg (by omega)]
              rw [hgx] at hst
              have q2' : decide (y.f ≤ g.t + 1) = false := decide_eq_false q2
              clear hgx
              go_wp2
              (refine wp_region_wd (by kernel_rfl) (by kernel_rfl) ?_
               repeat (go_big_quiet_step ((fail)))
               refine wpQuiet_nil ?_
               intro w2 hw'
               obtain ⟨⟨wx, hb2⟩, hw''⟩ := hw'
               subst hw'')
              clear D0 D1 E0 E1 e1 e2
              go_wp2
              go_roundw
              case rel => exact ⟨hbl.trans hb2, Nat.le_trans hsz hb2.size, k + 1, by omega, by go_num, hown.bl hb2, by rw [hst.out]; exact SpBox.bl ⟨X0, X1, X2, X3⟩ hb2⟩
              case measure => simp [intOf]; omega
          · have hgx : growX g y = g := by unfold growX; rw [if_neg (by omega)]
            rw [hgx] at hst
            have q1' : decide (g.f ≤ y.t + 1) = false := decide_eq_false q1
            clear hgx
            go_wp2
            (refine wp_region_wd (by kernel_rfl) (by kernel_rfl) ?_
             repeat (go_big_quiet_step ((fail)))
             refine wpQuiet_nil ?_
             intro w2 hw'
             obtain ⟨⟨wx, hb2⟩, hw''⟩ := hw'
             subst hw'')
            clear D0 D1 E0 E1 e1 e2
            go_wp2
            go_roundw
            case rel => exact ⟨hbl.trans hb2, Nat.le_trans hsz hb2.size, k + 1, by omega, by go_num, hown.bl hb2, by rw [hst.out]; exact SpBox.bl ⟨X0, X1, X2, X3⟩ hb2⟩
            case measure => simp [intOf]; omega
        · have hkl : k = l.length := by omega
          subst hkl
          rw [List.take_length] at hbx
          have hgo : okS (growF l x) := growF_ok ⟨x1, x2, x3⟩ fun z hz => hok.out z hz
          obtain ⟨g, hg⟩ : ∃ g, g = growF l x := ⟨_, rfl⟩
          rw [← hg] at hbx hgo
          obtain ⟨g1, g2, g3⟩ := hgo
          replace hg := hide hg
          have hki : ¬ ((l.length : Int) < (l.length : Int)) := by omega
          obtain ⟨X0, X1, X2, X3⟩ := hbx
          obtain ⟨w2, hw2⟩ : ∃ w2, w2 = wr := ⟨_, rfl⟩
          subst hw2
          have hown1 := hown.bl ((Bl.refl w2).alloc (.cells #[.int .u32 g.f, .int .u32 g.t] 93))
          have hsrc := Own.src (t := 93) (w1 := w2) (cs := [.int .u32 g.f, .int .u32 g.t]) (x := g) hown (Bl.refl _) hsz ⟨by refine ⟨?_, ?_, ?_, ?_⟩ <;> omega, rfl⟩
          have q1 : F.length + [g].length ≤ maxLen := by simp [maxLen]; omega
          have q2 : (F.length + [g].length) * 8 ≤ 140737488355328 := by simp; omega
          have q3 : W.heap.size ≤ (w2.alloc (.cells #[.int .u32 g.f, .int .u32 g.t] 93)).heap.size := by rw [World.size_alloc]; omega
          replace hsrc := hide hsrc
          replace hown1 := hide hown1
          go_wp2_with (at_builtin; refine Hid.out ?_)
          refine hide ?_
          refine wpList_append_any2 (C := cSpan) (xs := F) (ys := [g]) rfl (.tmp 75) (.tmp 77) _ rfl 93 i0 _ 8 Try.underlying94 hi hz0 hz1 hz2 rfl u5 W.heap.size rfl hown1.out (some ⟨w2.heap.size, 0, none⟩) 1 1 rfl rfl hsrc.out q1 q2 q3 ?_
          intro v3 w3 hown3 hg3 hf3
          have hbw3 : Bl w w3 := (hbl.alloc _).app (hown1.out) (by omega) hg3
          have hsz3 : W.heap.size ≤ w3.heap.size := Nat.le_trans q3 hg3.size
          have hb23 : w2.heap.size + 1 ≤ w3.heap.size := by have := hg3.size; rw [World.size_alloc] at this; exact this
          have hlo : w.heap.size ≠ W.heap.size ∧ w.heap.size < W.heap.size := by omega
          have hbx3 : SpBox w3 w.heap.size g := by
            have hbl1 := (Bl.refl w2).alloc (.cells #[.int .u32 g.f, .int .u32 g.t] 93)
            have hk : w3.heap[w.heap.size]? = w2.heap[w.heap.size]? := (hg3.block w.heap.size (by rw [World.size_alloc]; omega) (fun e => by have := hown1.out.lt e.symm; omega)).trans (hbl1.block w.heap.size (by omega))
            exact ⟨(World.cell?_of_block (a := ⟨w.heap.size, 0, none⟩) hk).trans X0, (World.cell?_of_block (a := ⟨w.heap.size, 1, none⟩) hk).trans X1, (World.frozen?_of_block (a := ⟨w.heap.size, 0, none⟩) hk).trans X2, (World.frozen?_of_block (a := ⟨w.heap.size, 1, none⟩) hk).trans X3⟩
          clear hown hown1 hsrc q1 q2 q3 hg3 hf3 X0 X1 X2 X3
          have hA3 := hA.bl hbw3
          have hF3 : (F ++ [g]).length ≤ l.length + 1 := by simp; omega
          have hfin : Hid (withF l x = (F ++ [g]) ++ l.filter (fun y => decide (g.t + 1 < y.f))) := by
            show withF l x = _
            unfold withF
            rw [hF.out, hg.out, List.append_assoc]
            rfl
          generalize F ++ [g] = F2 at hown3 hF3 hfin
          go_wp2_with fail
          go_loopw [5, 8] (fun v5 v8 wr => Bl w wr ∧ SpBox wr w.heap.size g ∧ W.heap.size ≤ wr.heap.size ∧ ∃ k : Nat, k ≤ l.length ∧ v8 = .int .i64 k ∧ Own cSpan 93 W.heap.size wr v5 (F2 ++ (l.take k).filter fun y => decide (g.t + 1 < y.f))) (fun _ v8 _ => l.length - (intOf v8).toNat)
          case atStart => exact ⟨hbw3, hbx3, hsz3, 0, Nat.zero_le _, rfl, by rw [List.take_zero, List.filter_nil, List.append_nil]; exact hown3⟩
          case round =>
            clear hown3 hbw3 hbx3 hsz3 hb23 hA3 hbl
            obtain ⟨hbl, hbx, hsz, k, hk, rfl, hown⟩ := hrel
            have hXl := hbx.lt
            have hbxc := hbx
            obtain ⟨X0, X1, -, -⟩ := hbxc
            by_cases hlt : k < l.length
            · obtain ⟨b, off, rfl, -, hbb⟩ := hA.addr (by omega)
              obtain ⟨y, hy⟩ := get_lt hlt
              obtain ⟨-, -, c0', c1'⟩ := hA.span hy
              have c0 := (hbl.cell hbb).trans c0'
              have c1 := (hbl.cell hbb).trans c1'
              have hbr := Nat.lt_of_lt_of_le hbb hbl.size
              obtain ⟨y1, y2, y3⟩ := hok.out y (List.mem_of_getElem? hy)
              have hfs := filT_step (fun y => decide (g.t + 1 < y.f)) hy
              have hFl := List.length_filter_le (fun y => decide (g.t + 1 < y.f)) (l.take k)
              rw [List.length_take] at hFl
              clear hy c0' c1'
              generalize (l.take k).filter (fun y => decide (g.t + 1 < y.f)) = G at hown hfs hFl
              have D0 := fun p : Wd wr => Wd.cell c0 hbr p
              have E1 := fun p : Wd wr => Wd.cell X1 hXl p
              have e1 : IntKind.u32.wrap (g.t + 1) = g.t + 1 := IntWalk.u32_in _ (by omega)
              have hki2 : (k : Int) < (l.length : Int) := by omega
              cases hq : decide (g.t + 1 < y.f)
              · rw [hq] at hfs
                simp only [Bool.false_eq_true, if_false, List.append_nil] at hfs
                replace hfs := hide hfs
                have hq' : ¬ (g.t + 1 < y.f) := of_decide_eq_false hq
                clear c0 c1 X0 X1 hq
                go_wp2
                (refine wp_region_wd (by kernel_rfl) (by kernel_rfl) ?_
                 repeat (go_big_quiet_step ((fail)))
                 refine wpQuiet_nil ?_
                 intro w2 hw'
                 obtain ⟨⟨wx, hb2⟩, hw''⟩ := hw'
                 subst hw'')
                clear e1
                go_wp2
                go_roundw
                case rel => exact ⟨hbl.trans hb2, hbx.bl hb2, Nat.le_trans hsz hb2.size, k + 1, by omega, by go_num, by rw [hfs.out]; exact hown.bl hb2⟩
                case measure => simp [intOf]; omega
              · rw [hq] at hfs
                simp only [if_true] at hfs
                replace hfs := hide hfs
                have hq' : g.t + 1 < y.f := of_decide_eq_true hq
                clear X0 X1 hq
                go_wp2
                (refine wp_region_wd (by kernel_rfl) (by kernel_rfl) ?_
                 repeat (go_big_quiet_step ((fail)))
                 refine wpQuiet_nil ?_
                 intro w2 hw'
                 obtain ⟨⟨wx, hb2⟩, hw''⟩ := hw'
                 subst hw'')
                clear e1 D0 E1
                have c0 := (hb2.cell hbr).trans c0
                have c1 := (hb2.cell hbr).trans c1
                replace hown := hown.bl hb2
                have hb12 := hbl.trans hb2
                have hsz2 := Nat.le_trans hsz hb2.size
                have hown1 := hown.bl ((Bl.refl w2).alloc (.cells #[.int .u32 y.f, .int .u32 y.t] 93))
                have hsrc := Own.src (t := 93) (w1 := w2) (cs := [.int .u32 y.f, .int .u32 y.t]) (x := y) hown (Bl.refl _) hsz2 ⟨by refine ⟨?_, ?_, ?_, ?_⟩ <;> omega, rfl⟩
                have q1 : (F2 ++ G).length + [y].length ≤ maxLen := by simp only [List.length_append, List.length_cons, List.length_nil, maxLen]; omega
                have q2 : ((F2 ++ G).length + [y].length) * 8 ≤ 140737488355328 := by simp only [List.length_append, List.length_cons, List.length_nil]; omega
                have q3 : W.heap.size ≤ (w2.alloc (.cells #[.int .u32 y.f, .int .u32 y.t] 93)).heap.size := by rw [World.size_alloc]; omega
                replace hsrc := hide hsrc
                replace hown1 := hide hown1
                go_wp2_with (at_builtin; refine Hid.out ?_)
                refine hide ?_
                refine wpList_append_any2 (C := cSpan) (xs := F2 ++ G) (ys := [y]) rfl (.tmp 94) (.tmp 99) _ rfl 93 i0 _ 8 Try.underlying94 hi hz0 hz1 hz2 rfl u5 W.heap.size rfl hown1.out (some ⟨w2.heap.size, 0, none⟩) 1 1 rfl rfl hsrc.out q1 q2 q3 ?_
                intro v9 w9 hown9 hg9 hf9
                have hb9 : Bl w w9 := (hb12.alloc _).app hown1.out (by omega) hg9
                have hbx9 : SpBox w9 w.heap.size g := by
                  obtain ⟨X0, X1, X2, X3⟩ := hbx.bl hb2
                  have hbl1 := (Bl.refl w2).alloc (.cells #[.int .u32 y.f, .int .u32 y.t] 93)
                  have hxl2 : w.heap.size < w2.heap.size := by omega
                  have hk : w9.heap[w.heap.size]? = w2.heap[w.heap.size]? := (hg9.block w.heap.size (by rw [World.size_alloc]; omega) (fun e => by have := hown1.out.lt e.symm; omega)).trans (hbl1.block w.heap.size hxl2)
                  exact ⟨(World.cell?_of_block (a := ⟨w.heap.size, 0, none⟩) hk).trans X0, (World.cell?_of_block (a := ⟨w.heap.size, 1, none⟩) hk).trans X1, (World.frozen?_of_block (a := ⟨w.heap.size, 0, none⟩) hk).trans X2, (World.frozen?_of_block (a := ⟨w.heap.size, 1, none⟩) hk).trans X3⟩
                have hsz9 : W.heap.size ≤ w9.heap.size := Nat.le_trans q3 hg9.size
                rw [List.append_assoc, ← hfs.out] at hown9
                clear hown hown1 hsrc q1 q2 q3 hg9 hf9
                go_wp2
                go_roundw
                case rel => exact ⟨hb9, hbx9, hsz9, k + 1, by omega, by go_num, hown9⟩
                case measure => simp [intOf]; omega
            · have hkl : k = l.length := by omega
              subst hkl
              rw [List.take_length, ← hfin.out] at hown
              obtain ⟨A9, c9, rfl, hr9, h91, h92⟩ := hown.reads
              go_wp2
              go_ret
              exact ⟨A9, c9, rfl, h91, h92, hr9.more (by omega), hbl⟩
end Go.Proofs.Ytkolimhkfiebeaa

namespace Go.Proofs.Ytkolimhkfiebeaa
open Go.RowKit

theorem SpBox.app {w w9 : World} {tmp : Obj} {v : Value} {Y : Nat} {s : Span} (h : SpBox w Y s) (hne : v.ownBlock = some Y → False) (hg : (w.alloc tmp).grownBy w9 v.ownBlock) : SpBox w9 Y s := by
  have hk : w9.heap[Y]? = w.heap[Y]? := (hg.block Y (by rw [World.size_alloc]; have := h.lt; omega) (fun e => hne e.symm)).trans (((Bl.refl w).alloc tmp).block Y h.lt)
  exact ⟨(World.cell?_of_block (a := ⟨Y, 0, none⟩) hk).trans h.c0, (World.cell?_of_block (a := ⟨Y, 1, none⟩) hk).trans h.c1, (World.frozen?_of_block (a := ⟨Y, 0, none⟩) hk).trans h.f0, (World.frozen?_of_block (a := ⟨Y, 1, none⟩) hk).trans h.f1⟩

theorem without_step {l : List Span} {k : Nat} {x y : Span} (h : l[k]? = some y) : withoutF (l.take (k + 1)) x = withoutF (l.take k) x ++ cutX x y := by
  unfold withoutF
  rw [take_snoc h, List.flatMap_append]
  simp

theorem cut_len (x y : Span) : (cutX x y).length ≤ 2 := by
  unfold cutX
  split
  · simp
  · split <;> split <;> simp

theorem without_len (x : Span) : ∀ l : List Span, (withoutF l x).length ≤ 2 * l.length
  | [] => Nat.le_refl _
  | y :: l => by
    have h1 := cut_len x y
    have h2 := without_len x l
    unfold withoutF at *
    rw [List.flatMap_cons, List.length_append, List.length_cons]
    omega

end Go.Proofs.Ytkolimhkfiebeaa

namespace Go.Proofs.Ytkolimhkfiebeaa
open Go.RowKit

theorem both_step {a b : List Span} {k : Nat} {y : Span} (h : b[k]? = some y) : bothF a (b.take (k + 1)) = withF (bothF a (b.take k)) y := by
  unfold bothF
  rw [take_snoc h, List.foldl_append]
  rfl

theorem left_step {a b : List Span} {k : Nat} {y : Span} (h : b[k]? = some y) : leftF a (b.take (k + 1)) = withoutF (leftF a (b.take k)) y := by
  unfold leftF
  rw [take_snoc h, List.foldl_append]
  rfl

theorem both_from {a : List Span} : ∀ {b : List Span}, (∀ y ∈ b, okS y) → ∀ a, spansFrom 1 a = true → spansFrom 1 (bothF a b) = true
  | [], _, _, h => h
  | y :: b, hb, _, h => by
    obtain ⟨h1, h2, h3⟩ := hb y (List.mem_cons_self ..)
    exact both_from (a := a) (b := b) (fun z hz => hb z (List.mem_cons_of_mem _ hz)) _ (with_from h h1 h2 h3)

theorem left_from : ∀ {b : List Span}, (∀ y ∈ b, okS y) → ∀ a, spansFrom 1 a = true → spansFrom 1 (leftF a b) = true
  | [], _, _, h => h
  | y :: b, hb, _, h => left_from (b := b) (fun z hz => hb z (List.mem_cons_of_mem _ hz)) _ (without_from h (hb y (List.mem_cons_self ..)).2.1)

set_option maxRecDepth 100000 in
set_option maxHeartbeats 1000000 in
theorem refBoth07 (A B : Option Addr) (c d : Nat) (a b : List Span) (w : World) (hl : a.length ≤ 1048576) (hm : b.length ≤ maxLen) (ha : spansFrom 1 a = true) (hb : ∀ y ∈ b, okS y) (hA : R cSpan 0 w A a) (hB : R cSpan 0 w B b) :
    Calls Try.prog 181 #[.slice A a.length c, .slice B b.length d] w (New cSpan (bothF a b) w) := by
  unfold maxLen at hm
  replace hb := hide hb
  replace ha := hide ha
  go_enter Try.func181, Try.ntmps181
  go_wp2_with fail
  refine (refTwin07 A c a _ hl hA).mono ?_
  rintro e w1 ⟨X, x, rfl, x1, x2, hX, hb1⟩
  go_wp2_with fail
  go_loopw [5, 6] (fun v5 v6 wr => Bl w wr ∧ ∃ k : Nat, k ≤ b.length ∧ v6 = .int .i64 k ∧ ∃ L A5 c5, v5 = .slice A5 L.length c5 ∧ L.length ≤ c5 ∧ c5 ≤ maxLen ∧ R cSpan w.heap.size wr A5 L ∧ Hid (L = bothF a (b.take k) ∧ spansFrom 1 L = true)) (fun _ v6 _ => b.length - (intOf v6).toNat)
  case atStart => exact ⟨hb1, 0, Nat.zero_le _, rfl, a, X, x, rfl, x1, x2, hX, rfl, ha.out⟩
  case round =>
    obtain ⟨hbl, k, hk, rfl, L, A5, c5, rfl, h51, h52, hL, hf⟩ := hrel
    by_cases hlt : k < b.length
    · have hBr := hB.bl hbl
      obtain ⟨bb, off, rfl, -, hbb⟩ := hBr.addr (by omega)
      obtain ⟨y, hy⟩ := get_lt hlt
      obtain ⟨-, -, c0, c1⟩ := hBr.span hy
      have hy2 := hb.out y (List.mem_of_getElem? hy)
      have hst := hide (both_step (a := a) hy)
      clear hy
      have hki : (k : Int) < (b.length : Int) := by omega
      have hw := hide (refWith07 A5 c5 L y wr hf.out.2 hy2 hL.zero)
      go_wp2_with fail
      refine hw.out.mono ?_
      rintro e w2 ⟨A6, c6, rfl, h61, h62, hr6, hb2⟩
      go_wp2
      go_roundw
      case rel =>
        obtain ⟨hy1, hy3, hy4⟩ := hy2
        exact ⟨hbl.trans hb2, k + 1, by omega, by go_num, _, A6, c6, rfl, h61, h62, hr6.more hbl.size, by rw [hst.out, hf.out.1], with_from hf.out.2 hy1 hy3 hy4⟩
      case measure => simp [intOf]; omega
    · have hkl : k = b.length := by omega
      subst hkl
      have hfin := hf.out.1
      rw [List.take_length] at hfin
      subst hfin
      have hki : ¬ ((b.length : Int) < (b.length : Int)) := by omega
      clear hf
      go_wp2
      go_ret
      exact ⟨A5, c5, rfl, h51, h52, hL, hbl⟩

/-- A call that hands back a list that it was given, or none, and an error. -/
def ToldP (A : Option Addr) (c : Nat) (l : List Span) (w : World) (e : Ending) (w' : World) : Prop := e = .returned (.tuple #[.slice (if 1024 < l.length then none else A) (toldL l).length (if 1024 < l.length then 0 else c), .int .i64 (toldN l)]) ∧ w' = w

theorem told_new {A : Option Addr} {c : Nat} {l : List Span} {w w1 w2 : World} {e : Ending} (h : ToldP A c l w1 e w2) (h1 : l.length ≤ c) (h2 : c ≤ maxLen) (hr : R cSpan w.heap.size w1 A l) (hb : Bl w w1) : New2 cSpan (toldL l) (toldN l) w e w2 := by
  obtain ⟨rfl, rfl⟩ := h
  refine ⟨_, _, rfl, ?_, ?_, ?_, hb⟩
  · unfold toldL; split <;> simp [*]
  · split
    · exact Nat.zero_le _
    · exact h2
  · unfold toldL
    split
    · exact R.nil
    · exact hr

theorem may_from {l : List Span} (h : spansMay l = true) : spansFrom 1 l = true ∧ l.length ≤ 1024 := by
  unfold spansMay at h
  rw [Bool.and_eq_true, decide_eq_true_eq] at h
  exact ⟨h.2, h.1⟩

theorem okX_iff {x : Span} : okX x = true ↔ okS x := by
  unfold okX okS
  simp only [Bool.and_eq_true, decide_eq_true_eq]
  constructor
  · rintro ⟨⟨h1, h2⟩, h3⟩; exact ⟨h1, h2, h3⟩
  · rintro ⟨h1, h2, h3⟩; exact ⟨⟨h1, h2⟩, h3⟩

end Go.Proofs.Ytkolimhkfiebeaa
