/-
  References of layer 7: Without, Both, Left, told.
-/
import Derived.Test.YtiimpmdnkjhcoaaRefSet
namespace Go.Proofs.Ytiimpmdnkjhcoaa
open Go.RowKit

theorem SpBox.app {w w9 : World} {tmp : Obj} {v : Value} {Y : Nat} {s : Span} (h : SpBox w Y s) (hne : v.ownBlock = some Y → False) (hg : (w.alloc tmp).grownBy w9 v.ownBlock) : SpBox w9 Y s := by
  have hk : w9.heap[Y]? = w.heap[Y]? := (hg.block Y (by rw [World.size_alloc]; have := h.lt; omega) (fun e => hne e.symm)).trans (((Bl.refl w).alloc tmp).block Y h.lt)
  exact ⟨(World.cell?_of_block (a := ⟨Y, 0, none⟩) hk).trans h.c0, (World.cell?_of_block (a := ⟨Y, 1, none⟩) hk).trans h.c1, (World.frozen?_of_block (a := ⟨Y, 0, none⟩) hk).trans h.f0, (World.frozen?_of_block (a := ⟨Y, 1, none⟩) hk).trans h.f1⟩

theorem without_step {l : List Span} {k : Nat} {x y : Span} (h : l[k]? = some y) : withoutF (l.take (k + 1)) x = withoutF (l.take k) x ++ cutX x y := by
  unfold withoutF
  rw [take_snoc h, List.flatMap_append]
  simp

theorem cut_len (x y : Span) : (cutX x y).length ≤ 2 := by
  unfold cutX
  split
  · simp
  · split <;> split <;> simp

theorem without_len (x : Span) : ∀ l : List Span, (withoutF l x).length ≤ 2 * l.length
  | [] => Nat.le_refl _
  | y :: l => by
    have h1 := cut_len x y
    have h2 := without_len x l
    unfold withoutF at *
    rw [List.flatMap_cons, List.length_append, List.length_cons]
    omega

set_option maxRecDepth 100000 in
set_option maxHeartbeats 2000000 in
theorem refWithout07 (A : Option Addr) (c : Nat) (l : List Span) (x : Span) (w : World) (hl : spansFrom 1 l = true) (hx : okS x) (hA : R cSpan 0 w A l) :
    Calls Try.prog 100 #[.slice A l.length c, .agg #[.int .u32 x.f, .int .u32 x.t]] w (New cSpan (withoutF l x) w) := by
  obtain ⟨i0, hi, hz0, hz1, hz2⟩ := info_parts Try.infoSpan
  have hlen := from_len hl
  have hok := hide (from_ok hl)
  clear hl
  obtain ⟨x1, x2, x3⟩ := hx
  obtain ⟨W, hW⟩ : ∃ W, W = w.alloc (.cells #[.int .u32 x.f, .int .u32 x.t] 36) := ⟨_, rfl⟩
  have hbW : Bl w W := by rw [hW]; exact (Bl.refl _).alloc _
  have hsW : W.heap.size = w.heap.size + 1 := by rw [hW]; simp
  have at0 : SpBox W w.heap.size x := by rw [hW]; exact SpBox.new w x _
  have hAW := hA.bl hbW
  go_enter Try.func100, Try.ntmps100
  go_wp2_with fail
  rw [← hW]
  clear hW
  go_loopw [5, 6] (fun v5 v6 wr => Bl W wr ∧ ∃ k : Nat, k ≤ l.length ∧ v6 = .int .i64 k ∧ Own cSpan 36 W.heap.size wr v5 (withoutF (l.take k) x)) (fun _ v6 _ => l.length - (intOf v6).toNat)
  case atStart => exact ⟨Bl.refl _, 0, Nat.zero_le _, rfl, by rw [List.take_zero]; exact Own.nil⟩
  case round =>
    obtain ⟨hbl, k, hk, rfl, hown⟩ := hrel
    by_cases hlt : k < l.length
    · obtain ⟨b, off, rfl, -, hbb⟩ := hAW.addr (by omega)
      obtain ⟨y, hy⟩ := get_lt hlt
      obtain ⟨-, -, c0', c1'⟩ := hAW.span hy
      have c0 := (hbl.cell hbb).trans c0'
      have c1 := (hbl.cell hbb).trans c1'
      obtain ⟨y1, y2, y3⟩ := hok.out y (List.mem_of_getElem? hy)
      have hst := without_step (x := x) hy
      have hFl := without_len x (l.take k)
      rw [List.length_take] at hFl
      clear hy c0' c1'
      generalize withoutF (l.take k) x = F at hown hst hFl
      have hki : (k : Int) < (l.length : Int) := by omega
      obtain ⟨V, hV⟩ : ∃ V, V = wr.alloc (.cells #[.int .u32 y.f, .int .u32 y.t] 36) := ⟨_, rfl⟩
      have hbV : Bl wr V := by rw [hV]; exact (Bl.refl _).alloc _
      have hsV : wr.heap.size < V.heap.size := by rw [hV]; simp
      have aty : SpBox V wr.heap.size y := by rw [hV]; exact SpBox.new wr y _
      have atx := (at0.bl hbl).bl hbV
      have hnoy : u5.ownBlock = some wr.heap.size → False := fun e => by have := (hown.lt e).2; omega
      have hnox : u5.ownBlock = some w.heap.size → False := fun e => by have := (hown.lt e).1; omega
      have hbWV := hbl.trans hbV
      replace hown := hown.bl hbV
      have hsz := hbWV.size
      go_upto_region 6 with fail
      rw [← hV]
      clear hV
      have aty2 := aty
      have atx2 := atx
      obtain ⟨X0, X1, -, -⟩ := atx2
      obtain ⟨Y0, Y1, -, -⟩ := aty2
      by_cases q1 : y.t < x.f
      · have hc : cutX x y = [y] := by unfold cutX; rw [if_pos (.inl q1)]
        rw [hc] at hst
        replace hst := hide hst
        clear hc
        have hown1 := hown.bl ((Bl.refl V).alloc (.cells #[.int .u32 (y.f), .int .u32 (y.t)] 36))
        have hsrc := Own.src (t := 36) (w1 := V) (cs := [.int .u32 (y.f), .int .u32 (y.t)]) (x := ⟨y.f, y.t⟩) hown (Bl.refl _) hsz ⟨by refine ⟨?_, ?_, ?_, ?_⟩ <;> dsimp only <;> omega, rfl⟩
        have qa1 : (F).length + [(⟨y.f, y.t⟩ : Span)].length ≤ maxLen := by rw [List.length_singleton]; unfold maxLen; omega
        have qa2 : ((F).length + [(⟨y.f, y.t⟩ : Span)].length) * 8 ≤ 140737488355328 := by rw [List.length_singleton]; omega
        have qa3 : W.heap.size ≤ (V.alloc (.cells #[.int .u32 (y.f), .int .u32 (y.t)] 36)).heap.size := by rw [World.size_alloc]; omega
        replace hsrc := hide hsrc
        replace hown1 := hide hown1
        go_wp2_with (at_builtin; refine Hid.out ?_)
        refine hide ?_
        refine wpList_append_any2 (C := cSpan) (xs := F) (ys := [⟨y.f, y.t⟩]) rfl (.tmp 30) (.tmp 32) _ rfl 36 i0 _ 8 Try.underlying22 hi hz0 hz1 hz2 rfl u5 W.heap.size rfl hown1.out (some ⟨V.heap.size, 0, none⟩) 1 1 rfl rfl hsrc.out qa1 qa2 qa3 ?_
        intro v9 w9 hown9 hg9 hf9
        have hlt9 := hown1.out
        have hb9 : Bl W w9 := (hbWV.alloc _).app hown1.out (Nat.le_refl _) hg9
        clear hown hown1 hsrc qa1 qa2 qa3 hg9 hf9 hlt9
        go_wp2
        go_roundw
        case rel => exact ⟨hb9, k + 1, by omega, by go_num, by rw [hst.out]; exact hown9⟩
        case measure => simp [intOf]; omega
      · by_cases q2 : x.t < y.f
        · have hc : cutX x y = [y] := by unfold cutX; rw [if_pos (.inr q2)]
          rw [hc] at hst
          replace hst := hide hst
          clear hc
          have hown1 := hown.bl ((Bl.refl V).alloc (.cells #[.int .u32 (y.f), .int .u32 (y.t)] 36))
          have hsrc := Own.src (t := 36) (w1 := V) (cs := [.int .u32 (y.f), .int .u32 (y.t)]) (x := ⟨y.f, y.t⟩) hown (Bl.refl _) hsz ⟨by refine ⟨?_, ?_, ?_, ?_⟩ <;> dsimp only <;> omega, rfl⟩
          have qa1 : (F).length + [(⟨y.f, y.t⟩ : Span)].length ≤ maxLen := by rw [List.length_singleton]; unfold maxLen; omega
          have qa2 : ((F).length + [(⟨y.f, y.t⟩ : Span)].length) * 8 ≤ 140737488355328 := by rw [List.length_singleton]; omega
          have qa3 : W.heap.size ≤ (V.alloc (.cells #[.int .u32 (y.f), .int .u32 (y.t)] 36)).heap.size := by rw [World.size_alloc]; omega
          replace hsrc := hide hsrc
          replace hown1 := hide hown1
          go_wp2_with (at_builtin; refine Hid.out ?_)
          refine hide ?_
          refine wpList_append_any2 (C := cSpan) (xs := F) (ys := [⟨y.f, y.t⟩]) rfl (.tmp 30) (.tmp 32) _ rfl 36 i0 _ 8 Try.underlying22 hi hz0 hz1 hz2 rfl u5 W.heap.size rfl hown1.out (some ⟨V.heap.size, 0, none⟩) 1 1 rfl rfl hsrc.out qa1 qa2 qa3 ?_
          intro v9 w9 hown9 hg9 hf9
          have hlt9 := hown1.out
          have hb9 : Bl W w9 := (hbWV.alloc _).app hown1.out (Nat.le_refl _) hg9
          clear hown hown1 hsrc qa1 qa2 qa3 hg9 hf9 hlt9
          go_wp2
          go_roundw
          case rel => exact ⟨hb9, k + 1, by omega, by go_num, by rw [hst.out]; exact hown9⟩
          case measure => simp [intOf]; omega
        · have hc : cutX x y = (if y.f < x.f then [⟨y.f, x.f - 1⟩] else []) ++ (if x.t < y.t then [⟨x.t + 1, y.t⟩] else []) := by unfold cutX; rw [if_neg (by omega)]
          rw [hc] at hst
          replace hst := hide hst
          clear hc
          by_cases p1 : y.f < x.f
          · by_cases p2 : x.t < y.t
            · have hown1 := hown.bl ((Bl.refl V).alloc (.cells #[.int .u32 (y.f), .int .u32 (x.f - 1)] 36))
              have hsrc := Own.src (t := 36) (w1 := V) (cs := [.int .u32 (y.f), .int .u32 (x.f - 1)]) (x := ⟨y.f, x.f - 1⟩) hown (Bl.refl _) hsz ⟨by refine ⟨?_, ?_, ?_, ?_⟩ <;> dsimp only <;> omega, rfl⟩
              have qa1 : (F).length + [(⟨y.f, x.f - 1⟩ : Span)].length ≤ maxLen := by rw [List.length_singleton]; unfold maxLen; omega
              have qa2 : ((F).length + [(⟨y.f, x.f - 1⟩ : Span)].length) * 8 ≤ 140737488355328 := by rw [List.length_singleton]; omega
              have qa3 : W.heap.size ≤ (V.alloc (.cells #[.int .u32 (y.f), .int .u32 (x.f - 1)] 36)).heap.size := by rw [World.size_alloc]; omega
              replace hsrc := hide hsrc
              replace hown1 := hide hown1
              go_wp2_with (at_builtin; refine Hid.out ?_)
              refine hide ?_
              refine wpList_append_any2 (C := cSpan) (xs := F) (ys := [⟨y.f, x.f - 1⟩]) rfl (.tmp 39) (.tmp 46) _ rfl 36 i0 _ 8 Try.underlying22 hi hz0 hz1 hz2 rfl u5 W.heap.size rfl hown1.out (some ⟨V.heap.size, 0, none⟩) 1 1 rfl rfl hsrc.out qa1 qa2 qa3 ?_
              intro v8 w8 hown9 hg9 hf9
              have hlt9 := hown1.out
              have hb8 : Bl W w8 := (hbWV.alloc _).app hown1.out (Nat.le_refl _) hg9
              obtain ⟨X0', X1', -, -⟩ := atx.app hnox hg9
              obtain ⟨Y0', Y1', -, -⟩ := aty.app hnoy hg9
              have hsz8 := hb8.size
              clear hown hown1 hsrc qa1 qa2 qa3 hg9 hf9 hlt9 X0 X1 Y0 Y1
              have hown := hown9
              clear hown9
              obtain ⟨F8, hF8⟩ : ∃ F8, F8 = F ++ [(⟨y.f, x.f - 1⟩ : Span)] := ⟨_, rfl⟩
              have hF8l : F8.length ≤ F.length + 1 := by rw [hF8]; simp
              rw [← hF8] at hown
              replace hF8 := hide hF8
              have hown1 := hown.bl ((Bl.refl w8).alloc (.cells #[.int .u32 (x.t + 1), .int .u32 (y.t)] 36))
              have hsrc := Own.src (t := 36) (w1 := w8) (cs := [.int .u32 (x.t + 1), .int .u32 (y.t)]) (x := ⟨x.t + 1, y.t⟩) hown (Bl.refl _) hsz8 ⟨by refine ⟨?_, ?_, ?_, ?_⟩ <;> dsimp only <;> omega, rfl⟩
              have qa1 : (F8).length + [(⟨x.t + 1, y.t⟩ : Span)].length ≤ maxLen := by rw [List.length_singleton]; unfold maxLen; omega
              have qa2 : ((F8).length + [(⟨x.t + 1, y.t⟩ : Span)].length) * 8 ≤ 140737488355328 := by rw [List.length_singleton]; omega
              have qa3 : W.heap.size ≤ (w8.alloc (.cells #[.int .u32 (x.t + 1), .int .u32 (y.t)] 36)).heap.size := by rw [World.size_alloc]; omega
              replace hsrc := hide hsrc
              replace hown1 := hide hown1
              go_wp2_with (at_builtin; refine Hid.out ?_)
              refine hide ?_
              refine wpList_append_any2 (C := cSpan) (xs := F8) (ys := [⟨x.t + 1, y.t⟩]) rfl (.tmp 53) (.tmp 60) _ rfl 36 i0 _ 8 Try.underlying22 hi hz0 hz1 hz2 rfl v8 W.heap.size rfl hown1.out (some ⟨w8.heap.size, 0, none⟩) 1 1 rfl rfl hsrc.out qa1 qa2 qa3 ?_
              intro v9 w9 hown9 hg9 hf9
              have hlt9 := hown1.out
              have hb9 : Bl W w9 := (hb8.alloc _).app hown1.out (Nat.le_refl _) hg9
              clear hown hown1 hsrc qa1 qa2 qa3 hg9 hf9 hlt9
              go_wp2
              go_roundw
              case rel => exact ⟨hb9, k + 1, by omega, by go_num, by rw [hst.out, if_pos p1, if_pos p2, ← List.append_assoc, ← hF8.out]; exact hown9⟩
              case measure => simp [intOf]; omega
            · have hown1 := hown.bl ((Bl.refl V).alloc (.cells #[.int .u32 (y.f), .int .u32 (x.f - 1)] 36))
              have hsrc := Own.src (t := 36) (w1 := V) (cs := [.int .u32 (y.f), .int .u32 (x.f - 1)]) (x := ⟨y.f, x.f - 1⟩) hown (Bl.refl _) hsz ⟨by refine ⟨?_, ?_, ?_, ?_⟩ <;> dsimp only <;> omega, rfl⟩
              have qa1 : (F).length + [(⟨y.f, x.f - 1⟩ : Span)].length ≤ maxLen := by rw [List.length_singleton]; unfold maxLen; omega
              have qa2 : ((F).length + [(⟨y.f, x.f - 1⟩ : Span)].length) * 8 ≤ 140737488355328 := by rw [List.length_singleton]; omega
              have qa3 : W.heap.size ≤ (V.alloc (.cells #[.int .u32 (y.f), .int .u32 (x.f - 1)] 36)).heap.size := by rw [World.size_alloc]; omega
              replace hsrc := hide hsrc
              replace hown1 := hide hown1
              go_wp2_with (at_builtin; refine Hid.out ?_)
              refine hide ?_
              refine wpList_append_any2 (C := cSpan) (xs := F) (ys := [⟨y.f, x.f - 1⟩]) rfl (.tmp 39) (.tmp 46) _ rfl 36 i0 _ 8 Try.underlying22 hi hz0 hz1 hz2 rfl u5 W.heap.size rfl hown1.out (some ⟨V.heap.size, 0, none⟩) 1 1 rfl rfl hsrc.out qa1 qa2 qa3 ?_
              intro v8 w8 hown9 hg9 hf9
              have hlt9 := hown1.out
              have hb8 : Bl W w8 := (hbWV.alloc _).app hown1.out (Nat.le_refl _) hg9
              obtain ⟨X0', X1', -, -⟩ := atx.app hnox hg9
              obtain ⟨Y0', Y1', -, -⟩ := aty.app hnoy hg9
              have hsz8 := hb8.size
              clear hown hown1 hsrc qa1 qa2 qa3 hg9 hf9 hlt9 X0 X1 Y0 Y1
              go_wp2
              go_roundw
              case rel => exact ⟨hb8, k + 1, by omega, by go_num, by rw [hst.out, if_pos p1, if_neg (show ¬ x.t < y.t by omega), List.append_nil]; exact hown9⟩
              case measure => simp [intOf]; omega
          · by_cases p2 : x.t < y.t
            · have hown1 := hown.bl ((Bl.refl V).alloc (.cells #[.int .u32 (x.t + 1), .int .u32 (y.t)] 36))
              have hsrc := Own.src (t := 36) (w1 := V) (cs := [.int .u32 (x.t + 1), .int .u32 (y.t)]) (x := ⟨x.t + 1, y.t⟩) hown (Bl.refl _) hsz ⟨by refine ⟨?_, ?_, ?_, ?_⟩ <;> dsimp only <;> omega, rfl⟩
              have qa1 : (F).length + [(⟨x.t + 1, y.t⟩ : Span)].length ≤ maxLen := by rw [List.length_singleton]; unfold maxLen; omega
              have qa2 : ((F).length + [(⟨x.t + 1, y.t⟩ : Span)].length) * 8 ≤ 140737488355328 := by rw [List.length_singleton]; omega
              have qa3 : W.heap.size ≤ (V.alloc (.cells #[.int .u32 (x.t + 1), .int .u32 (y.t)] 36)).heap.size := by rw [World.size_alloc]; omega
              replace hsrc := hide hsrc
              replace hown1 := hide hown1
              go_wp2_with (at_builtin; refine Hid.out ?_)
              refine hide ?_
              refine wpList_append_any2 (C := cSpan) (xs := F) (ys := [⟨x.t + 1, y.t⟩]) rfl (.tmp 53) (.tmp 60) _ rfl 36 i0 _ 8 Try.underlying22 hi hz0 hz1 hz2 rfl u5 W.heap.size rfl hown1.out (some ⟨V.heap.size, 0, none⟩) 1 1 rfl rfl hsrc.out qa1 qa2 qa3 ?_
              intro v9 w9 hown9 hg9 hf9
              have hlt9 := hown1.out
              have hb9 : Bl W w9 := (hbWV.alloc _).app hown1.out (Nat.le_refl _) hg9
              clear hown hown1 hsrc qa1 qa2 qa3 hg9 hf9 hlt9
              go_wp2
              go_roundw
              case rel => exact ⟨hb9, k + 1, by omega, by go_num, by rw [hst.out, if_neg (show ¬ y.f < x.f by omega), if_pos p2, List.nil_append]; exact hown9⟩
              case measure => simp [intOf]; omega
            · go_wp2
              go_roundw
              case rel => exact ⟨hbWV, k + 1, by omega, by go_num, by rw [hst.out, if_neg (show ¬ y.f < x.f by omega), if_neg (show ¬ x.t < y.t by omega), List.append_nil, List.append_nil]; exact hown⟩
              case measure => simp [intOf]; omega
    · have hkl : k = l.length := by omega
      subst hkl
      rw [List.take_length] at hown
      obtain ⟨A9, c9, rfl, hr9, h91, h92⟩ := hown.reads
      have hki : ¬ ((l.length : Int) < (l.length : Int)) := by omega
      go_wp2
      go_ret
      exact ⟨A9, c9, rfl, h91, h92, hr9.more (by omega), hbW.trans hbl⟩

end Go.Proofs.Ytiimpmdnkjhcoaa
