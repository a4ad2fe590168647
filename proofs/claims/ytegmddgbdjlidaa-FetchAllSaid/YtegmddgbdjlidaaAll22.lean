/-
  The walk of the law FetchAll .
-/
import Derived.Test.YtegmddgbdjlidaaOff
namespace Go.Proofs.Ytegmddgbdjlidaa
open Go.RowKit

set_option maxRecDepth 100000 in
set_option maxHeartbeats 2000000 in
theorem fetchAll (x : Entry) (m : List Times) (L : List Int) (A B C D : Option Addr) (c d k l : Nat) (w : World) (hx : x.ok) (hH : Held w x A c B d) (hQ : QEntry x)
    (ha : m.length ≤ 140737488355328) (has : ∀ y ∈ m, y.s.length ≤ 140737488355328) (hL : L.length ≤ 140737488355328) (hC : R cTimes 0 w C m) (hD : R cInt 0 w D L) :
    Calls Try.prog 6 #[.agg #[.int .u32 x.id.t, .int .u8 x.id.r, .bool x.ready, .bool x.pin, .int .i64 x.used, .bool x.known, .slice A x.snap.length c, .slice B x.got.length d], .slice C m.length k, .slice D L.length l] w fun e w' => e = .returned (.bool true) ∧ Bl w w' := by
  obtain ⟨hQ1, hQ2, hQ3⟩ := hQ
  replace has := hide has
  clear hQ2
  go_enter Try.func6, Try.ntmps6
  go_wp2_with fail
  have at0 : ∀ V, Bl (w.alloc (.cells #[Value.int IntKind.u32 x.id.t, Value.int IntKind.u8 x.id.r, Value.bool x.ready, Value.bool x.pin, Value.int IntKind.i64 x.used, Value.bool x.known, Value.slice A x.snap.length c, Value.slice B x.got.length d] 31)) V → EntAt V w.heap.size x A c B d := fun V hb => (EntAt.new w x A c B d _).bl hb
  have hbl0 : Bl w (w.alloc (.cells #[Value.int IntKind.u32 x.id.t, Value.int IntKind.u8 x.id.r, Value.bool x.ready, Value.bool x.pin, Value.int IntKind.i64 x.used, Value.bool x.known, Value.slice A x.snap.length c, Value.slice B x.got.length d] 31)) := (Bl.refl _).alloc _
  replace at0 := hide at0
  generalize w.alloc (.cells #[Value.int IntKind.u32 x.id.t, Value.int IntKind.u8 x.id.r, Value.bool x.ready, Value.bool x.pin, Value.int IntKind.i64 x.used, Value.bool x.known, Value.slice A x.snap.length c, Value.slice B x.got.length d] 31) = V0 at *
  refine (aliveC _).mono ?_
  rintro e w1 ⟨rfl, hb1⟩
  go_wp2_with fail
  have hw1 := hbl0.trans hb1
  refine (refGreat08 C k m _ ha has.out (hC.bl hw1)).mono ?_
  rintro e w2 ⟨b1, rfl, -, hb2⟩
  have hb02 := hb1.trans hb2
  have hw2 := hw1.trans hb2
  obtain ⟨y0, y1, y2, y3, y4, y5, y6, y7⟩ := (at0.out _ hb02).cells
  cases b1
  rotate_left
  · go_wp2_with fail
    go_ret
    exact ⟨rfl, hw2⟩
  by_cases hg : 300 < x.got.length
  · go_wp2_with fail
    go_ret
    exact ⟨rfl, hw2⟩
  by_cases hl : 100 < L.length
  · go_wp2_with fail
    go_ret
    exact ⟨rfl, hw2⟩
  cases hk : x.known
  rotate_left
  · rw [hk] at y5
    go_wp2_with fail
    go_ret
    exact ⟨rfl, hw2⟩
  go_wp2_with fail
  clear y0 y1 y2 y3 y4 y5 y6 y7
  have hmx : ∀ n : Nat, n ≤ 140737488355328 → n ≤ maxLen := fun n h => by unfold maxLen; omega
  have hbg := beginH x m hx (hmx _ ha) (hH.bl hw2) (hC.bl hw2) (k := k)
  rw [hk] at hbg
  refine hbg.mono ?_
  rintro e w3 ⟨A3, c3, B3, d3, rfl, hx3, hb3⟩
  clear hbg
  have hw3 := hw2.trans hb3
  go_wp2_with fail
  have hch := snapChunks C k m (w3.alloc (.cells #[Value.int IntKind.u32 (beginE x m).id.t, Value.int IntKind.u8 (beginE x m).id.r, Value.bool (beginE x m).ready, Value.bool (beginE x m).pin, Value.int IntKind.i64 (beginE x m).used, Value.bool (beginE x m).known, Value.slice A3 (beginE x m).snap.length c3, Value.slice B3 (beginE x m).got.length d3] 31)) (hmx _ ha) (hC.bl (hw3.alloc _))
  refine hch.mono ?_
  rintro e w4 ⟨rfl, hb4⟩
  clear hch
  have hw4 := (hw3.alloc (.cells #[Value.int IntKind.u32 (beginE x m).id.t, Value.int IntKind.u8 (beginE x m).id.r, Value.bool (beginE x m).ready, Value.bool (beginE x m).pin, Value.int IntKind.i64 (beginE x m).used, Value.bool (beginE x m).known, Value.slice A3 (beginE x m).snap.length c3, Value.slice B3 (beginE x m).got.length d3] 31)).trans hb4
  have hat4 := (EntAt.new w3 (beginE x m) A3 c3 B3 d3 31).bl hb4
  have hx4 : Held w4 (beginE x m) A3 c3 B3 d3 := hx3.bl (((Bl.refl _).alloc _).trans hb4)
  have h0x := at0.out _ ((hb02.trans hb3).trans (((Bl.refl _).alloc _).trans hb4))
  have hb34 : Bl w3 w4 := ((Bl.refl _).alloc _).trans hb4
  have at0y : w.heap.size < w3.heap.size := (at0.out _ (hb02.trans hb3)).lt
  clear hb4 at0
  by_cases hn : beginN x m = 0
  rotate_left
  · have hn' : (beginN x m != 0) = true := by simp [hn]
    go_wp2_with fail
    go_ret
    exact ⟨rfl, hw4⟩
  obtain ⟨-, he, -⟩ := begin_zero hn
  have hst := along_start hn hk hx
  rw [hn, he]
  by_cases h40 : 40 < chunksOf m
  · go_wp2_with fail
    go_ret
    exact ⟨rfl, hw4⟩
  obtain ⟨N, hN⟩ : ∃ N : Nat, chunksOf m = (N : Int) := ⟨(chunksOf m).toNat, by have := (chunksOf_many he).2; omega⟩
  have hN40 : N ≤ 40 := by omega
  have hcutOK : ∀ q : Nat, q < N → cutErr m (q : Int) = 0 := fun q hq => by unfold cutErr; rw [if_pos he, if_neg (by omega)]
  have hcutBad : ∀ kk : Int, kk < 0 ∨ (N : Int) ≤ kk → cutErr m kk = 2 := fun kk hq => by unfold cutErr; rw [if_pos he, if_pos (by omega)]
  have hmk : ∀ V, (Instr.makeSlice 29 (.int .i64 (N : Int)) (.int .i64 (N : Int))).run Try.prog V = .ok (.slice (some ⟨V.heap.size, 0, none⟩) N N) (V.alloc (.cells (madeCells (Value.bool false).cells N) 4)) := by
    intro V
    obtain ⟨i0, hi, hz0, hz1, hz2⟩ := info_parts Try.infoBool
    have := run_make (P := Try.prog) V 29 4 i0 _ Try.underlying29 hi hz0 .i64 .i64 (N : Int) (N : Int) (by omega) (Int.le_refl _) (by rw [hz2]; omega) (by omega)
    rw [hz1, Int.toNat_natCast, Nat.mul_one] at this
    exact this
  generalize beginE x m = y0 at *
  rw [hN, Int.toNat_natCast] at hst
  rw [hN] at h40 ⊢
  replace hcutOK := hide hcutOK
  replace hcutBad := hide hcutBad
  replace hN := hide hN
  replace hst := hide hst
  replace h0x := hide h0x
  replace hat4 := hide hat4
  clear he hn hmx has
  go_upto_region 9 with fail
  have hG4 := R.made N w4.heap.size w4 4 (Nat.le_refl _)
  have hV4 : Bl w4 (w4.alloc (.cells (madeCells (Value.bool false).cells N) 4)) := (Bl.refl _).alloc _
  have hzG : (w4.alloc (.cells (madeCells (Value.bool false).cells N) 4)).heap.size = w4.heap.size + 1 := World.size_alloc _ _
  have hz34 := hat4.out.lt
  have hw03 := hw3.size
  have hz0x := at0y
  replace hst := hst.out
  replace hat4 := hat4.out.bl hV4
  replace hx4 : HeldO w3.heap.size w4.heap.size (w4.alloc (.cells (madeCells (Value.bool false).cells N) 4)) y0 A3 c3 B3 d3 := HeldO.old hx3 (hb34.trans hV4) (Nat.le_refl _) (by omega)
  replace h0x := h0x.out.bl hV4
  replace hw4 := hw4.trans hV4
  go_wp2_with fail
  go_loopw [13] (fun i wr => Bl w wr ∧ w4.heap.size < wr.heap.size ∧ ∃ (j : Nat) (got : List Bool) (y : Entry) (A5 : Option Addr) (c5 : Nat) (B5 : Option Addr) (d5 : Nat), i = .int .i64 j ∧ j ≤ L.length + N ∧ Along x m got y ∧ EntAt wr w3.heap.size y A5 c5 B5 d5 ∧ HeldO w3.heap.size w4.heap.size wr y A5 c5 B5 d5 ∧ R cBool w4.heap.size wr (some ⟨w4.heap.size, 0, none⟩) got ∧ EntAt wr w.heap.size x A c B d ∧ Hid (∀ t, t + L.length < j → got[t]? = some true)) (fun i _ => L.length + N - (intOf i).toNat)
  case atStart => exact ⟨hw4, by rw [World.size_alloc]; omega, 0, _, y0, A3, c3, B3, d3, rfl, Nat.zero_le _, hst, hat4, hx4, hG4, h0x, fun t ht => absurd ht (by omega)⟩
  case round =>
    obtain ⟨hbl, hGs, j, got, y, A5, c5, B5, d5, rfl, hj, hal, hat, hhe, hgt, h0w, hall⟩ := hrel
    have hgl : got.length = N := by have := hal.2.1; rwa [hN.out, Int.toNat_natCast] at this
    have hyok := hal.2.2.2.1
    have hsB : w.heap.size ≤ wr.heap.size := hbl.size
    by_cases hjn : j < L.length + N
    · -- which chunk comes
      obtain ⟨kk, hk1, hk2, hk3⟩ : ∃ kk : Int, (j < L.length → L[j]? = some kk) ∧ (¬ j < L.length → kk = (j : Int) - (L.length : Int)) ∧ i64ok kk := by
        by_cases hjL : j < L.length
        · obtain ⟨kk, hkk⟩ := get_lt hjL
          obtain ⟨b, off, rfl, _, _⟩ := hD.addr (by omega)
          exact ⟨kk, fun _ => hkk, fun h => absurd hjL h, (hD.int hkk).2.1⟩
        · exact ⟨(j : Int) - (L.length : Int), fun h => absurd h hjL, fun _ => rfl, by constructor <;> omega⟩
      have hall2 : ∀ g : List Bool, (∀ t, t + L.length < j → g[t]? = some true) → (¬ j < L.length → g[kk.toNat]? = some true) → ∀ t, t + L.length < j + 1 → g[t]? = some true := by
        intro g hg hgk t ht
        by_cases ht2 : t + L.length < j
        · exact hg t ht2
        · have hjL : ¬ j < L.length := by omega
          have := hgk hjL
          rw [hk2 hjL] at this
          rwa [show ((j : Int) - (L.length : Int)).toNat = t by omega] at this
      have hkr : ¬ j < L.length → 0 ≤ kk ∧ kk < N := fun h => by have := hk2 h; omega
      -- the three ways
      have hway : ((kk < 0 ∨ (N : Int) ≤ kk) ∧ tookN y kk (cutIds m kk) = 6 ∧ cutErr m kk = 2 ∧ j < L.length) ∨
          (∃ q : Nat, kk = (q : Int) ∧ q < N ∧ got[q]? = some true ∧ tookN y kk (cutIds m kk) = 6 ∧ cutErr m kk = 0) ∨
          (∃ q : Nat, kk = (q : Int) ∧ q < N ∧ got[q]? = some false ∧ tookN y kk (cutIds m kk) = 0 ∧ cutErr m kk = 0 ∧ Along x m (got.set q true) (tookE y kk (cutIds m kk))) := by
        by_cases hb : kk < 0 ∨ (N : Int) ≤ kk
        · refine .inl ⟨hb, along_miss hal (.inl (by rw [hcutBad.out _ hb]; decide)), hcutBad.out _ hb, ?_⟩
          by_cases hjL : j < L.length
          · exact hjL
          · have := hkr hjL
            omega
        · obtain ⟨q, rfl⟩ : ∃ q : Nat, kk = (q : Int) := ⟨kk.toNat, by omega⟩
          have hq : q < N := by omega
          cases hg : got[q]'(by omega)
          · refine .inr (.inr ⟨q, rfl, hq, by rw [List.getElem?_eq_getElem (by omega), hg], ?_, hcutOK.out q hq, ?_⟩)
            · exact (along_hit hx hal (by omega) (by rw [Int.toNat_natCast, List.getElem?_eq_getElem (by omega), hg])).1
            · have := (along_hit hx hal (k := (q : Int)) (by omega) (by rw [Int.toNat_natCast, List.getElem?_eq_getElem (by omega), hg])).2
              rwa [Int.toNat_natCast] at this
          · exact .inr (.inl ⟨q, rfl, hq, by rw [List.getElem?_eq_getElem (by omega), hg], along_miss hal (.inr (by rw [Int.toNat_natCast, List.getElem?_eq_getElem (by omega), hg])), hcutOK.out q hq⟩)
      replace hway := hide hway
      replace hall2 := hide hall2
      have hjm : (j : Int) < (L.length : Int) + (N : Int) := by omega
      obtain ⟨x0, x1, x2, x3, x4, x5, x6, x7⟩ := hat.cells
      have hYs := hat.lt
      have hcutc := snapCut C k m kk wr hk3 (by unfold maxLen; omega) (hC.bl hbl)
      have htk := fun W (hb : Bl wr W) (E : Option Addr) (e : Nat) (hE : R cId 0 W E (cutIds m kk)) => fetchTook y kk (cutIds m kk) A5 B5 E c5 d5 e W hyok hk3 hhe.l1 hhe.l2 hhe.l3 hhe.l4 (by unfold cutIds; split <;> simp [maxLen] <;> omega) (hhe.bl hb).held.hS (hhe.bl hb).held.hG hE
      replace htk := hide htk
      replace hcutc := hide hcutc
      clear hk3 hkr
      have hpre : (∃ b off, D = some ⟨b, off, none⟩ ∧ (j : Int) < (L.length : Int) ∧ wr.cell? ⟨b, off + j, none⟩ = some (.int .i64 kk)) ∨ ((L.length : Int) ≤ (j : Int) ∧ (j : Int) - (L.length : Int) = kk) := by
        by_cases hjL : j < L.length
        · obtain ⟨b, off, rfl, _, hb⟩ := hD.addr (by omega)
          obtain ⟨_, _, hLc⟩ := hD.int (hk1 hjL)
          exact .inl ⟨b, off, rfl, by omega, (hbl.cell hb).trans hLc⟩
        · exact .inr ⟨by omega, (hk2 hjL).symm⟩
      clear hk1 hk2
      rcases hpre with ⟨b, off, rfl, hjL, hLc⟩ | ⟨hjL, hke⟩
      all_goals
        go_wp2_with fail
        try clear hLc
        refine hcutc.out.mono ?_
        rintro e w5 ⟨A6, c6, rfl, q1, q2, hr6, hb5⟩
        have hat5 := hat.bl hb5
        clear x0 x1 x2 x3 x4 x5 x6 x7 hcutc
        obtain ⟨x0, x1, x2, x3, x4, x5, x6, x7⟩ := hat5.cells
        go_wp2_with fail
        refine (htk.out _ hb5 _ _ hr6.zero).mono ?_
        intro e w6 h6
        obtain ⟨A7, c7, B7, d7, rfl, hz6, hb6⟩ := h6.off (Y := w3.heap.size) (G := w4.heap.size) (by have := hb5.size; omega) (by have := hb5.size; omega)
        clear x0 x1 x2 x3 x4 x5 x6 x7 h6 htk
        have hb56 := hb5.trans hb6
        have hG6 := hgt.bl hb56
        rcases hway.out with ⟨hbad, hN6, hc6, hjL'⟩ | ⟨q, rfl, hq, hg, hN6, hc6⟩ | ⟨q, rfl, hq, hg, hN0, hc6, hal2⟩
        · rw [hN6, hc6]
          have g := hide (hall2.out got hall.out fun h => absurd hjL' h)
          go_wp2_with fail
          try (exfalso; omega)
          all_goals
            go_roundw
            case rel => exact ⟨hbl.trans (hb56.alloc _), by have := hb56.size; rw [World.size_alloc]; omega, j + 1, got, y, A5, c5, B5, d5, by go_num, by omega, hal, hat.bl (hb56.alloc _), hhe.bl (hb56.alloc _), hG6.bl ((Bl.refl _).alloc _), h0w.bl (hb56.alloc _), g⟩
            case measure => simp [intOf]; omega
        · rw [hN6, hc6]
          have g := hide (hall2.out got hall.out fun _ => by rw [Int.toNat_natCast]; exact hg)
          obtain ⟨_, hgc, _⟩ := hG6.bool hg
          rw [Nat.zero_add] at hgc
          go_wp2_with fail
          go_roundw
          case rel => exact ⟨hbl.trans (hb56.alloc _), by have := hb56.size; rw [World.size_alloc]; omega, j + 1, got, y, A5, c5, B5, d5, by go_num, by omega, hal, hat.bl (hb56.alloc _), hhe.bl (hb56.alloc _), hG6.bl ((Bl.refl _).alloc _), h0w.bl (hb56.alloc _), g⟩
          case measure => simp [intOf]; omega
        · rw [hN0, hc6]
          have hgs : ∀ t : Nat, got[t]? = some true → (got.set q true)[t]? = some true := by
            intro t ht
            by_cases htq : q = t
            · subst htq
              rw [List.getElem?_set_self (by omega)]
            · rw [List.getElem?_set_ne htq, ht]
          have g := hide (hall2.out (got.set q true) (fun t ht => hgs t (hall.out t ht)) fun _ => by rw [Int.toNat_natCast, List.getElem?_set_self (by omega)])
          clear hgs
          obtain ⟨_, hgc, hgf⟩ := hG6.bool hg
          rw [Nat.zero_add] at hgc hgf
          generalize tookE y (q : Int) (cutIds m (q : Int)) = z at *
          go_upto_region 20 with fail
          have hVz : Bl w6 (w6.alloc (.cells #[Value.int IntKind.u32 z.id.t, Value.int IntKind.u8 z.id.r, Value.bool z.ready, Value.bool z.pin, Value.int IntKind.i64 z.used, Value.bool z.known, Value.slice A7 z.snap.length c7, Value.slice B7 z.got.length d7] 31)) := (Bl.refl _).alloc _
          have hatz := EntAt.new w6 z A7 c7 B7 d7 31
          have hb5z := hb56.trans hVz
          have hz7 := hz6.bl hVz
          have hG7 := hgt.bl hb5z
          have hat7 := hat.bl hb5z
          have h07 := h0w.bl hb5z
          have hbl7 := hbl.trans hb5z
          have hs6 : w4.heap.size < w6.heap.size := by have := hb56.size; omega
          clear hgc hgf hVz hb5 hb6 hb56 hz6 hG6 hat5 hat h0w
          generalize w6.alloc (.cells #[Value.int IntKind.u32 z.id.t, Value.int IntKind.u8 z.id.r, Value.bool z.ready, Value.bool z.pin, Value.int IntKind.i64 z.used, Value.bool z.known, Value.slice A7 z.snap.length c7, Value.slice B7 z.got.length d7] 31) = V7 at *
          obtain ⟨_, hgc, hgf⟩ := hG7.bool hg
          rw [Nat.zero_add] at hgc hgf
          obtain ⟨z0, z1, z2, z3, z4, z5, z6, z7⟩ := hatz.cells
          obtain ⟨x0, x1, x2, x3, x4, x5, x6, x7⟩ := hat7.cells
          obtain ⟨f0, f1, f2, f3, f4, f5, f6, f7⟩ := hat7.frozens
          have ne1 : w4.heap.size ≠ w3.heap.size := by omega
          have ne2 : w6.heap.size ≠ w4.heap.size := by omega
          have ne3 : w6.heap.size ≠ w3.heap.size := by omega
          have hlg := hide (show (got.set q true).length = N by rw [List.length_set]; exact hgl)
          have hG8 := hG7.putBool (k := q) (v := true) (by omega)
          rw [Nat.zero_add] at hG8
          have hz8 := (hz7.set (b := w4.heap.size) (o := q) (u := .bool true) (.inr rfl)).set8 (y := z) (A' := A7) (B' := B7) (c' := c7) (d' := d7)
          have hat8 := set8_at (hat7.setO (E := w4.heap.size) (o := q) (v := .bool true) (by omega)) z A7 c7 B7 d7
          have h08 := (h07.setO (E := w4.heap.size) (o := q) (v := .bool true) (by omega)).set8 (Y := w3.heap.size) (y := z) (A' := A7) (B' := B7) (c' := c7) (d' := d7) (by omega)
          replace hG8 := set8_R hG8 (Y := w3.heap.size) (by omega) z A7 c7 B7 d7
          have hbl8 := set8_bl (hbl7.setCell (p := ⟨w4.heap.size, q, none⟩) (by show w.heap.size ≤ w4.heap.size; omega) (.bool true)) (Y := w3.heap.size) (by omega) z A7 c7 B7 d7
          go_upto_region 24 with fail
          obtain ⟨V8, hV8⟩ : ∃ V8, V8 = set8 (V7.setCell ⟨w4.heap.size, q, none⟩ (.bool true)) w3.heap.size z A7 c7 B7 d7 := ⟨_, rfl⟩
          rw [← hV8] at hG8 hz8 hat8 h08 hbl8
          unfold set8 at hV8
          rw [← hV8]
          clear hV8 hgc hgf z0 z1 z2 z3 z4 z5 z6 z7 x0 x1 x2 x3 x4 x5 x6 x7 f0 f1 f2 f3 f4 f5 f6 f7 hatz hat7 h07 hz7 hG7 hbl7 hb5z hg
          generalize got.set q true = got2 at *
          have hsV8 : w4.heap.size < V8.heap.size := by
            obtain ⟨b', off', heq, _, h2⟩ := hG8.addr (by rw [hlg.out]; omega)
            injection heq with heq
            injection heq with heq _
            omega
          go_loop [19, 20] (fun t i => ∃ u : Nat, u ≤ N ∧ i = .int .i64 u ∧ t = .int .i64 (missing (got2.take u))) (fun _ i => N - (intOf i).toNat)
          case atStart => exact ⟨0, Nat.zero_le _, rfl, rfl⟩
          case round =>
            obtain ⟨u, hu, rfl, rfl⟩ := hrel
            by_cases huN : u < N
            · obtain ⟨bb, hbb⟩ := get_lt (show u < got2.length by rw [hlg.out]; exact huN)
              obtain ⟨_, hgc, _⟩ := hG8.bool hbb
              rw [Nat.zero_add] at hgc
              have hmt := hide (missing_take hbb)
              have hml : (missing (got2.take u) : Int) ≤ 40 := by
                have := missing_le (got2.take u)
                rw [List.length_take] at this
                omega
              clear hbb
              cases bb
              · go_wp2_with fail
                go_round
                case rel => exact ⟨u + 1, by omega, by go_num, by rw [hmt.out]; rfl⟩
                case measure => simp [intOf]; omega
              · go_wp2_with fail
                go_round
                case rel => exact ⟨u + 1, by omega, by go_num, by rw [hmt.out]; rfl⟩
                case measure => simp [intOf]; omega
            · have hmu : missing (got2.take u) = missing got2 := by rw [List.take_of_length_le (by rw [hlg.out]; omega)]
              rw [hmu]
              clear hmu
              have hM40 : missing got2 ≤ 40 := by have := missing_le got2; have := hlg.out; omega
              obtain ⟨hl1, hl2⟩ := along_left hal2
              have hmay := hal2.2.2.1
              have hzok := hal2.2.2.2.1
              have hL9 := fetchLeft z A7 B7 c7 d7 V8 hzok hz8.l1 hz8.l2 hz8.l3 hz8.l4 hz8.held.hS hz8.held.hG
              rw [hmay, okOr_true] at hL9
              generalize leftOf z = lz at *
              generalize missing got2 = M at *
              obtain ⟨zi, zr, zp, zu, zk, zs, zg⟩ := z
              replace hl2 : zr = decide (M = 0) := hl2
              have hfin : ∀ w9 (hb9 : Bl V8 w9) (b : Bool), zr = b → Calls Try.prog 18 #[.slice (some ⟨w9.heap.size, 0, none⟩) 1 1] (w9.alloc (.cells #[Value.int IntKind.u32 zi.t, Value.int IntKind.u8 zi.r, Value.bool b, Value.bool zp, Value.int IntKind.i64 zu, Value.bool zk, Value.slice A7 zs.length c7, Value.slice B7 zg.length d7] 31)) fun e w' => e = .returned (.int .i64 0) ∧ Bl w9 w' := by
                intro w9 hb9 b hb
                subst hb
                have hx9 := (hz8.bl hb9).held
                have hchk := shelfCheck (some ⟨w9.heap.size, 0, none⟩) 1 [⟨zi, zr, zp, zu, zk, zs, zg⟩] (w9.alloc (.cells #[Value.int IntKind.u32 zi.t, Value.int IntKind.u8 zi.r, Value.bool zr, Value.bool zp, Value.int IntKind.i64 zu, Value.bool zk, Value.slice A7 zs.length c7, Value.slice B7 zg.length d7] 31)) (by simp [maxLen]) (R.single (C := cEntry) (lo := 0) (w := w9) (x := ⟨zi, zr, zp, zu, zk, zs, zg⟩) (cs := entryCells ⟨zi, zr, zp, zu, zk, zs, zg⟩ A7 c7 B7 d7) (t := 31) ⟨hzok, A7, c7, B7, d7, hx9.l1, hx9.l2, hx9.l3, hx9.l4, rfl, hx9.hS, hx9.hG⟩ (Nat.zero_le _))
                rw [shelfMay_one, hmay, okOr_true] at hchk
                exact hchk.mono fun _ _ ⟨he, hb⟩ => ⟨he, ((Bl.refl _).alloc _).trans hb⟩
              replace hfin := hide hfin
              have hrr := hide hl2
              have hal3 := hide hal2
              have hz9 := hide hz8
              clear hl2 hal2 hmay hz8
              obtain ⟨y0, y1, y2, y3, y4, y5, y6, y7⟩ := hat8.cells
              by_cases hM : M = 0
              · have hzr : zr = true := by rw [hrr.out]; exact decide_eq_true hM
                subst hM
                subst hzr
                have hl1' := hide hl1
                clear hl1
                go_wp2_with fail
                refine hL9.mono ?_
                rintro e w9 ⟨A9, c9, rfl, q1', q2', hr9, hb9⟩
                rw [hl1'.out]
                clear y0 y1 y2 y3 y4 y5 y6 y7 hL9
                obtain ⟨y0, y1, y2, y3, y4, y5, y6, y7⟩ := (hat8.bl hb9).cells
                go_wp2_with fail
                refine (hfin.out w9 hb9 true rfl).mono ?_
                rintro e w10 ⟨rfl, hb10⟩
                have hb8 := hb9.trans hb10
                go_wp2_with fail
                go_roundw
                case rel => exact ⟨hbl8.trans hb8, by have := hb8.size; omega, j + 1, got2, _, A7, c7, B7, d7, by go_num, by omega, hal3.out, hat8.bl hb8, hz9.out.bl hb8, hG8.bl hb8, h08.bl hb8, g⟩
                case measure => simp [intOf]; omega
              · have hzr : zr = false := by rw [hrr.out]; exact decide_eq_false hM
                subst hzr
                have hM1 : ((M : Int) == 0) = false := beq_eq_false_iff_ne.2 (by omega)
                have hl1' := hide hl1
                clear hl1 hM
                go_wp2_with fail
                refine hL9.mono ?_
                rintro e w9 ⟨A9, c9, rfl, q1', q2', hr9, hb9⟩
                rw [hl1'.out]
                clear y0 y1 y2 y3 y4 y5 y6 y7 hL9
                obtain ⟨y0, y1, y2, y3, y4, y5, y6, y7⟩ := (hat8.bl hb9).cells
                go_wp2_with fail
                refine (hfin.out w9 hb9 false rfl).mono ?_
                rintro e w10 ⟨rfl, hb10⟩
                have hb8 := hb9.trans hb10
                go_wp2_with fail
                go_roundw
                case rel => exact ⟨hbl8.trans hb8, by have := hb8.size; omega, j + 1, got2, _, A7, c7, B7, d7, by go_num, by omega, hal3.out, hat8.bl hb8, hz9.out.bl hb8, hG8.bl hb8, h08.bl hb8, g⟩
                case measure => simp [intOf]; omega
    · have hsn : someNot got = false := someNot_none fun t ht => hall.out t (by omega)
      have hy : y = ⟨x.id, true, x.pin, x.used, false, [], []⟩ := by
        obtain ⟨_, _, _, _, ⟨h, _⟩ | ⟨_, h⟩⟩ := hal
        · rw [hsn] at h; cases h
        · exact h
      subst hy
      have hjn' : (L.length : Int) + (N : Int) ≤ (j : Int) := by omega
      have hqid := run_eqId
      have hqb := run_eqBool
      have e1 : (!neqId x.id x.id) = true := by rw [neqId_self]; rfl
      have e2 : (x.pin == x.pin) = true := by simp
      have e3 : (x.used == x.used) = true := by simp
      obtain ⟨x0, x1, x2, x3, x4, x5, x6, x7⟩ := h0w.cells
      obtain ⟨y0, y1, y2, y3, y4, y5, y6, y7⟩ := hat.cells
      clear hjn hsn hgl
      go_wp2_with fail
      go_ret
      exact ⟨rfl, hbl⟩
end Go.Proofs.Ytegmddgbdjlidaa
