/-
  The walks of home.All, where, Ahead, Span, Of; of slices.Index at stamps.
-/
import Derived.Test.YteoodmilcpmmpaaGreatLive
import Derived.Test.YteoodmilcpmmpaaGreatHomeOf
import Derived.Test.YteoodmilcpmmpaaGreatRef13
namespace Go.Proofs.YteoodmilcpmmpaaGreat

open Go.RowKit

set_option maxRecDepth 100000 in
set_option maxHeartbeats 2000000 in
theorem idIndexP (A : Option Addr) (c : Nat) (l : List Id) (s : Id) (w : World) (hl : l.length ≤ 1048577) (hA : R cId 0 w A l) :
    Calls Tryz.prog 121 #[.slice A l.length c, .agg #[.int .u32 s.t, .int .u8 s.r]] w fun e w' => e = .returned (.int .i64 (idxOf l s)) ∧ Bl w w' := by
  obtain ⟨W, hW⟩ : ∃ W, W = w.alloc (.cells #[Value.int IntKind.u32 s.t, Value.int IntKind.u8 s.r] 25) := ⟨_, rfl⟩
  have hbW : Bl w W := by rw [hW]; exact (Bl.refl _).alloc _
  have at0 : IdBox W w.heap.size s := by rw [hW]; exact IdBox.new w s _
  obtain ⟨N, hN⟩ : ∃ N, N = idxOf l s := ⟨_, rfl⟩
  rw [← hN]
  have hyes := hide (show ∀ k : Nat, l[k]? = some s → (∀ y ∈ l.take k, y ≠ s) → (k : Int) = N from fun k h1 h2 => by rw [hN, idx_hit h1 h2])
  have hno := hide (show (∀ y ∈ l, y ≠ s) → -1 = N from fun h => by rw [hN, idx_miss h])
  clear hN
  go_enter Tryz.func121, Tryz.ntmps121
  go_wp2_with fail
  rw [← hW]
  clear hW
  go_loopw [8] (fun i wr => Bl W wr ∧ ∃ k : Nat, k ≤ l.length ∧ i = .int .i64 k ∧ Hid (∀ y ∈ l.take k, y ≠ s)) (fun i _ => l.length - (intOf i).toNat)
  case atStart => exact ⟨Bl.refl _, 0, Nat.zero_le _, rfl, fun y hy => by simp at hy⟩
  case round =>
    obtain ⟨hbl, k, hk, rfl, hf⟩ := hrel
    by_cases hlt : k < l.length
    · have hR := hA.bl (hbW.trans hbl)
      obtain ⟨b, off, rfl, _, hb⟩ := hR.addr (by omega)
      obtain ⟨x, hx⟩ := get_lt hlt
      obtain ⟨_, ho, c0, c1⟩ := hR.id hx
      have hki : (k : Int) < (l.length : Int) := by omega
      have hsl := (at0.bl hbl).lt
      have C0 := fun p : Wd wr => Wd.cell c0 hb p
      have C1 := fun p : Wd wr => Wd.cell c1 hb p
      have S0 := fun p : Wd wr => Wd.cell (at0.bl hbl).c0 hsl p
      have S1 := fun p : Wd wr => Wd.cell (at0.bl hbl).c1 hsl p
      have heq := run_eqId s x
      cases hq : neqId s x
      · rw [hq] at heq
        have e := neqId_false hq
        have g := hide (hyes.out k (by rw [e]; exact hx) hf.out)
        clear hx hf e hq c0 c1
        go_wp2_with fail
        (refine wp_region_wd (by kernel_rfl) (by kernel_rfl) ?_
         repeat (go_big_quiet_step ((fail)))
         refine wpQuiet_nil ?_
         intro w2 hw'
         obtain ⟨⟨wx, hb2⟩, hw''⟩ := hw'
         subst hw'')
        go_wp2_with fail
        go_ret
        exact ⟨ret_int g.out, hbW.trans (hbl.trans hb2)⟩
      · rw [hq] at heq
        have e := neqId_true hq
        have g := hide (show ∀ y ∈ l.take (k + 1), y ≠ s from fun y hy => by
          rw [take_snoc hx, List.mem_append] at hy
          rcases hy with hy | hy
          · exact hf.out y hy
          · rw [List.mem_singleton] at hy; subst hy; exact fun h => e h.symm)
        clear hx hf e hq c0 c1
        go_wp2_with fail
        (refine wp_region_wd (by kernel_rfl) (by kernel_rfl) ?_
         repeat (go_big_quiet_step ((fail)))
         refine wpQuiet_nil ?_
         intro w2 hw'
         obtain ⟨⟨wx, hb2⟩, hw''⟩ := hw'
         subst hw'')
        go_wp2_with fail
        go_roundw
        case rel => exact ⟨hbl.trans hb2, k + 1, by omega, by go_num, g.out⟩
        case measure => simp [intOf]; omega
    · have hkl : k = l.length := by omega
      have g := hide (hno.out fun y hy => hf.out y (by rw [hkl, List.take_length]; exact hy))
      have hki : ¬ (k : Int) < (l.length : Int) := by omega
      clear hf
      replace hkl := hide hkl
      go_wp2_with fail
      go_ret
      exact ⟨ret_int g.out, hbW.trans hbl⟩

theorem live_small (l : List Op) : (liveL l).length ≤ 1024 := by
  unfold liveL
  cases h : bagMay l
  · exact Nat.zero_le _
  · exact Nat.le_trans (lives_len l) (bagMay_parts h).1

theorem flatId_any {w w' : World} {S S' : Nat → Prop} : ∀ {xs : List Id} {cells : List Value}, RdL cId w S xs cells → RdL cId w' S' xs cells
  | [], _, h => h
  | _ :: _, _, ⟨a, b, e, h1, h2⟩ => ⟨a, b, e, h1, flatId_any h2⟩

theorem liveL_true {l : List Op} (h : bagMay l = true) : liveL l = livesF l := by unfold liveL; rw [h]; rfl

theorem liveL_false {l : List Op} (h : bagMay l = false) : liveL l = [] := by unfold liveL; rw [h]; rfl

set_option maxRecDepth 100000 in
set_option maxHeartbeats 2000000 in
theorem homeAll (A : Option Addr) (c : Nat) (l : List Op) (w : World) (hl : l.length ≤ maxLen) (hA : R cOp 0 w A l) :
    Calls Tryz.prog 70 #[.slice A l.length c] w (New2 cId (allL l) (okOr 8 (bagMay l)) w) := by
  have hlv := marksLive A c l w hl hA
  have hsm := live_small l
  obtain ⟨L, hL⟩ : ∃ L, L = allL l := ⟨_, rfl⟩
  rw [← hL]
  unfold allL at hL
  cases h : bagMay l
  · rw [h] at hlv hL
    rw [liveL_false h] at hlv
    have e1 : L = [] := hL
    subst e1
    replace hlv := hide hlv
    clear hL h hsm
    go_enter Tryz.func70, Tryz.ntmps70
    go_wp2_with fail
    refine hlv.out.mono ?_
    rintro e w1 ⟨X, x, rfl, x1, x2, hX, hb1⟩
    go_wp2_with fail
    go_ret2
    exact ⟨none, 0, rfl, Nat.le_refl _, Nat.zero_le _, R.nil, hb1⟩
  rw [h] at hlv hL
  rw [liveL_true h] at hlv hsm
  generalize livesF l = M at *
  replace hL := hide (show L = sectF M from hL)
  clear h
  obtain ⟨i0, hi, hz0, hz1, hz2⟩ := info_parts Tryz.infoId
  obtain ⟨n, hn⟩ : ∃ n, n = M.length := ⟨_, rfl⟩
  unfold New2 at hlv
  rw [← hn] at hlv hsm
  replace hlv := hide hlv
  have hmk : ∀ V, (Instr.makeSlice 110 (.int .i64 (1 + (n : Int))) (.int .i64 (1 + (n : Int)))).run Tryz.prog V = .ok (.slice (some ⟨V.heap.size, 0, none⟩) (n + 1) (n + 1)) (V.alloc (.cells (madeCells #[Value.int IntKind.u32 0, Value.int IntKind.u8 0] ((n + 1) * 2)) 25)) := by
    intro V
    have := run_make (P := Tryz.prog) V 110 25 i0 _ Tryz.underlying110 hi hz0 .i64 .i64 (1 + (n : Int)) (1 + (n : Int)) (by omega) (Int.le_refl _) (by rw [hz2]; omega) (by omega)
    rw [hz1, show (1 + (n : Int)).toNat = n + 1 by omega] at this
    exact this
  have hrows : ∀ V : World, RowAt (V.alloc (.cells (madeCells #[Value.int IntKind.u32 0, Value.int IntKind.u8 0] ((n + 1) * 2)) 25)) V.heap.size 25 ([Value.int IntKind.u32 0, Value.int IntKind.u8 0] ++ (madeCells #[Value.int IntKind.u32 0, Value.int IntKind.u8 0] (n * 2)).toList) := fun V => by
    have h1 := RowAt.new V (madeCells #[Value.int IntKind.u32 0, Value.int IntKind.u8 0] ((n + 1) * 2)) 25
    have e : (madeCells #[Value.int IntKind.u32 0, Value.int IntKind.u8 0] ((n + 1) * 2)).toList = [Value.int IntKind.u32 0, Value.int IntKind.u8 0] ++ (madeCells #[Value.int IntKind.u32 0, Value.int IntKind.u8 0] (n * 2)).toList := by
      apply List.ext_getElem
      · simp [madeCells]; omega
      · intro j h1 h2
        match j with
        | 0 => simp [madeCells]
        | 1 => simp [madeCells]
        | j + 2 => simp [madeCells]
    rw [e] at h1
    exact h1
  have hmadel : (madeCells #[Value.int IntKind.u32 0, Value.int IntKind.u8 0] (n * 2)).toList.length = n * 2 := by simp [madeCells]
  replace hn := hide hn
  go_enter Tryz.func70, Tryz.ntmps70
  go_wp2_with fail
  refine hlv.out.mono ?_
  rintro e w1 ⟨X, x, rfl, x1, x2, hX, hb1⟩
  obtain ⟨V1, hV1⟩ : ∃ V1, V1 = w1.alloc (.cells (madeCells #[Value.int IntKind.u32 0, Value.int IntKind.u8 0] ((n + 1) * 2)) 25) := ⟨_, rfl⟩
  have hrow1 := hide (hrows w1)
  rw [← hV1] at hrow1
  have hbV : Bl w1 V1 := by rw [hV1]; exact (Bl.refl _).alloc _
  go_wp2_with fail
  rw [← hV1]
  clear hV1 hmk hrows
  generalize (madeCells #[Value.int IntKind.u32 0, Value.int IntKind.u8 0] (n * 2)).toList = cz at *
  go_loopw [22] (fun i wr => Bl w1 wr ∧ ∃ (k : Nat) (ca cb : List Value), k ≤ n ∧ i = .int .i64 (k : Int) ∧ RowAt wr w1.heap.size 25 (ca ++ cb) ∧ RdL cId wr (Fresh w1.heap.size wr) (sectF (M.take k)) ca ∧ ca.length = (k + 1) * 2 ∧ cb.length = (n - k) * 2) (fun i _ => n - (intOf i).toNat)
  case atStart => exact ⟨hbV, 0, _, cz, Nat.zero_le _, rfl, hrow1.out, RdL.one1 (C := cId) (x := ⟨0, 0⟩) ⟨by unfold Id.ok; decide, rfl⟩, rfl, hmadel⟩
  case round =>
    obtain ⟨hbl, k, ca, cb, hk, rfl, hrow, hra, hca, hcb⟩ := hrel
    have hb01 := hb1.trans hbl
    by_cases hlt : k < n
    · have hR := hX.bl hbl
      obtain ⟨b, off, rfl, hbw, hb⟩ := hR.addr (by rw [← hn.out]; omega)
      obtain ⟨y, hy⟩ := get_lt (show k < M.length by rw [← hn.out]; exact hlt)
      obtain ⟨_, ho, S, sc, s1, s2, hS, c0, c1, c2, c3, c4⟩ := hR.op hy
      have hst := hide (sect_take hy)
      clear hy
      obtain ⟨u0, u1, cb2, rfl⟩ : ∃ u0 u1 cb2, cb = u0 :: u1 :: cb2 := by
        match cb, hcb with
        | [], h => simp at h; omega
        | [_], h => simp at h; omega
        | u0 :: u1 :: cb2, _ => exact ⟨u0, u1, cb2, rfl⟩
      have hki : (k : Int) < (n : Int) := by omega
      obtain ⟨j, hj⟩ : ∃ j, j = k + 1 := ⟨_, rfl⟩
      have hkj : (1 : Int) + (k : Int) = (j : Int) := by omega
      have hji : (j : Int) < ((n + 1 : Nat) : Int) := by omega
      have hjn : j < n + 1 := by omega
      have hpa : At wr w1.heap.size (j * 2) [u0, u1] := by
        rw [hj, ← hca]
        exact RowAt.part (m := [u0, u1]) (q := cb2) (by simpa using hrow)
      have hp0 := (hpa 0 _ rfl).1
      have hp1 := (hpa 1 _ rfl).1
      have hf0 := (hpa 0 _ rfl).2
      have hf1 := (hpa 1 _ rfl).2
      simp only [Nat.add_zero] at hp0 hf0
      have hgl := hrow.lt
      have hrow2 : RowAt (wr.setCells w1.heap.size (j * 2) [Value.int IntKind.u32 y.id.t, Value.int IntKind.u8 y.id.r]) w1.heap.size 25 ((ca ++ [Value.int IntKind.u32 y.id.t, Value.int IntKind.u8 y.id.r]) ++ cb2) := by
        have h1 := RowAt.sets (q := cb2) [Value.int IntKind.u32 y.id.t, Value.int IntKind.u8 y.id.r] [u0, u1] ca wr rfl (by simpa using hrow)
        rw [hca, ← hj] at h1
        rw [List.append_assoc]
        exact h1
      have hbl2 : Bl w1 (wr.setCells w1.heap.size (j * 2) [Value.int IntKind.u32 y.id.t, Value.int IntKind.u8 y.id.r]) := below_setCells (Nat.le_refl _) _ _ hbl
      have hra2 : RdL cId (wr.setCells w1.heap.size (j * 2) [Value.int IntKind.u32 y.id.t, Value.int IntKind.u8 y.id.r]) (Fresh w1.heap.size (wr.setCells w1.heap.size (j * 2) [Value.int IntKind.u32 y.id.t, Value.int IntKind.u8 y.id.r])) (sectF (M.take (k + 1))) (ca ++ [Value.int IntKind.u32 y.id.t, Value.int IntKind.u8 y.id.r]) := by
        rw [hst.out]
        refine RdL.append (flatId_any hra) (RdL.one1 (C := cId) ⟨ho.2.1, rfl⟩)
      have hfin := hide (show Bl w1 (wr.setCells w1.heap.size (j * 2) [Value.int IntKind.u32 y.id.t, Value.int IntKind.u8 y.id.r]) ∧ ∃ (k' : Nat) (ca cb : List Value), k' ≤ n ∧ Value.int .i64 ((k : Int) + 1) = .int .i64 (k' : Int) ∧ RowAt (wr.setCells w1.heap.size (j * 2) [Value.int IntKind.u32 y.id.t, Value.int IntKind.u8 y.id.r]) w1.heap.size 25 (ca ++ cb) ∧ RdL cId (wr.setCells w1.heap.size (j * 2) [Value.int IntKind.u32 y.id.t, Value.int IntKind.u8 y.id.r]) (Fresh w1.heap.size (wr.setCells w1.heap.size (j * 2) [Value.int IntKind.u32 y.id.t, Value.int IntKind.u8 y.id.r])) (sectF (M.take k')) ca ∧ ca.length = (k' + 1) * 2 ∧ cb.length = (n - k') * 2 from
        ⟨hbl2, k + 1, _, cb2, by omega, by go_num, hrow2, hra2, by rw [List.length_append, hca]; simp; omega, by simp at hcb; omega⟩)
      replace hj := hide hj
      clear hrow hrow2 hra hra2 hbl2 hst hpa hca hcb
      go_wp2_with fail
      go_roundw
      case rel => exact hfin.out
      case measure => simp [intOf]; omega
    · have hkn : k = n := by omega
      subst hkn
      have e1 : M.take k = M := List.take_of_length_le (by rw [← hn.out]; exact Nat.le_refl _)
      rw [e1] at hra
      have hki : ¬ ((k : Int) < (k : Int)) := by omega
      obtain rfl : cb = [] := List.eq_nil_of_length_eq_zero (by rw [hcb]; simp)
      rw [List.append_nil] at hrow
      have hg := hide (show New2 cId L 0 w (.returned (.tuple #[.slice (some ⟨w1.heap.size, 0, none⟩) (k + 1) (k + 1), .int .i64 0])) wr from by
        have hLn : L.length = k + 1 := by rw [hL.out, sect_length, ← hn.out]
        refine ⟨_, k + 1, by rw [hLn], by omega, by unfold maxLen; omega, ?_, hb01⟩
        rw [hL.out]
        exact (show R cId w1.heap.size wr _ _ from ⟨ca, hra, fun _ => ⟨w1.heap.size, 0, rfl, ⟨Nat.le_refl _, hrow.lt⟩, hrow.at⟩⟩).more hb1.size)
      clear e1 hra hrow hcb hca
      go_wp2_with fail
      go_ret2
      exact hg.out

theorem whereN_false {l : List Op} {s : Id} {least : Int} (h : bagMay l = false) : whereN l s least = 8 := by unfold whereN; rw [h]; rfl

/-- home.where hands out all the sections, and the number, or the error. -/
def WhereP (l : List Op) (s : Id) (least : Int) (w : World) (e : Ending) (w' : World) : Prop := ∃ (A : Option Addr) (n : Nat) (k : Int) (c : Nat), e = .returned (.tuple #[.slice A n c, .int .i64 k, .int .i64 (whereN l s least)]) ∧ Bl w w' ∧
  (whereN l s least = 0 → n = (sectF (livesF l)).length ∧ k = idxOf (sectF (livesF l)) s ∧ least ≤ k ∧ bagMay l = true ∧ R cId 0 w' A (sectF (livesF l)))

set_option maxRecDepth 100000 in
set_option maxHeartbeats 1000000 in
theorem homeWhere (A : Option Addr) (c : Nat) (l : List Op) (s : Id) (least : Int) (w : World) (hl : l.length ≤ maxLen) (hA : R cOp 0 w A l) :
    Calls Tryz.prog 181 #[.slice A l.length c, .agg #[.int .u32 s.t, .int .u8 s.r], .int .i64 least] w (WhereP l s least w) := by
  have hal := hide fun V (hv : Bl w V) => homeAll A c l V hl (hA.bl hv)
  have hsm := live_small l
  obtain ⟨W, hW⟩ : ∃ W, W = w.alloc (.cells #[Value.int IntKind.u32 s.t, Value.int IntKind.u8 s.r] 25) := ⟨_, rfl⟩
  have hbW : Bl w W := by rw [hW]; exact (Bl.refl _).alloc _
  have at0 : IdBox W w.heap.size s := by rw [hW]; exact IdBox.new w s _
  have hal2 := hal.out W hbW
  clear hal
  cases h : bagMay l
  · have hp := hide (show ∀ V, Bl w V → WhereP l s least w (.returned (.tuple #[.slice none 0 0, .int .i64 0, .int .i64 8])) V from fun V hv => ⟨none, 0, 0, 0, by rw [whereN_false h], hv, fun e => by rw [whereN_false h] at e; cases e⟩)
    rw [h, show allL l = [] from by unfold allL; rw [h]; rfl] at hal2
    replace hal2 := hide hal2
    clear h hsm
    go_enter Tryz.func181, Tryz.ntmps181
    go_wp2_with fail
    rw [← hW]
    clear hW
    refine hal2.out.mono ?_
    rintro e w1 ⟨X, x, rfl, x1, x2, hX, hb1⟩
    go_wp2_with fail
    go_ret3
    exact hp.out _ (hbW.trans hb1)
  rw [h, show allL l = sectF (livesF l) from by unfold allL; rw [h]; rfl] at hal2
  rw [liveL_true h] at hsm
  have hsl : (sectF (livesF l)).length ≤ 1048577 := by rw [sect_length]; omega
  have hp := hide (show ∀ (k : Int) V X x, k = idxOf (sectF (livesF l)) s → Bl w V → R cId 0 V X (sectF (livesF l)) → (k < least → WhereP l s least w (.returned (.tuple #[.slice none 0 0, .int .i64 0, .int .i64 130])) V) ∧ (¬ k < least → WhereP l s least w (.returned (.tuple #[.slice X (sectF (livesF l)).length x, .int .i64 k, .int .i64 0])) V) from fun k V X x hk hv hX => by
    have e : whereN l s least = if k < least then 130 else 0 := by unfold whereN; rw [h, hk]; rfl
    constructor
    · intro hlt
      rw [if_pos hlt] at e
      exact ⟨none, 0, 0, 0, by rw [e], hv, fun h0 => by rw [e] at h0; cases h0⟩
    · intro hlt
      rw [if_neg hlt] at e
      exact ⟨X, _, k, x, by rw [e], hv, fun _ => ⟨rfl, hk, by omega, h, hX⟩⟩)
  generalize sectF (livesF l) = M at *
  have hix := hide fun X x V (hX : R cId 0 V X M) => idIndexP X x M s V hsl hX
  obtain ⟨N, hN⟩ : ∃ N, N = idxOf M s := ⟨_, rfl⟩
  rw [← hN] at hix
  replace hN := hide hN
  replace hal2 := hide hal2
  clear h hsm hsl
  go_enter Tryz.func181, Tryz.ntmps181
  go_wp2_with fail
  rw [← hW]
  clear hW
  refine hal2.out.mono ?_
  rintro e w1 ⟨X, x, rfl, x1, x2, hX, hb1⟩
  obtain ⟨y0, y1, -, -⟩ := at0.bl hb1
  go_wp2_with fail
  refine (hix.out X x _ hX.zero).mono ?_
  rintro e w2 ⟨rfl, hb2⟩
  obtain ⟨p1, p2⟩ := hp.out N w2 X x hN.out (hbW.trans (hb1.trans hb2)) (hX.zero.bl hb2)
  by_cases hlt : N < least
  · have g := hide (p1 (by omega))
    clear p1 p2
    go_wp2_with fail
    go_ret3
    exact g.out
  · have g := hide (p2 (by omega))
    clear p1 p2
    go_wp2_with fail
    go_ret3
    exact g.out

set_option maxRecDepth 100000 in
set_option maxHeartbeats 1000000 in
theorem homeAhead (A : Option Addr) (c : Nat) (l : List Op) (s : Id) (w : World) (hl : l.length ≤ maxLen) (hA : R cOp 0 w A l) :
    Calls Tryz.prog 126 #[.slice A l.length c, .agg #[.int .u32 s.t, .int .u8 s.r]] w fun e w' => e = .returned (.tuple #[.agg #[.int .u32 (aheadS l s).t, .int .u8 (aheadS l s).r], .int .i64 (whereN l s 1)]) ∧ Bl w w' := by
  have hwh := fun V (hv : Bl w V) => homeWhere A c l s 1 V hl (hA.bl hv)
  obtain ⟨q, hq⟩ : ∃ q, q = aheadS l s := ⟨_, rfl⟩
  obtain ⟨N, hN⟩ : ∃ N, N = whereN l s 1 := ⟨_, rfl⟩
  rw [← hq, ← hN]
  unfold aheadS at hq
  unfold WhereP at hwh
  rw [← hN] at hq hwh
  have hsl : N = 0 → (sectF (livesF l)).length ≤ 1048577 := fun h0 => by
    rw [hN] at h0
    have hb : bagMay l = true := by
      cases hb : bagMay l
      · rw [whereN_false hb] at h0; cases h0
      · rfl
    have := lives_len l
    have := (bagMay_parts hb).1
    rw [sect_length]
    omega
  obtain ⟨W, hW⟩ : ∃ W, W = (w.alloc (.cells #[Value.int IntKind.u32 s.t, Value.int IntKind.u8 s.r] 25)).alloc (.cells #[Value.int IntKind.u32 0, Value.int IntKind.u8 0] 25) := ⟨_, rfl⟩
  have hbW : Bl w W := by rw [hW]; exact ((Bl.refl _).alloc _).alloc _
  have at0 : IdBox W w.heap.size s := by rw [hW]; exact (IdBox.new w s _).bl ((Bl.refl _).alloc _)
  have at1 : IdBox W (w.heap.size + 1) ⟨0, 0⟩ := by
    have h := IdBox.new (w.alloc (.cells #[Value.int IntKind.u32 s.t, Value.int IntKind.u8 s.r] 25)) ⟨0, 0⟩ 25
    rw [World.size_alloc w] at h
    rw [hW]
    exact h
  obtain ⟨x0, x1, -, -⟩ := at0
  replace hq := hide hq
  replace hsl := hide hsl
  replace hN := hide hN
  replace hwh := hide hwh
  go_enter Tryz.func126, Tryz.ntmps126
  go_wp2_with fail
  rw [← hW]
  clear hW
  refine (hwh.out _ hbW).mono ?_
  rintro e w1 ⟨X, n, k, x, rfl, hb1, hgood⟩
  replace hgood := hide hgood
  obtain ⟨y0, y1, f0, f1⟩ := at1.bl hb1
  have hyl := (at1.bl hb1).lt
  have hb01 := hbW.trans hb1
  by_cases h0 : N = 0
  · obtain ⟨rfl, hk, hk1, hmay, hX⟩ := hgood.out h0
    have hs := hsl.out h0
    have hq2 := hq.out
    rw [if_pos h0, ← hk] at hq2
    have hklt : k < ((sectF (livesF l)).length : Int) := by rw [hk]; exact idx_le _ _
    subst h0
    obtain ⟨j, hj⟩ : ∃ j, j = k.toNat - 1 := ⟨_, rfl⟩
    have hkj : k - 1 = (j : Int) := by omega
    generalize sectF (livesF l) = M at *
    obtain ⟨b, off, rfl, _, hb⟩ := hX.addr (by omega)
    obtain ⟨y, hy⟩ := get_lt (show j < M.length by omega)
    obtain ⟨_, ho, c0, c1⟩ := hX.id hy
    rw [← hj, hy] at hq2
    have hq3 : q = y := hq2
    subst hq3
    have hjl : (j : Int) < (M.length : Int) := by omega
    have hfin := hide ((hb01.setCell (p := ⟨w.heap.size + 1, 0, none⟩) (Nat.le_succ _) (.int .u32 q.t)).setCell (p := ⟨w.heap.size + 1, 1, none⟩) (Nat.le_succ _) (.int .u8 q.r))
    clear hy hq2 hgood hsl hq hk hk1 hmay hj hklt
    go_wp2_with fail
    refine bodyPost_ret (v := .tuple #[.agg #[.int .u32 q.t, .int .u8 q.r], .int .i64 0]) (by simp [results, Tryz.results126, go_sem, y0, y1]) rfl ?_
    exact ⟨rfl, hfin.out⟩
  · have hq2 := hq.out
    rw [if_neg h0] at hq2
    subst hq2
    have hfin := hide ((hb01.setCell (p := ⟨w.heap.size + 1, 0, none⟩) (Nat.le_succ _) (.int .u32 0)).setCell (p := ⟨w.heap.size + 1, 1, none⟩) (Nat.le_succ _) (.int .u8 0))
    clear hgood hsl hq
    go_wp2_with fail
    refine bodyPost_ret (v := .tuple #[.agg #[.int .u32 0, .int .u8 0], .int .i64 N]) (by simp [results, Tryz.results126, go_sem, y0, y1]) rfl ?_
    exact ⟨rfl, hfin.out⟩

/-- What home.Span hands out: two places of new memory. -/
def SpanP (p q : List Run) (n : Int) (w : World) (e : Ending) (w' : World) : Prop := ∃ A B c d, e = .returned (.tuple #[.slice A p.length c, .slice B q.length d, .int .i64 n]) ∧ p.length ≤ c ∧ c ≤ maxLen ∧ q.length ≤ d ∧ d ≤ maxLen ∧ R cRun w.heap.size w' A p ∧ R cRun w.heap.size w' B q ∧ Bl w w'

set_option maxRecDepth 100000 in
set_option maxHeartbeats 2000000 in
theorem homeSpan (A : Option Addr) (c : Nat) (l : List Op) (s : Id) (w : World) (hl : l.length ≤ maxLen) (hA : R cOp 0 w A l) :
    Calls Tryz.prog 201 #[.slice A l.length c, .agg #[.int .u32 s.t, .int .u8 s.r]] w (SpanP (spanA l s) (spanB l s) (whereN l s 0) w) := by
  have hwh := hide fun V (hv : Bl w V) => homeWhere A c l s 0 V hl (hA.bl hv)
  have hlv := fun V (hv : Bl w V) => marksLive A c l V hl (hA.bl hv)
  obtain ⟨p, hp⟩ : ∃ p, p = spanA l s := ⟨_, rfl⟩
  obtain ⟨q, hq⟩ : ∃ q, q = spanB l s := ⟨_, rfl⟩
  rw [← hp, ← hq]
  unfold spanA at hp
  unfold spanB at hq
  obtain ⟨W, hW⟩ : ∃ W, W = w.alloc (.cells #[Value.int IntKind.u32 s.t, Value.int IntKind.u8 s.r] 25) := ⟨_, rfl⟩
  have hbW : Bl w W := by rw [hW]; exact (Bl.refl _).alloc _
  have at0 : IdBox W w.heap.size s := by rw [hW]; exact IdBox.new w s _
  obtain ⟨x0, x1, -, -⟩ := at0
  unfold WhereP at hwh
  by_cases h0 : whereN l s 0 = 0
  · rw [if_pos h0] at hp hq
    have hmay : bagMay l = true := by
      cases hb : bagMay l
      · rw [whereN_false hb] at h0; cases h0
      · rfl
    have hsm := lives_small hmay
    have hpa := hide (hp)
    have hqa := hide (hq)
    have hlv2 := hlv
    rw [hmay, liveL_true hmay] at hlv2
    have hil := idx_le (sectF (livesF l)) s
    rw [sect_length] at hil
    generalize hN : whereN l s 0 = N at *
    subst h0
    replace hN := hide hN
    clear hp hq hlv hmay
    generalize livesF l = M at *
    replace hlv2 := hide hlv2
    go_enter Tryz.func201, Tryz.ntmps201
    go_wp2_with fail
    rw [← hW]
    clear hW
    refine (hwh.out _ hbW).mono ?_
    rintro e w1 ⟨X, n, k, x, rfl, hb1, hgood⟩
    obtain ⟨-, hk, hk0, -, -⟩ := hgood (by first | rfl | trivial)
    clear hgood
    have hb01 := hbW.trans hb1
    rw [← hk] at hil
    rw [← hk] at hpa hqa
    replace hk := hide hk
    obtain ⟨kn, rfl⟩ : ∃ kn : Nat, k = (kn : Int) := ⟨k.toNat, by omega⟩
    rw [Int.toNat_natCast] at hpa hqa
    go_wp2_with fail
    refine (hlv2.out _ hb01).mono ?_
    rintro e w2 ⟨Y, y, rfl, y1, y2, hY, hb2⟩
    have hb02 := hb01.trans hb2
    have hYz := hY.more hb01.size
    clear hwh hlv2
    have hbe : ∀ (j : Nat) (x : Op), M[j]? = some x → beginF M (j + 1) = x.pl := fun j x hx => by
      unfold beginF
      dsimp only
      rw [hx]
    have hbn : ∀ j : Nat, M.length ≤ j → beginF M (j + 1) = [] := fun j hx => by
      unfold beginF
      dsimp only
      rw [List.getElem?_eq_none hx]
    by_cases hz : kn = 0
    · subst hz
      have e1 : p = [] := hpa.out
      subst e1
      clear hpa
      by_cases hm : 0 < M.length
      · obtain ⟨b, off, rfl, hbw, hb⟩ := hYz.addr hm
        obtain ⟨z, hzm⟩ := get_lt hm
        obtain ⟨_, ho, S, sc, s1, s2, hS, c0, c1, c2, c3, c4⟩ := hYz.op hzm
        have e2 : q = z.pl := hqa.out.trans (hbe 0 z hzm)
        subst e2
        have hmi : (0 : Int) < (M.length : Int) := by omega
        simp only [Nat.zero_mul, Nat.add_zero] at c3
        clear hbe hbn hqa hzm
        go_wp2_with fail
        go_ret3
        exact ⟨none, S, 0, sc, rfl, Nat.le_refl _, Nat.zero_le _, s1, s2, R.nil, hS, hb02⟩
      · have e2 : q = [] := hqa.out.trans (hbn 0 (by omega))
        subst e2
        have hmi : M.length = 0 := by omega
        clear hbe hbn hqa
        go_wp2_with fail
        go_ret3
        exact ⟨none, none, 0, 0, rfl, Nat.le_refl _, Nat.zero_le _, Nat.le_refl _, Nat.zero_le _, R.nil, R.nil, hb02⟩
    · obtain ⟨j, hj⟩ : ∃ j, j = kn - 1 := ⟨_, rfl⟩
      have hkj : (kn : Int) - 1 = (j : Int) := by omega
      have hjl : j < M.length := by omega
      have hji : (j : Int) < (M.length : Int) := by omega
      have hki : (0 : Int) < (kn : Int) := by omega
      have hkn : 0 < kn := by omega
      obtain ⟨b, off, rfl, hbw, hb⟩ := hYz.addr (by omega)
      obtain ⟨z, hzm⟩ := get_lt hjl
      obtain ⟨_, ho, S, sc, s1, s2, hS, c0, c1, c2, c3, c4⟩ := hYz.op hzm
      have e1 : p = z.pl := by
        rw [hpa.out, show kn = j + 1 by omega]
        exact hbe j z hzm
      subst e1
      clear c0 c1 c2 c4 hpa
      by_cases hm : kn < M.length
      · obtain ⟨u, hum⟩ := get_lt hm
        obtain ⟨_, uo, T, tc, t1, t2, hT, d0, d1, d2, d3, d4⟩ := hYz.op hum
        have e2 : q = u.pl := hqa.out.trans (hbe kn u hum)
        subst e2
        have hmi : (kn : Int) < (M.length : Int) := by omega
        replace hj := hide hj
        clear d0 d1 d2 d4 hbe hbn hqa hzm hum
        go_wp2_with fail
        go_ret3
        exact ⟨S, T, sc, tc, rfl, s1, s2, t1, t2, hS, hT, hb02⟩
      · have e2 : q = [] := hqa.out.trans (hbn kn (by omega))
        subst e2
        have hmi : ¬ (kn : Int) < (M.length : Int) := by omega
        replace hj := hide hj
        clear hbe hbn hqa hzm
        go_wp2_with fail
        go_ret3
        exact ⟨S, none, sc, 0, rfl, s1, s2, Nat.le_refl _, Nat.zero_le _, hS, R.nil, hb02⟩
  · rw [if_neg h0] at hp hq
    subst hp hq
    generalize whereN l s 0 = N at *
    clear hlv
    go_enter Tryz.func201, Tryz.ntmps201
    go_wp2_with fail
    rw [← hW]
    clear hW
    refine (hwh.out _ hbW).mono ?_
    rintro e w1 ⟨X, n, k, x, rfl, hb1, hgood⟩
    clear hgood
    go_wp2_with fail
    go_ret3
    exact ⟨none, none, 0, 0, rfl, Nat.le_refl _, Nat.zero_le _, Nat.le_refl _, Nat.zero_le _, R.nil, R.nil, hbW.trans hb1⟩

set_option maxRecDepth 100000 in
set_option maxHeartbeats 2000000 in
theorem homeOf (A B : Option Addr) (c d : Nat) (l : List Op) (p : List Run) (w : World) (hl : l.length ≤ maxLen) (hp : p.length ≤ maxLen) (hA : R cOp 0 w A l) (hB : R cRun 0 w B p) :
    Calls Tryz.prog 33 #[.slice A l.length c, .slice B p.length d] w fun e w' => e = .returned (.tuple #[.agg #[.int .u32 (ofS l p).t, .int .u8 (ofS l p).r], .int .i64 (ofN l p)]) ∧ Bl w w' := by
  have hlv := fun V (hv : Bl w V) => marksLive A c l V hl (hA.bl hv)
  have hchk := fun V (hv : Bl w V) => placeCheck B d p V hp (hB.bl hv)
  obtain ⟨q, hq⟩ : ∃ q, q = ofS l p := ⟨_, rfl⟩
  obtain ⟨N, hN⟩ : ∃ N, N = ofN l p := ⟨_, rfl⟩
  rw [← hq, ← hN]
  unfold ofS at hq
  unfold ofN at hN
  obtain ⟨W, hW⟩ : ∃ W, W = w.alloc (.cells #[Value.int IntKind.u32 0, Value.int IntKind.u8 0] 25) := ⟨_, rfl⟩
  have hbW : Bl w W := by rw [hW]; exact (Bl.refl _).alloc _
  have at0 : IdBox W w.heap.size ⟨0, 0⟩ := by rw [hW]; exact IdBox.new w ⟨0, 0⟩ _
  have hout : ∀ (V : World) (s : Id), Bl w V → Bl w ((V.setCell ⟨w.heap.size, 0, none⟩ (.int .u32 s.t)).setCell ⟨w.heap.size, 1, none⟩ (.int .u8 s.r)) := fun V s hV => (hV.setCell (Nat.le_refl _) _).setCell (Nat.le_refl _) _
  replace hout := hide hout
  cases h : bagMay l
  · rw [h] at hlv hq hN
    rw [liveL_false h] at hlv
    have e1 : q = ⟨0, 0⟩ := hq
    have e2 : N = 8 := hN
    subst e1 e2
    replace hlv := hide hlv
    clear hq hN h hchk
    go_enter Tryz.func33, Tryz.ntmps33
    go_wp2_with fail
    rw [← hW]
    clear hW
    refine (hlv.out _ hbW).mono ?_
    rintro e w1 ⟨X, x, rfl, x1, x2, hX, hb1⟩
    obtain ⟨y0, y1, f0, f1⟩ := at0.bl hb1
    have hyl := (at0.bl hb1).lt
    go_wp2_with fail
    refine bodyPost_ret (v := .tuple #[.agg #[.int .u32 0, .int .u8 0], .int .i64 8]) (by simp [results, Tryz.results33, go_sem, y0, y1, okOr]) rfl ?_
    exact ⟨rfl, hout.out w1 ⟨0, 0⟩ (hbW.trans hb1)⟩
  rw [h] at hlv hq hN
  rw [liveL_true h] at hlv
  replace hlv := hide hlv
  have hmk := hide (lives_mk h)
  have hso := hide ((lives_ok h).1)
  have hsm := lives_small h
  cases h2 : plAny p
  · rw [h2] at hq hN
    have e1 : q = ⟨0, 0⟩ := hq
    have e2 : N = 8 := hN
    subst e1 e2
    have hpm : placeMay p = false := by
      unfold plAny at h2
      rw [Bool.or_eq_false_iff] at h2
      exact h2.2
    have hpl : 0 < p.length := by
      unfold plAny at h2
      rw [Bool.or_eq_false_iff, decide_eq_false_iff_not] at h2
      omega
    have hpi : (0 : Int) < (p.length : Int) := by omega
    rw [hpm] at hchk
    replace hchk := hide hchk
    generalize livesF l = M at *
    clear hq hN h h2 hpm
    go_enter Tryz.func33, Tryz.ntmps33
    go_wp2_with fail
    rw [← hW]
    clear hW
    refine (hlv.out _ hbW).mono ?_
    rintro e w1 ⟨X, x, rfl, x1, x2, hX, hb1⟩
    have hb01 := hbW.trans hb1
    go_wp2_with fail
    refine (hchk.out _ hb01).mono ?_
    rintro e w2 ⟨rfl, hb2⟩
    have hb12 := hb1.trans hb2
    obtain ⟨y0, y1, f0, f1⟩ := at0.bl hb12
    have hyl := (at0.bl hb12).lt
    go_wp2_with fail
    refine bodyPost_ret (v := .tuple #[.agg #[.int .u32 0, .int .u8 0], .int .i64 8]) (by simp [results, Tryz.results33, go_sem, y0, y1, okOr]) rfl ?_
    exact ⟨rfl, hout.out w2 ⟨0, 0⟩ (hbW.trans hb12)⟩
  rw [h2] at hq hN
  have e2 : N = 0 := hN
  subst e2
  have hq' := hide (show q = homeF (livesF l) p from hq)
  have hha := hide (home_at (lives_mk h) (lives_ok h).1 (any_pos h2))
  generalize livesF l = M at *
  have hse := hide fun X x V (hX : R cOp 0 V X M) (hv : Bl w V) => homeSearch X B x d M p V (by omega) hX hp (hB.bl hv) h2 hmk.out hso.out
  have hpm : 0 < p.length → placeMay p = true := fun h3 => by
    unfold plAny at h2
    rw [Bool.or_eq_true, decide_eq_true_eq] at h2
    rcases h2 with h2 | h2
    · omega
    · exact h2
  have hnl := posP_le M p
  clear hq hN h h2
  by_cases hpl : 0 < p.length
  · have hpi : (0 : Int) < (p.length : Int) := by omega
    rw [hpm hpl] at hchk
    replace hchk := hide hchk
    clear hpm
    go_enter Tryz.func33, Tryz.ntmps33
    go_wp2_with fail
    rw [← hW]
    clear hW
    refine (hlv.out _ hbW).mono ?_
    rintro e w1 ⟨X, x, rfl, x1, x2, hX, hb1⟩
    have hb01 := hbW.trans hb1
    go_wp2_with fail
    refine (hchk.out _ hb01).mono ?_
    rintro e w2 ⟨rfl, hb2⟩
    have hb12 := hb1.trans hb2
    have hX2 := hX.zero.bl hb2
    have hb02 := hbW.trans hb12
    go_wp2_with fail
    refine (hse.out X x _ hX2 hb02).mono ?_
    rintro e w3 ⟨rfl, hb3⟩
    have hb13 := hb12.trans hb3
    have hX3 := hX2.bl hb3
    obtain ⟨y0, y1, f0, f1⟩ := at0.bl hb13
    have hyl := (at0.bl hb13).lt
    have hh := hha.out
    rw [← hq'.out] at hh
    clear hse hha hlv
    generalize posP M p = n at *
    generalize isP M p = is at *
    rcases hh with ⟨z, hz, -, rfl, rfl⟩ | ⟨rfl, ⟨rfl, rfl⟩ | ⟨z, h1, hz, rfl⟩⟩
    · obtain ⟨b, off, rfl, hbw, hb⟩ := hX3.addr (by have := (List.getElem?_eq_some_iff.1 hz).1; omega)
      have hnM := (List.getElem?_eq_some_iff.1 hz).1
      have hni : (n : Int) < (M.length : Int) := by omega
      obtain ⟨_, ho, S, sc, s1, s2, hS, c0, c1, c2, c3, c4⟩ := hX3.op hz
      clear c0 c3 c4 hz
      go_wp2_with fail
      refine bodyPost_ret (v := .tuple #[.agg #[.int .u32 z.id.t, .int .u8 z.id.r], .int .i64 0]) (by simp [results, Tryz.results33, go_sem, y0, y1]) rfl ?_
      exact ⟨rfl, hout.out w3 z.id (hbW.trans hb13)⟩
    · go_wp2_with fail
      refine bodyPost_ret (v := .tuple #[.agg #[.int .u32 0, .int .u8 0], .int .i64 0]) (by simp [results, Tryz.results33, go_sem, y0, y1]) rfl ?_
      exact ⟨rfl, hout.out w3 ⟨0, 0⟩ (hbW.trans hb13)⟩
    · obtain ⟨j, hj⟩ : ∃ j, j = n - 1 := ⟨_, rfl⟩
      rw [← hj] at hz
      have hkj : (n : Int) - 1 = (j : Int) := by omega
      have hn0 : ¬ (n : Int) = 0 := by omega
      have hjM := (List.getElem?_eq_some_iff.1 hz).1
      have hji : (j : Int) < (M.length : Int) := by omega
      obtain ⟨b, off, rfl, hbw, hb⟩ := hX3.addr (by omega)
      obtain ⟨_, ho, S, sc, s1, s2, hS, c0, c1, c2, c3, c4⟩ := hX3.op hz
      replace hj := hide hj
      clear c0 c3 c4 hz
      go_wp2_with fail
      refine bodyPost_ret (v := .tuple #[.agg #[.int .u32 z.id.t, .int .u8 z.id.r], .int .i64 0]) (by simp [results, Tryz.results33, go_sem, y0, y1]) rfl ?_
      exact ⟨rfl, hout.out w3 z.id (hbW.trans hb13)⟩
  · have hpi : decide ((0 : Int) < (p.length : Int)) = false := decide_eq_false (by omega)
    have hpj : decide (0 < p.length) = false := decide_eq_false (by omega)
    clear hpm hchk
    go_enter Tryz.func33, Tryz.ntmps33
    go_wp2_with fail
    rw [← hW]
    clear hW
    refine (hlv.out _ hbW).mono ?_
    rintro e w2 ⟨X, x, rfl, x1, x2, hX, hb12⟩
    have hX2 := hX.zero
    have hb02 := hbW.trans hb12
    go_wp2_with fail
    refine (hse.out X x _ hX2 hb02).mono ?_
    rintro e w3 ⟨rfl, hb3⟩
    have hb13 := hb12.trans hb3
    have hX3 := hX2.bl hb3
    obtain ⟨y0, y1, f0, f1⟩ := at0.bl hb13
    have hyl := (at0.bl hb13).lt
    have hh := hha.out
    rw [← hq'.out] at hh
    clear hse hha hlv
    generalize posP M p = n at *
    generalize isP M p = is at *
    rcases hh with ⟨z, hz, -, rfl, rfl⟩ | ⟨rfl, ⟨rfl, rfl⟩ | ⟨z, h1, hz, rfl⟩⟩
    · obtain ⟨b, off, rfl, hbw, hb⟩ := hX3.addr (by have := (List.getElem?_eq_some_iff.1 hz).1; omega)
      have hnM := (List.getElem?_eq_some_iff.1 hz).1
      have hni : (n : Int) < (M.length : Int) := by omega
      obtain ⟨_, ho, S, sc, s1, s2, hS, c0, c1, c2, c3, c4⟩ := hX3.op hz
      clear c0 c3 c4 hz
      go_wp2_with fail
      refine bodyPost_ret (v := .tuple #[.agg #[.int .u32 z.id.t, .int .u8 z.id.r], .int .i64 0]) (by simp [results, Tryz.results33, go_sem, y0, y1]) rfl ?_
      exact ⟨rfl, hout.out w3 z.id (hbW.trans hb13)⟩
    · go_wp2_with fail
      refine bodyPost_ret (v := .tuple #[.agg #[.int .u32 0, .int .u8 0], .int .i64 0]) (by simp [results, Tryz.results33, go_sem, y0, y1]) rfl ?_
      exact ⟨rfl, hout.out w3 ⟨0, 0⟩ (hbW.trans hb13)⟩
    · obtain ⟨j, hj⟩ : ∃ j, j = n - 1 := ⟨_, rfl⟩
      rw [← hj] at hz
      have hkj : (n : Int) - 1 = (j : Int) := by omega
      have hn0 : ¬ (n : Int) = 0 := by omega
      have hjM := (List.getElem?_eq_some_iff.1 hz).1
      have hji : (j : Int) < (M.length : Int) := by omega
      obtain ⟨b, off, rfl, hbw, hb⟩ := hX3.addr (by omega)
      obtain ⟨_, ho, S, sc, s1, s2, hS, c0, c1, c2, c3, c4⟩ := hX3.op hz
      replace hj := hide hj
      clear c0 c3 c4 hz
      go_wp2_with fail
      refine bodyPost_ret (v := .tuple #[.agg #[.int .u32 z.id.t, .int .u8 z.id.r], .int .i64 0]) (by simp [results, Tryz.results33, go_sem, y0, y1]) rfl ?_
      exact ⟨rfl, hout.out w3 z.id (hbW.trans hb13)⟩

end Go.Proofs.YteoodmilcpmmpaaGreat
