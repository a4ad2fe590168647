/-
  The walks of the references of layer 13: Home, Sections, Where.
-/
import Derived.Test.YteoodmilcpmmpaaGreatRef12
import Derived.Test.YteoodmilcpmmpaaGreatOwnA
namespace Go.Proofs.YteoodmilcpmmpaaGreat

open Go.RowKit

theorem home_take {l : List Op} {k : Nat} {x : Op} (h : l[k]? = some x) (p : List Run) : homeF (l.take (k + 1)) p = if heldF x.pl p ≤ 0 then x.id else homeF (l.take k) p := by
  unfold homeF
  rw [take_snoc h, List.foldl_append]
  rfl

set_option maxRecDepth 100000 in
set_option maxHeartbeats 2000000 in
theorem refHome13 (A B : Option Addr) (c d : Nat) (l : List Op) (p : List Run) (w : World) (hl : l.length ≤ maxLen) (hp : ∀ x ∈ l, placeMay x.pl = true) (hq : plAny p = true) (hpd : p.length ≤ d) (hdm : d ≤ maxLen) (hA : R cOp 0 w A l) (hB : R cRun 0 w B p) :
    Calls Tryz.prog 47 #[.slice A l.length c, .slice B p.length d] w fun e w' => e = .returned (.agg #[.int .u32 (homeF l p).t, .int .u8 (homeF l p).r]) ∧ Bl w w' := by
  unfold maxLen at hl
  obtain ⟨n2, r2⟩ := any_runB hq hB
  have hheld := hide fun (x : Op) (S : Option Addr) (sc : Nat) (V : World) (hx : x ∈ l) (h1 : x.pl.length ≤ sc) (h2 : sc ≤ maxLen) (hS : R cRun 0 w S x.pl) (hv : Bl w V) =>
    have h3 := any_runB (a := x.pl) (by unfold plAny; rw [hp x hx, Bool.or_true]) hS
    refHeld06 S B sc d x.pl p V h3.1 n2 h3.2 r2 h1 h2 hpd hdm (hS.bl hv) (hB.bl hv)
  clear n2 r2 hq hpd hdm hp
  obtain ⟨W, hW⟩ : ∃ W, W = (w.alloc (.cells #[Value.int IntKind.u32 0, Value.int IntKind.u8 0] 25)).alloc (.cells #[Value.int IntKind.u32 0, Value.int IntKind.u8 0] 25) := ⟨_, rfl⟩
  have hbW : Bl w W := by rw [hW]; exact ((Bl.refl _).alloc _).alloc _
  have at0 : IdBox W w.heap.size ⟨0, 0⟩ := by rw [hW]; exact (IdBox.new w ⟨0, 0⟩ _).bl ((Bl.refl _).alloc _)
  have at1 : IdBox W (w.heap.size + 1) ⟨0, 0⟩ := by
    have h := IdBox.new (w.alloc (.cells #[Value.int IntKind.u32 0, Value.int IntKind.u8 0] 25)) ⟨0, 0⟩ 25
    rw [World.size_alloc w] at h
    rw [hW]
    exact h
  go_enter Tryz.func47, Tryz.ntmps47
  go_wp2_with fail
  rw [← hW]
  clear hW
  go_loopw [6] (fun i wr => Bl w wr ∧ ∃ k : Nat, k ≤ l.length ∧ i = .int .i64 k ∧ IdBox wr w.heap.size ⟨0, 0⟩ ∧ IdBox wr (w.heap.size + 1) (homeF (l.take k) p)) (fun i _ => l.length - (intOf i).toNat)
  case atStart => exact ⟨hbW, 0, Nat.zero_le _, rfl, at0, at1⟩
  case round =>
    obtain ⟨hbl, k, hk, rfl, t0, t1⟩ := hrel
    by_cases hlt : k < l.length
    · obtain ⟨b, off, rfl, _, hb⟩ := hA.addr (by omega)
      obtain ⟨x, hx⟩ := get_lt hlt
      obtain ⟨_, ho, S, sc, s1, s2, hS, c0, c1, c2, c3, c4⟩ := hA.op hx
      have hki : (k : Int) < (l.length : Int) := by omega
      have hcall := hide (hheld.out x S sc wr (List.mem_of_getElem? hx) s1 s2 hS hbl)
      have hst := home_take hx p
      replace c3 := (hbl.cell hb).trans c3
      generalize homeF (l.take k) p = q at *
      clear hx
      by_cases hh : heldF x.pl p ≤ 0
      · rw [if_pos hh] at hst
        replace hst := hide hst
        have hd : decide (heldF x.pl p ≤ 0) = true := decide_eq_true hh
        generalize heldF x.pl p = N at *
        go_wp2_with fail
        refine hcall.out.mono ?_
        rintro e w2 ⟨rfl, hb2⟩
        have hb02 := hbl.trans hb2
        have d1 := (hb02.cell hb).trans c1
        have d2 := (hb02.cell hb).trans c2
        obtain ⟨y0, y1, f0, f1⟩ := t1.bl hb2
        have t1n := (t1.bl hb2).set x.id
        have t0n : IdBox ((w2.setCell ⟨w.heap.size + 1, 0, none⟩ (.int .u32 x.id.t)).setCell ⟨w.heap.size + 1, 1, none⟩ (.int .u8 x.id.r)) w.heap.size ⟨0, 0⟩ := by
          obtain ⟨z0, z1, g0, g1⟩ := t0.bl hb2
          exact ⟨box_set_other (by simp) (box_set_other (by simp) z0), box_set_other (by simp) (box_set_other (by simp) z1), by rw [World.frozen?_setCell, World.frozen?_setCell]; exact g0, by rw [World.frozen?_setCell, World.frozen?_setCell]; exact g1⟩
        have hbn := (hb02.setCell (p := ⟨w.heap.size + 1, 0, none⟩) (Nat.le_succ _) (.int .u32 x.id.t)).setCell (p := ⟨w.heap.size + 1, 1, none⟩) (Nat.le_succ _) (.int .u8 x.id.r)
        have hyl := (t1.bl hb2).lt
        have hbl2 := Nat.lt_of_lt_of_le hb hb02.size
        clear c0 c1 c2 c3 c4
        go_wp2_with fail
        go_roundw
        case rel => exact ⟨hbn, k + 1, by omega, by go_num, t0n, by rw [hst.out]; exact t1n⟩
        case measure => simp [intOf]; omega
      · rw [if_neg hh] at hst
        replace hst := hide hst
        have hd : decide (heldF x.pl p ≤ 0) = false := decide_eq_false hh
        generalize heldF x.pl p = N at *
        clear c0 c1 c2 c4
        go_wp2_with fail
        refine hcall.out.mono ?_
        rintro e w2 ⟨rfl, hb2⟩
        have t0n := hide (t0.bl hb2)
        have t1n := hide (t1.bl hb2)
        clear c3
        go_wp2_with fail
        go_roundw
        case rel => exact ⟨hbl.trans hb2, k + 1, by omega, by go_num, t0n.out, by rw [hst.out]; exact t1n.out⟩
        case measure => simp [intOf]; omega
    · have hkl : k = l.length := by omega
      subst hkl
      rw [List.take_length] at t1
      have hki : ¬ ((l.length : Int) < (l.length : Int)) := by omega
      obtain ⟨q, hqe⟩ : ∃ q, homeF l p = q := ⟨_, rfl⟩
      rw [hqe] at t1
      replace hqe := hide hqe
      obtain ⟨y0, y1, -, -⟩ := t1
      obtain ⟨z0, z1, f0, f1⟩ := t0
      have hbn := hide ((hbl.setCell (p := ⟨w.heap.size, 0, none⟩) (Nat.le_refl _) (.int .u32 q.t)).setCell (p := ⟨w.heap.size, 1, none⟩) (Nat.le_refl _) (.int .u8 q.r))
      go_wp2_with fail
      refine bodyPost_ret (v := .agg #[.int .u32 q.t, .int .u8 q.r]) (by simp [results, Tryz.results47, go_sem, z0, z1]) rfl ?_
      rw [hqe.out]
      exact ⟨rfl, hbn.out⟩

theorem sect_take {l : List Op} {k : Nat} {x : Op} (h : l[k]? = some x) : sectF (l.take (k + 1)) = sectF (l.take k) ++ [x.id] := by
  unfold sectF
  rw [take_snoc h, List.map_append]
  rfl

theorem sect_len (l : List Op) : (sectF l).length = l.length + 1 := by
  unfold sectF
  rw [List.length_cons, List.length_map]

set_option maxRecDepth 100000 in
set_option maxHeartbeats 2000000 in
theorem refSect13 (A : Option Addr) (c : Nat) (l : List Op) (w : World) (hl : l.length ≤ 1048576) (hA : R cOp 0 w A l) :
    Calls Tryz.prog 143 #[.slice A l.length c] w (New cId (sectF l) w) := by
  obtain ⟨i0, hi, hz0, hz1, hz2⟩ := info_parts Tryz.infoId
  have hrow : RowAt (w.alloc (.cells #[Value.int IntKind.u32 0, Value.int IntKind.u8 0] 25)) w.heap.size 25 [Value.int IntKind.u32 0, Value.int IntKind.u8 0] := RowAt.new w #[Value.int IntKind.u32 0, Value.int IntKind.u8 0] 25
  have hown0 : Own cId 25 w.heap.size (w.alloc (.cells #[Value.int IntKind.u32 0, Value.int IntKind.u8 0] 25)) (.slice (some ⟨w.heap.size, 0, none⟩) 1 1) (sectF (l.take 0)) :=
    ⟨_, hrow.own (n := 1) (size := 2) rfl (Nat.le_refl _) (by decide), RdL.one1 (C := cId) (x := ⟨0, 0⟩) ⟨by unfold Id.ok; decide, rfl⟩⟩
  clear hrow
  replace hown0 := hide hown0
  go_enter Tryz.func143, Tryz.ntmps143
  go_wp2_with fail
  go_loopw [3, 4] (fun v i wr => Bl w wr ∧ ∃ k : Nat, k ≤ l.length ∧ i = .int .i64 k ∧ Own cId 25 w.heap.size wr v (sectF (l.take k))) (fun _ i _ => l.length - (intOf i).toNat)
  case atStart => exact ⟨(Bl.refl _).alloc _, 0, Nat.zero_le _, rfl, hown0.out⟩
  case round =>
    obtain ⟨hbl, k, hk, rfl, hown⟩ := hrel
    by_cases hlt : k < l.length
    · have hR := hA.bl hbl
      obtain ⟨b, off, rfl, _, hb⟩ := hR.addr (by omega)
      obtain ⟨x, hx⟩ := get_lt hlt
      obtain ⟨_, ho, S, sc, s1, s2, hS, c0, c1, c2, c3, c4⟩ := hR.op hx
      have hki : (k : Int) < (l.length : Int) := by omega
      have hsn := hide (sect_take hx)
      have hF := sect_len (l.take k)
      rw [List.length_take] at hF
      generalize sectF (l.take k) = F at *
      have hsz := hbl.size
      have hown1 := hide (hown.bl ((Bl.refl wr).alloc (.cells #[Value.int IntKind.u32 x.id.t, Value.int IntKind.u8 x.id.r] 25)))
      have hsrc := hide (hown.src (t := 25) (cs := [Value.int IntKind.u32 x.id.t, Value.int IntKind.u8 x.id.r]) (x := x.id) (Bl.refl wr) hsz ⟨ho.2.1, rfl⟩)
      have q1 : F.length + [x.id].length ≤ maxLen := by rw [List.length_singleton]; unfold maxLen; omega
      have q2 : (F.length + [x.id].length) * 8 ≤ 140737488355328 := by rw [List.length_singleton]; omega
      have q3 : w.heap.size ≤ (wr.alloc (.cells #[Value.int IntKind.u32 x.id.t, Value.int IntKind.u8 x.id.r] 25)).heap.size := by simp; omega
      clear hx hown hown0
      go_wp2_with (at_builtin; refine Hid.out ?_)
      refine hide ?_
      refine wpList_append_any2 (C := cId) (xs := F) (ys := [x.id]) rfl (.tmp 13) (.tmp 19) _ rfl 25 i0 _ 8 Tryz.underlying110 hi hz0 hz1 hz2 rfl u3 w.heap.size rfl hown1.out (some ⟨wr.heap.size, 0, none⟩) 1 1 rfl rfl hsrc.out q1 q2 q3 ?_
      intro v9 w9 hown9 hg9 hf9
      have hb9 : Bl w w9 := (hbl.alloc _).app hown1.out (Nat.le_refl _) hg9
      clear hown1 hsrc q1 q2 q3 hg9 hf9
      go_wp2_with fail
      go_roundw
      case rel => exact ⟨hb9, k + 1, by omega, by go_num, by rw [hsn.out]; exact hown9⟩
      case measure => simp [intOf]; omega
    · have hkl : k = l.length := by omega
      subst hkl
      rw [List.take_length] at hown
      obtain ⟨X, x, hvx, hX, x1, x2⟩ := hown.reads
      subst hvx
      have hki : ¬ ((l.length : Int) < (l.length : Int)) := by omega
      clear hown hown0
      go_wp2_with fail
      go_ret
      exact ⟨X, x, rfl, x1, x2, hX, hbl⟩

theorem idx_hit : ∀ {l : List Id} {s : Id} {k : Nat}, l[k]? = some s → (∀ y ∈ l.take k, y ≠ s) → idxOf l s = k
  | [], s, k, h, _ => by simp at h
  | x :: l, s, 0, h, _ => by
    simp at h
    unfold idxOf
    rw [if_pos h]
    rfl
  | x :: l, s, k + 1, h, hn => by
    have h1 : x ≠ s := hn x (by simp)
    have ih := idx_hit (l := l) (s := s) (k := k) (by simpa using h) fun y hy => hn y (by simp [hy])
    unfold idxOf
    rw [if_neg h1, ih, if_neg (by omega)]
    omega

theorem idx_miss : ∀ {l : List Id} {s : Id}, (∀ y ∈ l, y ≠ s) → idxOf l s = -1
  | [], _, _ => rfl
  | x :: l, s, h => by
    have ih := idx_miss (l := l) (s := s) fun y hy => h y (List.mem_cons_of_mem _ hy)
    unfold idxOf
    rw [if_neg (h x (List.mem_cons_self ..)), ih, if_pos (by omega)]

def whereF (live : List Op) (s : Id) : Int := idxOf (sectF live) s

set_option maxRecDepth 100000 in
set_option maxHeartbeats 2000000 in
theorem refWhere13 (A : Option Addr) (c : Nat) (l : List Op) (s : Id) (w : World) (hl : l.length ≤ 1048576) (hA : R cOp 0 w A l) :
    Calls Tryz.prog 133 #[.slice A l.length c, .agg #[.int .u32 s.t, .int .u8 s.r]] w fun e w' => e = .returned (.int .i64 (whereF l s)) ∧ Bl w w' := by
  obtain ⟨W, hW⟩ : ∃ W, W = w.alloc (.cells #[Value.int IntKind.u32 s.t, Value.int IntKind.u8 s.r] 25) := ⟨_, rfl⟩
  have hbW : Bl w W := by rw [hW]; exact (Bl.refl _).alloc _
  have at0 : IdBox W w.heap.size s := by rw [hW]; exact IdBox.new w s _
  have hse := hide fun V (hv : Bl w V) => refSect13 A c l V hl (hA.bl hv)
  obtain ⟨N, hN⟩ : ∃ N, N = whereF l s := ⟨_, rfl⟩
  rw [← hN]
  unfold whereF at hN
  have hlen := sect_len l
  generalize sectF l = M at *
  have hyes := hide (show ∀ k : Nat, M[k]? = some s → (∀ y ∈ M.take k, y ≠ s) → (k : Int) = N from fun k h1 h2 => by rw [hN, idx_hit h1 h2])
  have hno := hide (show (∀ y ∈ M, y ≠ s) → -1 = N from fun h => by rw [hN, idx_miss h])
  clear hN
  have hMl : M.length ≤ 1048577 := by omega
  clear hlen
  go_enter Tryz.func133, Tryz.ntmps133
  go_wp2_with fail
  rw [← hW]
  clear hW
  refine (hse.out _ hbW).mono ?_
  rintro e w1 ⟨X, xc, rfl, x1, x2, hX, hb1⟩
  have at1 := at0.bl hb1
  go_wp2_with fail
  go_loopw [6] (fun i wr => Bl w1 wr ∧ ∃ k : Nat, k ≤ M.length ∧ i = .int .i64 k ∧ Hid (∀ y ∈ M.take k, y ≠ s)) (fun i _ => M.length - (intOf i).toNat)
  case atStart => exact ⟨Bl.refl _, 0, Nat.zero_le _, rfl, fun y hy => by simp at hy⟩
  case round =>
    obtain ⟨hbl, k, hk, rfl, hf⟩ := hrel
    by_cases hlt : k < M.length
    · have hR := hX.bl hbl
      obtain ⟨b, off, rfl, _, hb⟩ := hR.addr (by omega)
      obtain ⟨x, hx⟩ := get_lt hlt
      obtain ⟨_, ho, c0, c1⟩ := hR.id hx
      have hki : (k : Int) < (M.length : Int) := by omega
      have hsl := (at1.bl hbl).lt
      have C0 := fun p : Wd wr => Wd.cell c0 hb p
      have C1 := fun p : Wd wr => Wd.cell c1 hb p
      have S0 := fun p : Wd wr => Wd.cell (at1.bl hbl).c0 hsl p
      have S1 := fun p : Wd wr => Wd.cell (at1.bl hbl).c1 hsl p
      have heq := run_eqId x s
      cases hq : neqId x s
      · rw [hq] at heq
        have e := neqId_false hq
        have g := hide (hyes.out k (by rw [← e]; exact hx) hf.out)
        clear hx hf e hq c0 c1
        go_wp2_with fail
        (refine wp_region_wd (by kernel_rfl) (by kernel_rfl) ?_
         repeat (go_big_quiet_step ((fail)))
         refine wpQuiet_nil ?_
         intro w2 hw'
         obtain ⟨⟨wx, hb2⟩, hw''⟩ := hw'
         subst hw'')
        go_wp2_with fail
        go_ret
        exact ⟨ret_int g.out, (hbW.trans hb1).trans (hbl.trans hb2)⟩
      · rw [hq] at heq
        have e := neqId_true hq
        have g := hide (show ∀ y ∈ M.take (k + 1), y ≠ s from fun y hy => by
          rw [take_snoc hx, List.mem_append] at hy
          rcases hy with hy | hy
          · exact hf.out y hy
          · rw [List.mem_singleton] at hy; subst hy; exact e)
        clear hx hf e hq c0 c1
        go_wp2_with fail
        (refine wp_region_wd (by kernel_rfl) (by kernel_rfl) ?_
         repeat (go_big_quiet_step ((fail)))
         refine wpQuiet_nil ?_
         intro w2 hw'
         obtain ⟨⟨wx, hb2⟩, hw''⟩ := hw'
         subst hw'')
        go_wp2_with fail
        go_roundw
        case rel => exact ⟨hbl.trans hb2, k + 1, by omega, by go_num, g.out⟩
        case measure => simp [intOf]; omega
    · have hkl : k = M.length := by omega
      have g := hide (hno.out fun y hy => hf.out y (by rw [hkl, List.take_length]; exact hy))
      have hki : ¬ (k : Int) < (M.length : Int) := by omega
      clear hf
      replace hkl := hide hkl
      go_wp2_with fail
      go_ret
      exact ⟨ret_int g.out, (hbW.trans hb1).trans hbl⟩

end Go.Proofs.YteoodmilcpmmpaaGreat
