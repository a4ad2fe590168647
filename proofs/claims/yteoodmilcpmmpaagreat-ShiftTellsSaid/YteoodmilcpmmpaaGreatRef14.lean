/-
  The walks of the references Content, Many of layer 9, Cut of layer 6, In, Is, Counting of layer 14.
-/
import Derived.Test.YteoodmilcpmmpaaGreatRef13
import Derived.Test.YteoodmilcpmmpaaGreatRefB
import Derived.Test.YteoodmilcpmmpaaGreatCoverPlain
namespace Go.Proofs.YteoodmilcpmmpaaGreat

open Go.RowKit

theorem cut_cons {x : Run} {l : List Run} {n : Int} (h : 0 < n) : cutN (x :: l) n = ⟨x.t, x.r, if n < x.m then n else x.m⟩ :: cutN l (n - (if n < x.m then n else x.m)) := by
  conv => lhs; unfold cutN
  rw [if_neg (by omega)]
  by_cases h2 : n < x.m
  · rw [if_pos h2, if_pos h2, Int.sub_self, cutN_zero l (Int.le_refl 0)]
  · rw [if_neg h2, if_neg h2]

/-- What is to hold of each beginning of its place. -/
def isK (l : List Op) (s : Id) (p : List Run) (k : Int) : Bool := !decide (homeF (livesF l) (cutN p k) = s) || hasId l (placeFin (cutN p k))

theorem isC_true {l : List Op} {s : Id} {o : Op} {k : Int} (hk : manyO o < k) (h : ∀ j : Int, 1 ≤ j → j < k → isK l s o.pl j = true) : isC l s o = true := by
  unfold isC
  rw [List.all_eq_true]
  intro j hj
  have hj := List.mem_range.1 hj
  exact h ((j + 1 : Nat) : Int) (by omega) (by omega)

theorem isC_false {l : List Op} {s : Id} {o : Op} {k : Int} (h1 : 1 ≤ k) (hk : k ≤ manyO o) (h : isK l s o.pl k = false) : isC l s o = false := by
  unfold isC
  rw [List.all_eq_false]
  refine ⟨(k - 1).toNat, List.mem_range.2 (by omega), ?_⟩
  have e : (((k - 1).toNat + 1 : Nat) : Int) = k := by omega
  rw [e]
  intro h2
  unfold isK at h
  rw [h] at h2
  cases h2

theorem deep_may {p : List Run} (h : placeMay p = true) : 1 ≤ runsDeep p ∧ runsDeep p ≤ 4096 := by
  obtain ⟨p1, p2, p3, p4⟩ := placeMay_parts h
  have hp := may_pos h
  refine ⟨?_, p4⟩
  cases ho : p with
  | nil => rw [ho] at p1; simp at p1
  | cons x l =>
    rw [ho] at hp
    have := hp x (List.mem_cons_self ..)
    have := posM_deep (p := l) fun y hy => hp y (List.mem_cons_of_mem _ hy)
    rw [deep_cons]
    omega

theorem many_deep {o : Op} (h : placeMay o.pl = true) : 0 ≤ manyO o ∧ manyO o ≤ runsDeep o.pl ∧ runsDeep o.pl ≤ 4096 := by
  have := deep_may h
  unfold manyO
  split <;> omega

theorem in_step {q s : Id} {b : Bool} : (b && decide (q = s)) = (b && !neqId q s) := by unfold neqId; rw [Bool.not_not]

set_option maxRecDepth 100000 in
set_option maxHeartbeats 1000000 in
theorem refContent09 (x : Op) (A : Option Addr) (c : Nat) (w : World) :
    Calls Tryz.prog 83 #[.agg #[.int .u8 x.kind, .int .u32 x.id.t, .int .u8 x.id.r, .slice A x.pl.length c, .int .i64 x.pt]] w fun e w' => e = .returned (.bool (contentO x)) ∧ Bl w w' := by
  have hb : Bl w (w.alloc (.cells #[Value.int IntKind.u8 x.kind, Value.int IntKind.u32 x.id.t, Value.int IntKind.u8 x.id.r, Value.slice A x.pl.length c, Value.int IntKind.i64 x.pt] 47)) := (Bl.refl _).alloc _
  obtain ⟨B, hB⟩ : ∃ B, B = contentO x := ⟨_, rfl⟩
  rw [← hB]
  unfold contentO at hB
  by_cases h1 : x.kind = 1
  · rw [decide_eq_true h1, Bool.true_or] at hB
    subst hB
    go_enter Tryz.func83, Tryz.ntmps83
    go_wp2
    go_ret
    exact ⟨rfl, by simpa [h1] using hb⟩
  · rw [decide_eq_false h1, Bool.false_or] at hB
    have e1 : (x.kind == 1) = false := by simp [h1]
    obtain ⟨v, hv⟩ : ∃ v, (x.kind == 3) = v := ⟨_, rfl⟩
    have e2 : B = v := by rw [hB, ← hv]; by_cases h3 : x.kind = 3 <;> simp [h3]
    subst e2
    replace hB := hide hB
    replace h1 := hide h1
    go_enter Tryz.func83, Tryz.ntmps83
    go_wp2
    go_ret
    exact ⟨rfl, hb⟩

set_option maxRecDepth 100000 in
set_option maxHeartbeats 1000000 in
theorem refMany09 (x : Op) (A : Option Addr) (c : Nat) (w : World) (hx : OpIn w x A c) (hp : placeMay x.pl = true) :
    Calls Tryz.prog 197 #[.agg #[.int .u8 x.kind, .int .u32 x.id.t, .int .u8 x.id.r, .slice A x.pl.length c, .int .i64 x.pt]] w fun e w' => e = .returned (.int .i64 (manyO x)) ∧ Bl w w' := by
  obtain ⟨p1, p2, p3, p4⟩ := placeMay_parts hp
  have hmd := deep_may hp
  obtain ⟨n2, r2⟩ := any_runB (a := x.pl) (by unfold plAny; rw [hp, Bool.or_true]) hx.hR
  obtain ⟨W, hW⟩ : ∃ W, W = w.alloc (.cells #[Value.int IntKind.u8 x.kind, Value.int IntKind.u32 x.id.t, Value.int IntKind.u8 x.id.r, Value.slice A x.pl.length c, Value.int IntKind.i64 x.pt] 47) := ⟨_, rfl⟩
  have hbW : Bl w W := by rw [hW]; exact (Bl.refl _).alloc _
  have at0 : OpBox W w.heap.size x A c := by rw [hW]; exact OpBox.new w x A c _
  have hlong := hide (refLong06 A c x.pl W n2 (fun y hy => ⟨(r2 y hy).2.1, (r2 y hy).2.2.1⟩) (hx.hR.bl hbW))
  have hown := hide fun V => refOwn09 x A c V
  obtain ⟨N, hN⟩ : ∃ N, N = manyO x := ⟨_, rfl⟩
  rw [← hN]
  unfold manyO at hN
  generalize runsDeep x.pl = D at *
  obtain ⟨q, hq⟩ : ∃ q, (decide (x.kind = 1) || decide (x.kind = 2)) = q := ⟨_, rfl⟩
  rw [hq] at hown
  have e1 := hide (show q = true → D - 1 = N from fun h => by
    rw [h, Bool.or_eq_true, decide_eq_true_eq, decide_eq_true_eq] at hq
    rw [if_pos hq] at hN
    exact hN.symm)
  have e2 := hide (show q = false → D = N from fun h => by
    rw [h, Bool.or_eq_false_iff, decide_eq_false_iff_not, decide_eq_false_iff_not] at hq
    rw [if_neg (fun e => by rcases e with e | e; exact hq.1 e; exact hq.2 e)] at hN
    omega)
  clear hN hq n2 r2 p1 p2 p3 p4 hp
  go_enter Tryz.func197, Tryz.ntmps197
  go_wp2_with fail
  rw [← hW]
  clear hW
  refine hlong.out.mono ?_
  rintro e w1 ⟨rfl, hb1⟩
  obtain ⟨x0, x1, x2, x3, x4⟩ := (at0.bl hb1).cells
  have hxl := (at0.bl hb1).lt
  go_wp2_with fail
  refine (hown.out _).mono ?_
  rintro e w2 ⟨rfl, hb2⟩
  cases q
  · go_wp2_with fail
    go_ret
    exact ⟨ret_int (e2.out trivial), hbW.trans (hb1.trans hb2)⟩
  · go_wp2_with fail
    go_ret
    exact ⟨ret_int (e1.out trivial), hbW.trans (hb1.trans hb2)⟩

set_option maxRecDepth 100000 in
set_option maxHeartbeats 2000000 in
theorem refHead06 (A : Option Addr) (c : Nat) (p : List Run) (n : Int) (w : World) (hl : p.length ≤ 64) (hr : ∀ x ∈ p, runB x) (h0 : 0 ≤ n) (h1 : n ≤ 4096) (hA : R cRun 0 w A p) :
    Calls Tryz.prog 198 #[.slice A p.length c, .int .i64 n] w (NewA cRun (cutN p n) w) := by
  obtain ⟨i0, hi, hz0, hz1, hz2⟩ := info_parts Tryz.infoRun
  obtain ⟨L, hL⟩ : ∃ L, L = cutN p n := ⟨_, rfl⟩
  rw [← hL]
  have hL0 := hide (show L = [] ++ cutN (p.drop 0) n from hL)
  clear hL
  replace hr := hide hr
  go_enter Tryz.func198, Tryz.ntmps198
  go_wp2_with fail
  go_loopw [1, 5, 6] (fun m v i wr => Bl w wr ∧ ∃ (k : Nat) (n : Int) (out : List Run), k ≤ p.length ∧ i = .int .i64 k ∧ m = .int .i64 n ∧ 0 ≤ n ∧ n ≤ 4096 ∧ out.length ≤ k ∧ OwnA cRun 40 w.heap.size wr v out ∧ Hid (L = out ++ cutN (p.drop k) n)) (fun _ _ i _ => p.length - (intOf i).toNat)
  case atStart => exact ⟨Bl.refl _, 0, n, [], Nat.zero_le _, rfl, rfl, h0, h1, Nat.le_refl _, OwnA.nil, hL0.out⟩
  case round =>
    clear h0 h1 hL0
    obtain ⟨hbl, k, n, out, hk, rfl, rfl, h0, h1, hok, hown, hL⟩ := hrel
    by_cases hlt : k < p.length
    · have hki : (k : Int) < (p.length : Int) := by omega
      by_cases hn : 0 < n
      · obtain ⟨b, off, rfl, _, hb⟩ := hA.addr (by omega)
        obtain ⟨x, hx⟩ := get_lt hlt
        obtain ⟨_, hxo, c0, c1, c2⟩ := hA.run hx
        obtain ⟨x1, x2, x3, x4, x5, x6⟩ := hr.out x (List.mem_of_getElem? hx)
        have hcc := cut_cons (x := x) (l := p.drop (k + 1)) hn
        rw [← drop_cons hx] at hcc
        replace c0 := (hbl.cell hb).trans c0
        replace c1 := (hbl.cell hb).trans c1
        replace c2 := (hbl.cell hb).trans c2
        have hbr := Nat.lt_of_lt_of_le hb hbl.size
        have hsz := hbl.size
        by_cases hm : n < x.m
        · rw [if_pos hm] at hcc
          have hLn := hide (show L = (out ++ [⟨x.t, x.r, n⟩]) ++ cutN (p.drop (k + 1)) (n - n) by rw [hL.out, hcc, List.append_assoc]; rfl)
          have hm2 : decide (n < x.m) = true := decide_eq_true hm
          clear hcc hL hx
          have hyok : (⟨x.t, x.r, n⟩ : Run).ok := by
            obtain ⟨o0, o1, o2, o3, o4⟩ := hxo
            unfold Run.ok i64ok
            dsimp only
            omega
          have q1 : out.length + [(⟨x.t, x.r, n⟩ : Run)].length ≤ maxLen := by rw [List.length_singleton]; unfold maxLen; omega
          have q2 : (out.length + [(⟨x.t, x.r, n⟩ : Run)].length) * 16 ≤ 140737488355328 := by rw [List.length_singleton]; omega
          obtain ⟨V, hVe⟩ : ∃ V, V = wr.alloc (.cells #[Value.int IntKind.u32 x.t, Value.int IntKind.u8 x.r, Value.int IntKind.i64 n] 40) := ⟨_, rfl⟩
          have hV : Bl wr V := by rw [hVe]; exact (Bl.refl _).alloc _
          have hVs : V.heap.size = wr.heap.size + 1 := by rw [hVe, World.size_alloc]
          have hbV := hbl.trans hV
          have hown1 := hide ((hown.bl hV).bl ((Bl.refl V).alloc (.cells #[Value.int IntKind.u32 x.t, Value.int IntKind.u8 x.r, Value.int IntKind.i64 n] 40)))
          have hsrc := (hown.bl hV).src (t := 40) (x := (⟨x.t, x.r, n⟩ : Run)) (cs := [.int .u32 x.t, .int .u8 x.r, .int .i64 n]) hbV (Nat.le_refl _) ⟨hyok, rfl⟩
          rw [hVs] at hsrc
          replace hsrc := hide hsrc
          have q3 : 0 ≤ (V.alloc (.cells #[Value.int IntKind.u32 x.t, Value.int IntKind.u8 x.r, Value.int IntKind.i64 n] 40)).heap.size := Nat.zero_le _
          have q4 : w.heap.size ≤ (V.alloc (.cells #[Value.int IntKind.u32 x.t, Value.int IntKind.u8 x.r, Value.int IntKind.i64 n] 40)).heap.size := by rw [World.size_alloc]; omega
          have e4 : IntKind.i64.wrap (n - n) = n - n := IntWalk.i64_in _ (by omega)
          replace hVe := hide hVe
          clear hown hxo hyok
          go_wp2_with (at_builtin; refine Hid.out ?_)
          rw [← hVe.out]
          refine hide ?_
          refine wpList_append_any2 (C := cRun) (xs := out) (ys := [⟨x.t, x.r, n⟩]) rfl (.tmp 32) (.tmp 34) _ rfl 40 i0 _ 16 Tryz.underlying26 hi hz0 hz1 hz2 rfl u5 0 rfl hown1.out.1 (some ⟨wr.heap.size + 1, 0, none⟩) 1 1 rfl rfl hsrc.out q1 q2 q3 ?_
          intro v9 w9 hown9 hg9 hf9
          have hb9 := OwnA.app (hbV.alloc _) hown1.out (Nat.le_refl _) hg9
          have ho9 := hide (hown1.out.next q4 hown9 hf9)
          clear hown1 hsrc hown9 hg9 hf9 hVe
          go_wp2_with fail
          go_roundw
          case rel => exact ⟨hb9, k + 1, n - n, out ++ [⟨x.t, x.r, n⟩], by omega, by go_num, by first | rfl | (rw [Int.sub_self]), by omega, by omega, by rw [List.length_append, List.length_singleton]; omega, ho9.out, hLn⟩
          case measure => simp [intOf]; omega
        · rw [if_neg hm] at hcc
          have hLn := hide (show L = (out ++ [x]) ++ cutN (p.drop (k + 1)) (n - x.m) by rw [hL.out, hcc, List.append_assoc]; rfl)
          have hm2 : decide (n < x.m) = false := decide_eq_false hm
          clear hcc hL hx
          have hyok : (⟨x.t, x.r, x.m⟩ : Run).ok := by
            obtain ⟨o0, o1, o2, o3, o4⟩ := hxo
            unfold Run.ok i64ok
            dsimp only
            omega
          have q1 : out.length + [(⟨x.t, x.r, x.m⟩ : Run)].length ≤ maxLen := by rw [List.length_singleton]; unfold maxLen; omega
          have q2 : (out.length + [(⟨x.t, x.r, x.m⟩ : Run)].length) * 16 ≤ 140737488355328 := by rw [List.length_singleton]; omega
          obtain ⟨V, hVe⟩ : ∃ V, V = wr.alloc (.cells #[Value.int IntKind.u32 x.t, Value.int IntKind.u8 x.r, Value.int IntKind.i64 x.m] 40) := ⟨_, rfl⟩
          have hV : Bl wr V := by rw [hVe]; exact (Bl.refl _).alloc _
          have hVs : V.heap.size = wr.heap.size + 1 := by rw [hVe, World.size_alloc]
          have hbV := hbl.trans hV
          have hown1 := hide ((hown.bl hV).bl ((Bl.refl V).alloc (.cells #[Value.int IntKind.u32 x.t, Value.int IntKind.u8 x.r, Value.int IntKind.i64 x.m] 40)))
          have hsrc := (hown.bl hV).src (t := 40) (x := (⟨x.t, x.r, x.m⟩ : Run)) (cs := [.int .u32 x.t, .int .u8 x.r, .int .i64 x.m]) hbV (Nat.le_refl _) ⟨hyok, rfl⟩
          rw [hVs] at hsrc
          replace hsrc := hide hsrc
          have q3 : 0 ≤ (V.alloc (.cells #[Value.int IntKind.u32 x.t, Value.int IntKind.u8 x.r, Value.int IntKind.i64 x.m] 40)).heap.size := Nat.zero_le _
          have q4 : w.heap.size ≤ (V.alloc (.cells #[Value.int IntKind.u32 x.t, Value.int IntKind.u8 x.r, Value.int IntKind.i64 x.m] 40)).heap.size := by rw [World.size_alloc]; omega
          have e4 : IntKind.i64.wrap (n - x.m) = n - x.m := IntWalk.i64_in _ (by omega)
          replace hVe := hide hVe
          clear hown hxo hyok
          go_wp2_with (at_builtin; refine Hid.out ?_)
          rw [← hVe.out]
          refine hide ?_
          refine wpList_append_any2 (C := cRun) (xs := out) (ys := [⟨x.t, x.r, x.m⟩]) rfl (.tmp 32) (.tmp 34) _ rfl 40 i0 _ 16 Tryz.underlying26 hi hz0 hz1 hz2 rfl u5 0 rfl hown1.out.1 (some ⟨wr.heap.size + 1, 0, none⟩) 1 1 rfl rfl hsrc.out q1 q2 q3 ?_
          intro v9 w9 hown9 hg9 hf9
          have hb9 := OwnA.app (hbV.alloc _) hown1.out (Nat.le_refl _) hg9
          have ho9 := hide (hown1.out.next q4 hown9 hf9)
          clear hown1 hsrc hown9 hg9 hf9 hVe
          go_wp2_with fail
          go_roundw
          case rel => exact ⟨hb9, k + 1, n - x.m, out ++ [⟨x.t, x.r, x.m⟩], by omega, by go_num, by first | rfl | (rw [Int.sub_self]), by omega, by omega, by rw [List.length_append, List.length_singleton]; omega, ho9.out, hLn⟩
          case measure => simp [intOf]; omega
      · have hn2 : n ≤ 0 := by omega
        have e1 := hide (show L = out by rw [hL.out, cutN_zero _ hn2, List.append_nil])
        clear hL hn
        obtain ⟨X, xc, hvx, hX, y1, y2⟩ := hown.reads
        subst hvx
        clear hown
        go_wp2_with fail
        go_ret
        rw [e1.out]
        exact ⟨X, xc, rfl, y1, y2, hX, hbl⟩
    · have hkl : p.length ≤ k := by omega
      have e1 := hide (show L = out by rw [hL.out, List.drop_eq_nil_of_le hkl, cutN, List.append_nil])
      clear hL
      obtain ⟨X, xc, hvx, hX, y1, y2⟩ := hown.reads
      subst hvx
      have hki : ¬ (k : Int) < (p.length : Int) := by omega
      clear hown
      go_wp2_with fail
      go_ret
      rw [e1.out]
      exact ⟨X, xc, rfl, y1, y2, hX, hbl⟩

set_option maxRecDepth 100000 in
set_option maxHeartbeats 4000000 in
theorem refIn14 (A B : Option Addr) (c d : Nat) (l : List Op) (s : Id) (w : World) (hm : bagMay l = true) (hA : R cOp 0 w A l) (hB : R cOp 0 w B (livesF l)) :
    Calls Tryz.prog 155 #[.slice A l.length c, .slice B (livesF l).length d, .agg #[.int .u32 s.t, .int .u8 s.r]] w (NewA cOp (inL l s) w) := by
  obtain ⟨i0, hi, hz0, hz1, hz2⟩ := info_parts Tryz.infoOp
  have hl := (bagMay_parts hm).1
  have hpm := hide (bag_places hm)
  have hls := lives_small hm
  obtain ⟨L, hL⟩ : ∃ L, L = inL l s := ⟨_, rfl⟩
  rw [← hL]
  unfold inL at hL
  obtain ⟨W, hW⟩ : ∃ W, W = w.alloc (.cells #[Value.int IntKind.u32 s.t, Value.int IntKind.u8 s.r] 25) := ⟨_, rfl⟩
  have hbW : Bl w W := by rw [hW]; exact (Bl.refl _).alloc _
  have at0 : IdBox W w.heap.size s := by rw [hW]; exact IdBox.new w s _
  have hAW := hA.bl hbW
  have hhome := hide fun (x : Op) (S : Option Addr) (sc : Nat) (V : World) (hx : placeMay x.pl = true) (h1 : x.pl.length ≤ sc) (h2 : sc ≤ maxLen) (hv : Bl w V) (hS : R cRun 0 V S x.pl) =>
    refHome13 B S d sc (livesF l) x.pl V (by unfold maxLen; omega) (lives_places hm) (by unfold plAny; rw [hx, Bool.or_true]) h1 h2 (hB.bl hv) hS
  clear hls
  replace hL := hide hL
  go_enter Tryz.func155, Tryz.ntmps155
  go_wp2_with fail
  rw [← hW]
  clear hW
  go_loopw [7, 8] (fun v i wr => Bl W wr ∧ ∃ k : Nat, k ≤ l.length ∧ i = .int .i64 k ∧ OwnA cOp 47 W.heap.size wr v ((l.take k).filter fun o => contentO o && decide (homeF (livesF l) o.pl = s))) (fun _ i _ => l.length - (intOf i).toNat)
  case atStart => exact ⟨Bl.refl _, 0, Nat.zero_le _, rfl, OwnA.nil⟩
  case round =>
    obtain ⟨hbl, k, hk, rfl, hown⟩ := hrel
    by_cases hlt : k < l.length
    · obtain ⟨b, off, rfl, _, hb⟩ := hAW.addr (by omega)
      obtain ⟨x, hx⟩ := get_lt hlt
      obtain ⟨_, ho, S, sc, s1, s2, hS, c0, c1, c2, c3, c4⟩ := hAW.op hx
      have hki : (k : Int) < (l.length : Int) := by omega
      have hbw := hbW.trans hbl
      have hbr := Nat.lt_of_lt_of_le hb hbl.size
      have hsl := (at0.bl hbl).lt
      have C0 := fun p : Wd wr => Wd.cell ((hbl.cell hb).trans c0) hbr p
      have C1 := fun p : Wd wr => Wd.cell ((hbl.cell hb).trans c1) hbr p
      have C2 := fun p : Wd wr => Wd.cell ((hbl.cell hb).trans c2) hbr p
      have C3 := fun p : Wd wr => Wd.cell ((hbl.cell hb).trans c3) hbr p
      have C4 := fun p : Wd wr => Wd.cell ((hbl.cell hb).trans c4) hbr p
      have S0 := fun p : Wd wr => Wd.cell (at0.bl hbl).c0 hsl p
      have S1 := fun p : Wd wr => Wd.cell (at0.bl hbl).c1 hsl p
      have hfs := marked_take hx (fun o => contentO o && decide (homeF (livesF l) o.pl = s))
      have hFl : ((l.take k).filter fun o => contentO o && decide (homeF (livesF l) o.pl = s)).length ≤ l.length := Nat.le_trans (List.length_filter_le _ _) (by rw [List.length_take]; omega)
      rw [in_step] at hfs
      have hco := fun p : Wd wr => refContent09 x S sc p.v
      have hho := fun p : Wd wr => hhome.out x S sc p.v (hpm.out x (List.mem_of_getElem? hx)) s1 s2 (hbw.trans p.h) (hS.bl (hbl.trans p.h))
      have hrd : cOp.rd W (Fresh 0 W) x (opCells x S sc) := ⟨ho, S, sc, s1, s2, rfl, hS⟩
      have heq := run_eqId (homeF (livesF l) x.pl) s
      clear hx
      generalize homeF (livesF l) x.pl = q at *
      generalize ((l.take k).filter fun o => contentO o && decide (homeF (livesF l) o.pl = s)) = F at *
      cases hq : contentO x
      · rw [hq] at hco hfs
        replace hco := hide hco
        rw [Bool.false_and, if_neg (by decide)] at hfs
        replace hfs := hide hfs
        clear hho heq hrd
        go_wp2_with fail
        (refine wp_region_wd (by kernel_rfl) (by kernel_rfl) ?_
         repeat (go_big_quiet_step ((go_at_call 83; exact Calls.wd (hco.out _))))
         refine wpQuiet_nil ?_
         intro w2 hw'
         obtain ⟨⟨wx, hb2⟩, hw''⟩ := hw'
         subst hw'')
        go_wp2_with fail
        go_roundw
        case rel => exact ⟨hbl.trans hb2, k + 1, by omega, by go_num, by rw [hfs.out]; exact hown.bl hb2⟩
        case measure => simp [intOf]; omega
      · rw [hq] at hco hfs
        replace hco := hide hco
        replace hho := hide hho
        rw [Bool.true_and] at hfs
        cases hn : neqId q s
        · rw [hn] at heq hfs
          rw [if_pos (by decide)] at hfs
          replace hfs := hide hfs
          replace hown := hide hown
          go_wp2_with fail
          (refine wp_region_wd (by kernel_rfl) (by kernel_rfl) ?_
           repeat (go_big_quiet_step ((first | (go_at_call 83; exact Calls.wd (hco.out _)) | (go_at_call 47; exact Calls.wd (hho.out _)))))
           refine wpQuiet_nil ?_
           intro w2 hw'
           obtain ⟨⟨wx, hb2⟩, hw''⟩ := hw'
           subst hw'')
          clear hho heq
          have hbl2 := hbl.trans hb2
          have hb2l := Nat.lt_of_lt_of_le hb hbl2.size
          replace c0 := (hbl2.cell hb).trans c0
          replace c1 := (hbl2.cell hb).trans c1
          replace c2 := (hbl2.cell hb).trans c2
          replace c3 := (hbl2.cell hb).trans c3
          replace c4 := (hbl2.cell hb).trans c4
          have hown1 := (hown.out.bl hb2).bl ((Bl.refl w2).alloc (.cells (opCells x S sc).toArray 47))
          have hsrc := (hown.out.bl hb2).src (t := 47) hbl2 (Nat.le_refl _) hrd
          have q1 : F.length + [x].length ≤ maxLen := by rw [List.length_singleton]; unfold maxLen; omega
          have q2 : (F.length + [x].length) * 48 ≤ 140737488355328 := by rw [List.length_singleton]; omega
          have hWs := hbl2.size
          clear C0 C1 C2 C3 C4 S0 S1 hco
          go_wp2_with (at_builtin; refine Hid.out ?_)
          refine hide ?_
          refine wpList_append_any2 (C := cOp) (xs := F) (ys := [x]) rfl (.tmp 31) (.tmp 36) _ rfl 47 i0 _ 48 Tryz.underlying22 hi hz0 hz1 hz2 rfl u7 0 rfl hown1.1 (some ⟨w2.heap.size, 0, none⟩) 1 1 rfl rfl hsrc q1 q2 (Nat.zero_le _) ?_
          intro v9 w9 hown9 hg9 hf9
          have hb9 := OwnA.app (hbl2.alloc _) hown1 (Nat.le_refl _) hg9
          have ho9 := hown1.next (by rw [World.size_alloc]; omega) hown9 hf9
          clear hown hown1 hsrc hown9 hg9 hf9
          go_wp2_with fail
          go_roundw
          case rel => exact ⟨hb9, k + 1, by omega, by go_num, by rw [hfs.out]; exact ho9⟩
          case measure => simp [intOf]; omega
        · rw [hn] at heq hfs
          rw [if_neg (by decide)] at hfs
          replace hfs := hide hfs
          replace hown := hide hown
          go_wp2_with fail
          (refine wp_region_wd (by kernel_rfl) (by kernel_rfl) ?_
           repeat (go_big_quiet_step ((first | (go_at_call 83; exact Calls.wd (hco.out _)) | (go_at_call 47; exact Calls.wd (hho.out _)))))
           refine wpQuiet_nil ?_
           intro w2 hw'
           obtain ⟨⟨wx, hb2⟩, hw''⟩ := hw'
           subst hw'')
          go_wp2_with fail
          go_roundw
          case rel => exact ⟨hbl.trans hb2, k + 1, by omega, by go_num, by rw [hfs.out]; exact hown.out.bl hb2⟩
          case measure => simp [intOf]; omega
    · have hkl : l.length ≤ k := by omega
      rw [List.take_of_length_le hkl, ← hL.out] at hown
      obtain ⟨X, xc, hvx, hX, y1, y2⟩ := hown.reads
      subst hvx
      have hki : ¬ (k : Int) < (l.length : Int) := by omega
      clear hown
      go_wp2_with fail
      go_ret
      exact ⟨X, xc, rfl, y1, y2, hX, hbW.trans hbl⟩

set_option maxRecDepth 100000 in
set_option maxHeartbeats 4000000 in
theorem refIs14 (A B S : Option Addr) (c d sc : Nat) (l : List Op) (s : Id) (o : Op) (w : World) (hm : bagMay l = true) (hop : placeMay o.pl = true) (hA : R cOp 0 w A l) (hB : R cOp 0 w B (livesF l)) (ho : OpIn w o S sc) :
    Calls Tryz.prog 156 #[.slice A l.length c, .slice B (livesF l).length d, .agg #[.int .u32 s.t, .int .u8 s.r], .agg #[.int .u8 o.kind, .int .u32 o.id.t, .int .u8 o.id.r, .slice S o.pl.length sc, .int .i64 o.pt]] w fun e w' => e = .returned (.bool (isC l s o)) ∧ Bl w w' := by
  have hl := (bagMay_parts hm).1
  have hls := lives_small hm
  obtain ⟨m0, m1, m2⟩ := many_deep hop
  obtain ⟨n2, r2⟩ := any_runB (a := o.pl) (by unfold plAny; rw [hop, Bool.or_true]) ho.hR
  obtain ⟨T, hT⟩ : ∃ T, T = isC l s o := ⟨_, rfl⟩
  rw [← hT]
  obtain ⟨W, hW⟩ : ∃ W, W = (w.alloc (.cells #[Value.int IntKind.u32 s.t, Value.int IntKind.u8 s.r] 25)).alloc (.cells #[Value.int IntKind.u8 o.kind, Value.int IntKind.u32 o.id.t, Value.int IntKind.u8 o.id.r, Value.slice S o.pl.length sc, Value.int IntKind.i64 o.pt] 47) := ⟨_, rfl⟩
  have hbW : Bl w W := by rw [hW]; exact ((Bl.refl _).alloc _).alloc _
  have at0 : IdBox W w.heap.size s := by rw [hW]; exact (IdBox.new w s _).bl ((Bl.refl _).alloc _)
  have at1 : OpBox W (w.heap.size + 1) o S sc := by
    have h := OpBox.new (w.alloc (.cells #[Value.int IntKind.u32 s.t, Value.int IntKind.u8 s.r] 25)) o S sc 47
    rw [World.size_alloc w] at h
    rw [hW]
    exact h
  have hmany := hide fun V (hv : Bl w V) => refMany09 o S sc V (ho.bl hv) hop
  have hcut := hide fun (k : Int) V (hv : Bl w V) (h1 : 1 ≤ k) (h2 : k ≤ manyO o) => refHead06 S sc o.pl k V n2 r2 (by omega) (by omega) (ho.hR.bl hv)
  have hmc := hide fun (k : Int) (h1 : 1 ≤ k) (h2 : k ≤ manyO o) => may_cut hop h1 (show k ≤ runsDeep o.pl by omega)
  have hhome := hide fun (P : Option Addr) (pc : Nat) (p : List Run) V (hv : Bl w V) (hp : placeMay p = true) (h1 : p.length ≤ pc) (h2 : pc ≤ maxLen) (hP : R cRun 0 V P p) =>
    refHome13 B P d pc (livesF l) p V (by unfold maxLen; omega) (lives_places hm) (by unfold plAny; rw [hp, Bool.or_true]) h1 h2 (hB.bl hv) hP
  have hhas := hide fun (q : Id) V (hv : Bl w V) => refHas11 A c l q V (by unfold maxLen; omega) (hA.bl hv)
  have hyes := hide fun (k : Int) (hk : manyO o < k) (h : ∀ j : Int, 1 ≤ j → j < k → isK l s o.pl j = true) => (isC_true hk h).symm.trans hT.symm
  have hno := hide fun (k : Int) (h1 : 1 ≤ k) (h2 : k ≤ manyO o) (h : isK l s o.pl k = false) => (isC_false h1 h2 h).symm.trans hT.symm
  clear hT n2 r2 hls hl
  generalize hM : manyO o = M at *
  replace hM := hide hM
  go_enter Tryz.func156, Tryz.ntmps156
  go_wp2_with fail
  rw [← hW]
  clear hW
  go_loopw [9] (fun i wr => Bl W wr ∧ ∃ k : Int, 1 ≤ k ∧ k ≤ M + 1 ∧ i = .int .i64 k ∧ Hid (∀ j : Int, 1 ≤ j → j < k → isK l s o.pl j = true)) (fun i _ => (M + 1).toNat - (intOf i).toNat)
  case atStart => exact ⟨Bl.refl _, 1, by omega, by omega, rfl, fun j h1 h2 => by omega⟩
  case round =>
    obtain ⟨hbl, k, hk1, hk2, rfl, hf⟩ := hrel
    have hbw := hbW.trans hbl
    obtain ⟨x0, x1, x2, x3, x4⟩ := (at1.bl hbl).cells
    have hxl := (at1.bl hbl).lt
    go_wp2_with fail
    refine (hmany.out _ hbw).mono ?_
    rintro e w1 ⟨rfl, hb1⟩
    clear x0 x1 x2 x3 x4 hxl
    obtain ⟨x0, x1, x2, x3, x4⟩ := (at1.bl (hbl.trans hb1)).cells
    have hxl := (at1.bl (hbl.trans hb1)).lt
    by_cases hkm : k ≤ M
    · have hd : decide (k ≤ M) = true := decide_eq_true hkm
      go_wp2_with fail
      refine (hcut.out k _ (hbw.trans hb1) hk1 hkm).mono ?_
      rintro e w2 ⟨P, pc, rfl, p1, p2, hP, hb2⟩
      have hb02 := hbl.trans (hb1.trans hb2)
      have hbw2 := hbW.trans hb02
      have hpm := hmc.out k hk1 hkm
      have hn := hno.out k hk1 hkm
      have hstep := hide fun (h : isK l s o.pl k = true) => (show ∀ j : Int, 1 ≤ j → j < k + 1 → isK l s o.pl j = true from fun j h1 h2 => by
        by_cases e : j = k
        · rw [e]; exact h
        · exact hf.out j h1 (by omega))
      have hK : isK l s o.pl k = (!decide (homeF (livesF l) (cutN o.pl k) = s) || hasId l (placeFin (cutN o.pl k))) := rfl
      generalize cutN o.pl k = p at *
      have hho := fun v : Wd w2 => hhome.out P pc p v.v (hbw2.trans v.h) hpm p1 p2 (hP.bl v.h)
      have hfi := hide fun v : Wd w2 => refFinal06 P pc p v.v hpm (hP.bl v.h)
      have hha := fun v : Wd w2 => hhas.out (placeFin p) v.v (hbw2.trans v.h)
      have hsl := (at0.bl hb02).lt
      have S0 := fun v : Wd w2 => Wd.cell (at0.bl hb02).c0 hsl v
      have S1 := fun v : Wd w2 => Wd.cell (at0.bl hb02).c1 hsl v
      have heq := run_eqId (homeF (livesF l) p) s
      have hde : decide (homeF (livesF l) p = s) = !neqId (homeF (livesF l) p) s := by unfold neqId; rw [Bool.not_not]
      rw [hde, Bool.not_not] at hK
      clear x0 x1 x2 x3 x4 hxl hde
      generalize homeF (livesF l) p = q at *
      generalize placeFin p = fp at *
      cases hq : neqId q s
      · rw [hq] at heq hK
        rw [Bool.false_or] at hK
        cases hv : hasId l fp
        · rw [hv] at hha hK
          have g := hide (hn hK)
          replace hha := hide hha
          replace hho := hide hho
          clear hK hstep hn hf
          go_wp2_with fail
          (refine wp_region_wd (by kernel_rfl) (by kernel_rfl) ?_
           repeat (go_big_quiet_step ((first | (go_at_call 47; exact Calls.wd (hho.out _)) | (go_at_call 135; exact Calls.wd (hfi.out _)) | (go_at_call 84; exact Calls.wd (hha.out _)))))
           refine wpQuiet_nil ?_
           intro w3 hw'
           obtain ⟨⟨wx, hb3⟩, hw''⟩ := hw'
           subst hw'')
          go_wp2_with fail
          go_ret
          exact ⟨ret_bool g.out, hbw2.trans hb3⟩
        · rw [hv] at hha hK
          have g := hide (hstep.out hK)
          replace hha := hide hha
          replace hho := hide hho
          clear hK hstep hn hf
          go_wp2_with fail
          (refine wp_region_wd (by kernel_rfl) (by kernel_rfl) ?_
           repeat (go_big_quiet_step ((first | (go_at_call 47; exact Calls.wd (hho.out _)) | (go_at_call 135; exact Calls.wd (hfi.out _)) | (go_at_call 84; exact Calls.wd (hha.out _)))))
           refine wpQuiet_nil ?_
           intro w3 hw'
           obtain ⟨⟨wx, hb3⟩, hw''⟩ := hw'
           subst hw'')
          go_wp2_with fail
          go_roundw
          case rel => exact ⟨hb02.trans hb3, k + 1, by omega, by omega, by go_num, g.out⟩
          case measure => simp [intOf]; omega
      · rw [hq] at heq hK
        rw [Bool.true_or] at hK
        have g := hide (hstep.out hK)
        replace hho := hide hho
        clear hK hstep hn hf hha
        go_wp2_with fail
        (refine wp_region_wd (by kernel_rfl) (by kernel_rfl) ?_
         repeat (go_big_quiet_step ((go_at_call 47; exact Calls.wd (hho.out _))))
         refine wpQuiet_nil ?_
         intro w3 hw'
         obtain ⟨⟨wx, hb3⟩, hw''⟩ := hw'
         subst hw'')
        go_wp2_with fail
        go_roundw
        case rel => exact ⟨hb02.trans hb3, k + 1, by omega, by omega, by go_num, g.out⟩
        case measure => simp [intOf]; omega
    · have hd : decide (k ≤ M) = false := decide_eq_false hkm
      have g := hide (hyes.out k (by omega) hf.out)
      go_wp2_with fail
      go_ret
      exact ⟨ret_bool g.out, hbw.trans hb1⟩

set_option maxRecDepth 100000 in
set_option maxHeartbeats 4000000 in
theorem refCounting14 (A B : Option Addr) (c d : Nat) (l : List Op) (s : Id) (w : World) (hm : bagMay l = true) (hA : R cOp 0 w A l) (hB : R cOp 0 w B (livesF l)) :
    Calls Tryz.prog 107 #[.slice A l.length c, .slice B (livesF l).length d, .agg #[.int .u32 s.t, .int .u8 s.r]] w (NewA cOp (countL l s) w) := by
  obtain ⟨i0, hi, hz0, hz1, hz2⟩ := info_parts Tryz.infoOp
  have hl := (bagMay_parts hm).1
  obtain ⟨L, hL⟩ : ∃ L, L = countL l s := ⟨_, rfl⟩
  rw [← hL]
  unfold countL at hL
  obtain ⟨W, hW⟩ : ∃ W, W = w.alloc (.cells #[Value.int IntKind.u32 s.t, Value.int IntKind.u8 s.r] 25) := ⟨_, rfl⟩
  have hbW : Bl w W := by rw [hW]; exact (Bl.refl _).alloc _
  have at0 : IdBox W w.heap.size s := by rw [hW]; exact IdBox.new w s _
  have hin := hide (refIn14 A B c d l s W hm (hA.bl hbW) (hB.bl hbW))
  have his := hide fun (x : Op) (S : Option Addr) (sc : Nat) V (hv : Bl w V) (hx : placeMay x.pl = true) (ho : OpIn V x S sc) => refIs14 A B S c d sc l s x V hm hx (hA.bl hv) (hB.bl hv) ho
  have hpm := hide (show ∀ x ∈ inL l s, placeMay x.pl = true from fun x hx => bag_places hm x (List.mem_filter.1 hx).1)
  have hlen : (inL l s).length ≤ 1024 := Nat.le_trans (List.length_filter_le _ _) hl
  clear hm
  generalize inL l s = G at *
  replace hL := hide hL
  go_enter Tryz.func107, Tryz.ntmps107
  go_wp2_with fail
  rw [← hW]
  clear hW
  refine hin.out.mono ?_
  rintro e w1 ⟨X, xc, rfl, y1, y2, hX, hb1⟩
  have hbw1 := hbW.trans hb1
  replace at0 := at0.bl hb1
  clear hin
  go_wp2_with fail
  go_loopw [7, 9] (fun v i wr => Bl w1 wr ∧ ∃ k : Nat, k ≤ G.length ∧ i = .int .i64 k ∧ OwnA cOp 47 w1.heap.size wr v ((G.take k).filter (isC l s))) (fun _ i _ => G.length - (intOf i).toNat)
  case atStart => exact ⟨Bl.refl _, 0, Nat.zero_le _, rfl, OwnA.nil⟩
  case round =>
    obtain ⟨hbl, k, hk, rfl, hown⟩ := hrel
    by_cases hlt : k < G.length
    · obtain ⟨b, off, rfl, _, hb⟩ := hX.addr (by omega)
      obtain ⟨x, hx⟩ := get_lt hlt
      obtain ⟨_, ho, S, sc, s1, s2, hS, c0, c1, c2, c3, c4⟩ := hX.op hx
      have hki : (k : Int) < (G.length : Int) := by omega
      have hbw := hbw1.trans hbl
      have hbr := Nat.lt_of_lt_of_le hb hbl.size
      have hsl := (at0.bl hbl).lt
      have C0 := fun p : Wd wr => Wd.cell ((hbl.cell hb).trans c0) hbr p
      have C1 := fun p : Wd wr => Wd.cell ((hbl.cell hb).trans c1) hbr p
      have C2 := fun p : Wd wr => Wd.cell ((hbl.cell hb).trans c2) hbr p
      have C3 := fun p : Wd wr => Wd.cell ((hbl.cell hb).trans c3) hbr p
      have C4 := fun p : Wd wr => Wd.cell ((hbl.cell hb).trans c4) hbr p
      have S0 := fun p : Wd wr => Wd.cell (at0.bl hbl).c0 hsl p
      have S1 := fun p : Wd wr => Wd.cell (at0.bl hbl).c1 hsl p
      have hfs := marked_take hx (isC l s)
      have hFl : ((G.take k).filter (isC l s)).length ≤ G.length := Nat.le_trans (List.length_filter_le _ _) (by rw [List.length_take]; omega)
      have hco := fun p : Wd wr => his.out x S sc p.v (hbw.trans p.h) (hpm.out x (List.mem_of_getElem? hx)) ⟨ho, s1, s2, hS.bl (hbl.trans p.h)⟩
      have hrd : cOp.rd w1 (Fresh 0 w1) x (opCells x S sc) := ⟨ho, S, sc, s1, s2, rfl, hS⟩
      clear hx
      generalize ((G.take k).filter (isC l s)) = F at *
      cases hq : isC l s x
      · rw [hq] at hco hfs
        replace hco := hide hco
        rw [if_neg (by decide)] at hfs
        replace hfs := hide hfs
        replace hown := hide hown
        go_wp2_with fail
        (refine wp_region_wd (by kernel_rfl) (by kernel_rfl) ?_
         repeat (go_big_quiet_step ((go_at_call 156; exact Calls.wd (hco.out _))))
         refine wpQuiet_nil ?_
         intro w2 hw'
         obtain ⟨⟨wx, hb2⟩, hw''⟩ := hw'
         subst hw'')
        go_wp2_with fail
        go_roundw
        case rel => exact ⟨hbl.trans hb2, k + 1, by omega, by go_num, by rw [hfs.out]; exact hown.out.bl hb2⟩
        case measure => simp [intOf]; omega
      · rw [hq] at hco hfs
        replace hco := hide hco
        rw [if_pos (by decide)] at hfs
        replace hfs := hide hfs
        replace hown := hide hown
        go_wp2_with fail
        (refine wp_region_wd (by kernel_rfl) (by kernel_rfl) ?_
         repeat (go_big_quiet_step ((go_at_call 156; exact Calls.wd (hco.out _))))
         refine wpQuiet_nil ?_
         intro w2 hw'
         obtain ⟨⟨wx, hb2⟩, hw''⟩ := hw'
         subst hw'')
        have hbl2 := hbl.trans hb2
        have hb2l := Nat.lt_of_lt_of_le hb hbl2.size
        replace c0 := (hbl2.cell hb).trans c0
        replace c1 := (hbl2.cell hb).trans c1
        replace c2 := (hbl2.cell hb).trans c2
        replace c3 := (hbl2.cell hb).trans c3
        replace c4 := (hbl2.cell hb).trans c4
        have hown1 := (hown.out.bl hb2).bl ((Bl.refl w2).alloc (.cells (opCells x S sc).toArray 47))
        have hsrc := (hown.out.bl hb2).src (t := 47) hbl2 (Nat.le_refl _) hrd
        have q1 : F.length + [x].length ≤ maxLen := by rw [List.length_singleton]; unfold maxLen; omega
        have q2 : (F.length + [x].length) * 48 ≤ 140737488355328 := by rw [List.length_singleton]; omega
        have hWs := hbl2.size
        clear C0 C1 C2 C3 C4 S0 S1 hco
        go_wp2_with (at_builtin; refine Hid.out ?_)
        refine hide ?_
        refine wpList_append_any2 (C := cOp) (xs := F) (ys := [x]) rfl (.tmp 28) (.tmp 33) _ rfl 47 i0 _ 48 Tryz.underlying22 hi hz0 hz1 hz2 rfl u7 0 rfl hown1.1 (some ⟨w2.heap.size, 0, none⟩) 1 1 rfl rfl hsrc q1 q2 (Nat.zero_le _) ?_
        intro v9 w9 hown9 hg9 hf9
        have hb9 := OwnA.app (hbl2.alloc _) hown1 (Nat.le_refl _) hg9
        have ho9 := hown1.next (by rw [World.size_alloc]; omega) hown9 hf9
        clear hown hown1 hsrc hown9 hg9 hf9
        go_wp2_with fail
        go_roundw
        case rel => exact ⟨hb9, k + 1, by omega, by go_num, by rw [hfs.out]; exact ho9⟩
        case measure => simp [intOf]; omega
    · have hkl : G.length ≤ k := by omega
      rw [List.take_of_length_le hkl, ← hL.out] at hown
      obtain ⟨Y, yc, hvx, hY, z1, z2⟩ := hown.reads
      subst hvx
      have hki : ¬ (k : Int) < (G.length : Int) := by omega
      clear hown
      go_wp2_with fail
      go_ret
      exact ⟨Y, yc, rfl, z1, z2, hY, hbw1.trans hbl⟩

end Go.Proofs.YteoodmilcpmmpaaGreat
