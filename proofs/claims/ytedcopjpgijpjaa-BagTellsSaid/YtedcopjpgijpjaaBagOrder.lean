/-
  The walk of BagOrder.
-/
import Derived.Test.YtedcopjpgijpjaaBagAlive
import Derived.Test.YtedcopjpgijpjaaOwnA
namespace Go.Proofs.Ytedcopjpgijpjaa
open Go.RowKit

theorem R.rdOp {w : World} {b off k : Nat} {l : List Op} {x : Op} {lo : Nat} (h : R cOp lo w (some ⟨b, off, none⟩) l) (hk : l[k]? = some x) :
    ∃ A c, cOp.rd w (Fresh lo w) x (opCells x A c) ∧ w.cell? ⟨b, off + k * 5, none⟩ = some (.int .u8 x.kind) ∧ w.cell? ⟨b, off + k * 5 + 1, none⟩ = some (.int .u32 x.id.t) ∧ w.cell? ⟨b, off + k * 5 + 2, none⟩ = some (.int .u8 x.id.r) ∧
      w.cell? ⟨b, off + k * 5 + 3, none⟩ = some (.slice A x.pl.length c) ∧ w.cell? ⟨b, off + k * 5 + 4, none⟩ = some (.int .i64 x.pt) := by
  obtain ⟨_, ho, A, c, a1, a2, hr, c0, c1, c2, c3, c4⟩ := h.op hk
  exact ⟨A, c, ⟨ho, A, c, a1, a2, rfl, hr⟩, c0, c1, c2, c3, c4⟩
theorem R.pre {α : Type} {C : Codec α} {lo : Nat} {w : World} {A : Option Addr} {xs : List α} (h : R C lo w A xs) (n : Nat) : R C lo w A (xs.take n) := by
  obtain ⟨cells, hr, hs⟩ := h
  rw [← List.take_append_drop n xs] at hr
  obtain ⟨a, b, rfl, ha, hb⟩ := hr.split
  refine ⟨a, ha, fun hne => ?_⟩
  obtain ⟨bl, off, e, hS, hat⟩ := hs (by simp [hne])
  exact ⟨bl, off, e, hS, hat.left⟩
theorem R.head {w : World} {blk off n : Nat} {l : List Op} (hB : R cOp 0 w (some ⟨blk, off, none⟩) l) : R cOp 0 w (some ⟨blk, off, none⟩) (l.take n) := by
  have := hB.sub 0 n
  rw [List.drop_zero, Option.map_some] at this
  simpa [Addr.add] using this
theorem R.tail {w : World} {A : Option Addr} {n c : Nat} {l : List Op} (hB : R cOp 0 w A l) (hc : l.length ≤ c) : R cOp 0 w (if c = n then A else A.map fun x => x.add (n * 5)) (l.drop n) := by
  by_cases h : c = n
  · rw [List.drop_eq_nil_of_le (by omega)]
    exact R.nil
  · rw [if_neg h]
    have := hB.sub n (l.length - n)
    rw [List.take_of_length_le (by rw [List.length_drop]; exact Nat.le_refl _)] at this
    exact this
theorem rev_step {l : List Op} {i : Nat} {x : Op} (h : l[i]? = some x) : l.reverse.take (l.length - i) = l.reverse.take (l.length - (i + 1)) ++ [x] := by
  have hi := (List.getElem?_eq_some_iff.1 h).1
  rw [show l.length - i = (l.length - (i + 1)) + 1 by omega]
  refine take_snoc ?_
  rw [List.getElem?_reverse (by omega), show l.length - 1 - (l.length - (i + 1)) = i by omega]
  exact h

set_option maxRecDepth 100000 in
set_option maxHeartbeats 4000000 in
theorem lawBagOrder11 (A : Option Addr) (c : Nat) (l : List Op) (many : Int) (w : World) (hl : l.length ≤ 140737488355328) (hlc : l.length ≤ c) (_hcm : c ≤ maxLen) (hA : R cOp 0 w A l) (hmi : i64ok many) :
    Calls Try.prog 3 #[.slice A l.length c, .int .i64 many] w fun e w' => e = .returned (.bool true) ∧ Bl w w' := by
  obtain ⟨i0, hi, hz0, hz1, hz2⟩ := info_parts Try.infoOp
  obtain ⟨m0, m1⟩ := hmi
  have hlm : l.length ≤ maxLen := by unfold maxLen; omega
  have hgr := hide (fun W (hb : Bl w W) => refGreat10 A c l 40 W hl (hA.bl hb))
  have hun := hide (fun W (hb : Bl w W) => lawUnlike11 A c l W hlm (hA.bl hb))
  go_enter Try.func3, Try.ntmps3
  go_wp2_with fail
  refine (lawAlive11 _).mono ?_
  rintro e w1 ⟨rfl, hb1⟩
  go_wp2_with fail
  refine (hgr.out _ hb1).mono ?_
  rintro e w2 ⟨bg, rfl, hfew, hb2⟩
  have hb02 := hb1.trans hb2
  cases bg
  rotate_left
  · go_wp2_with fail
    go_ret
    exact ⟨rfl, hb02⟩
  replace hfew := hfew rfl
  obtain ⟨hl40, -⟩ := hfew
  have hl40 : l.length ≤ 40 := by omega
  go_wp2_with fail
  refine (hun.out _ hb02).mono ?_
  rintro e w3 ⟨bu, rfl, hnu, hb3⟩
  have hb03 := hb02.trans hb3
  cases bu
  rotate_left
  · go_wp2_with fail
    go_ret
    exact ⟨rfl, hb03⟩
  replace hnu := hide (not_unlike (hnu rfl))
  by_cases hm0 : many < 0
  · clear hnu
    go_wp2_with fail
    go_ret
    exact ⟨rfl, hb03⟩
  by_cases hm1 : (l.length : Int) < many
  · clear hnu
    go_wp2_with fail
    go_ret
    exact ⟨rfl, hb03⟩
  obtain ⟨n, rfl⟩ := Int.eq_ofNat_of_zero_le (show 0 ≤ many by omega)
  have hnl : n ≤ l.length := by omega
  have hni : (n : Int) ≤ (l.length : Int) := by omega
  have hput := fun W (hb : Bl w W) => lawPut11 none A 0 c [] l W (Nat.le_refl _) (Nat.zero_le _) (by simp; omega) R.nil (hA.bl hb)
  cases hok : putOk [] l
  · rw [hok] at hput
    replace hput := hide hput
    clear hok
    go_wp2_with fail
    refine (hput.out _ hb03).mono ?_
    rintro e w4 ⟨A4, c4, rfl, -, -, -, hb4⟩
    go_wp2_with fail
    go_ret
    exact ⟨rfl, hb03.trans hb4⟩
  have hlaw := hide (order_law (n := n) hl40 hnu.out hok)
  rw [hok] at hput
  generalize putL [] l = S at hput hlaw
  replace hput := hide hput
  clear hok hgr hun hnu
  go_wp2_with fail
  refine (hput.out _ hb03).mono ?_
  rintro e w4 ⟨A4, c4, rfl, h41, h42, hr4, hb4⟩
  have hb04 := hb03.trans hb4
  go_wp2_with fail
  have hlen1 : (l.length : Int) ≤ 40 := by omega
  go_loopw [8, 9] (fun v iv wr => Bl w4 wr ∧ ∃ k : Nat, k ≤ l.length ∧ iv = .int .i64 ((k : Int) - 1) ∧ OwnA cOp 33 w4.heap.size wr v (l.reverse.take (l.length - k))) (fun _ iv _ => (intOf iv + 1).toNat)
  case atStart => exact ⟨Bl.refl _, l.length, Nat.le_refl _, rfl, by rw [Nat.sub_self, List.take_zero]; exact OwnA.nil⟩
  case round =>
    obtain ⟨hbl, k, hk, rfl, hown⟩ := hrel
    have hbw := hb04.trans hbl
    cases k with
    | succ j =>
      obtain ⟨b, off, rfl, _, hbb⟩ := hA.addr (by omega)
      obtain ⟨x, hx⟩ := get_lt (show j < l.length by omega)
      obtain ⟨S1, sc, hrd, c0, c1, c2, c3, c4⟩ := hA.rdOp hx
      have hrev := hide (rev_step hx)
      have hFl : (l.reverse.take (l.length - (j + 1))).length ≤ 40 := by rw [List.length_take, List.length_reverse]; omega
      clear hx
      replace c0 := (hbw.cell hbb).trans c0
      replace c1 := (hbw.cell hbb).trans c1
      replace c2 := (hbw.cell hbb).trans c2
      replace c3 := (hbw.cell hbb).trans c3
      replace c4 := (hbw.cell hbb).trans c4
      have hbz := Nat.lt_of_lt_of_le hbb hbw.size
      have hji : ((j + 1 : Nat) : Int) - 1 = (j : Int) := by omega
      have hjl : (j : Int) < (l.length : Int) := by omega
      have hj0 : (0 : Int) ≤ (j : Int) := by omega
      rw [hji]
      clear hji
      have hown1 := hown.bl ((Bl.refl wr).alloc (.cells (opCells x S1 sc).toArray 33))
      have hsrc := hown.src (t := 33) hbw hb04.size hrd
      generalize l.reverse.take (l.length - (j + 1)) = F at *
      have q1 : F.length + [x].length ≤ maxLen := by simp [maxLen]; omega
      have q2 : (F.length + [x].length) * 48 ≤ 140737488355328 := by simp; omega
      have hWs := hbl.size
      go_wp2_with (at_builtin; refine Hid.out ?_)
      refine hide ?_
      refine wpList_append_any2 (C := cOp) (xs := F) (ys := [x]) rfl (.tmp 56) (.tmp 61) _ rfl 33 i0 _ 48 Try.underlying22 hi hz0 hz1 hz2 rfl u8 0 rfl hown1.1 (some ⟨wr.heap.size, 0, none⟩) 1 1 rfl rfl hsrc q1 q2 (Nat.zero_le _) ?_
      intro v9 w9 hown9 hg9 hf9
      have hb9 : Bl w4 w9 := OwnA.app (hbl.alloc _) hown1 (Nat.le_refl _) hg9
      have ho9 := hown1.next (by rw [World.size_alloc]; omega) hown9 hf9
      clear hown hown1 hsrc hown9 hg9 hf9
      go_wp2_with fail
      go_roundw
      case rel => exact ⟨hb9, j, by omega, by go_num, by rw [hrev.out]; exact ho9⟩
      case measure => simp [intOf]
    | zero =>
      rw [Nat.sub_zero, List.take_of_length_le (by rw [List.length_reverse]; exact Nat.le_refl _)] at hown
      obtain ⟨A5, c5, rfl, hr5, h51, h52⟩ := hown.reads
      obtain ⟨r1, r2, r3, r4, r5, r6, r7⟩ := hlaw.out
      have hp2 := fun W (hb : Bl wr W) => lawPut11 none A5 0 c5 [] l.reverse W (Nat.le_refl _) (Nat.zero_le _) (by simp; omega) R.nil (hr5.bl hb)
      rw [r1, List.length_reverse] at hp2
      rw [List.length_reverse] at h51
      rw [List.length_reverse]
      generalize putL [] l.reverse = S2 at hp2 r2
      replace hp2 := hide hp2
      have hp3 := hide (fun (m : List Op) (A7 : Option Addr) (c7 k : Nat) (hk : m.length = k) (hk40 : m.length ≤ 40) (W : World) (hR : R cOp 0 W A7 m) => (show Calls Try.prog 12 #[.slice none 0 0, .slice A7 k c7] W (PutP (putL [] m) (putOk [] m) W) from by
        rw [← hk]
        exact lawPut11 none A7 0 c7 [] m W (Nat.le_refl _) (Nat.zero_le _) (by simp; omega) R.nil hR))
      have hb05 := hb04.trans hbl
      go_wp2_with fail
      refine (hp2.out _ (Bl.refl _)).mono ?_
      rintro e w5 ⟨A6, c6, rfl, h61, h62, hr6, hb5⟩
      have hb0z := hb05.trans hb5
      have htl : (l.take n).length = n := by rw [List.length_take]; omega
      have hdl : (l.drop n).length = l.length - n := List.length_drop
      have hR1 := hide (R.pre hA n)
      have hR2 := R.tail (n := n) hA hlc
      obtain ⟨T1, hT1⟩ : ∃ T1, T1 = putL [] (l.take n) := ⟨_, rfl⟩
      obtain ⟨T2, hT2⟩ : ∃ T2, T2 = putL [] (l.drop n) := ⟨_, rfl⟩
      have hd1 := hide (fun (A7 : Option Addr) (c7 : Nat) (W : World) (hR : R cOp 0 W A7 (l.take n)) => (show Calls Try.prog 12 #[.slice none 0 0, .slice A7 n c7] W (PutP T1 (putOk [] (l.take n)) W) from by
        rw [hT1]
        exact hp3.out (l.take n) A7 c7 n htl (by omega) W hR))
      have hd2 := hide (fun (A7 : Option Addr) (c7 : Nat) (W : World) (hR : R cOp 0 W A7 (l.drop n)) => (show Calls Try.prog 12 #[.slice none 0 0, .slice A7 (l.length - n) c7] W (PutP T2 (putOk [] (l.drop n)) W) from by
        rw [hT2]
        exact hp3.out (l.drop n) A7 c7 (l.length - n) hdl (by omega) W hR))
      rw [← hT1, ← hT2] at r3 r4 r5 r6
      obtain ⟨J1, hJ1⟩ : ∃ J1, J1 = joinL T1 T2 := ⟨_, rfl⟩
      obtain ⟨J2, hJ2⟩ : ∃ J2, J2 = joinL T2 T1 := ⟨_, rfl⟩
      rw [← hJ1] at r5
      rw [← hJ2] at r6
      have hj1 := hide (show joinN T1 T2 = 0 from r3)
      have hj2 := hide (show joinN T2 T1 = 0 from r4)
      have hs1 := hide r2
      have hs2 := hide r5
      have hs3 := hide r6
      have hs4 := hide r7
      have hJ1' := hide hJ1
      have hJ2' := hide hJ2
      generalize putOk [] (l.take n) = k1 at hd1
      generalize putOk [] (l.drop n) = k2 at hd2
      have hnc : (n : Int) ≤ (c : Int) := by omega
      have hn0 : (0 : Int) ≤ (n : Int) := by omega
      clear hown hlaw r1 r2 r3 r4 r5 r6 r7 hbw hm0 hm1 hk hl40 hT1 hT2 hJ1 hJ2 htl hdl hp3 hp2
      by_cases hcn : c = n
      · rw [if_pos hcn] at hR2
        replace hR2 := hide hR2
        subst hcn
        rw [show l.length - c = 0 by omega] at hd2
        go_wp2_with fail
        refine (hd1.out A c _ (hR1.out.bl hb0z)).mono ?_
        rintro e w6 ⟨A7, c7, rfl, h71, h72, hr7, hb6⟩
        go_wp2_with fail
        refine (hd2.out A 0 _ (R.bl (by first | exact hR2.out | exact R.nil) (hb0z.trans hb6))).mono ?_
        rintro e w7 ⟨A9, c9, rfl, h91, h92, hr9, hb7⟩
        go_wp2_with fail
        refine (bagJoin A7 A9 c7 c9 T1 T2 _ h71 h72 h91 h92 (hr7.bl hb7) hr9).mono ?_
        rintro e w8 ⟨A10, c10, rfl, h101, h102, hr10, hb8⟩
        rw [hj1.out, ← hJ1'.out]
        rw [← hJ1'.out] at h101 hr10
        go_wp2_with fail
        refine (bagJoin A9 A7 c9 c7 T2 T1 _ h91 h92 h71 h72 (hr9.bl hb8) (hr7.bl (hb7.trans hb8))).mono ?_
        rintro e w9 ⟨A11, c11, rfl, h111, h112, hr11, hb9⟩
        rw [hj2.out, ← hJ2'.out]
        rw [← hJ2'.out] at h111 hr11
        have hb49 : Bl w4 w9 := ((hbl.trans hb5).trans (hb6.trans hb7)).trans (hb8.trans hb9)
        have hb59 : Bl w5 w9 := (hb6.trans hb7).trans (hb8.trans hb9)
        go_wp2_with fail
        refine (bagSame A4 A6 c4 c6 S S2 _ (Nat.le_trans h41 h42) (Nat.le_trans h61 h62) (hr4.bl hb49) (hr6.bl hb59)).mono ?_
        rintro e w10 ⟨rfl, hb10⟩
        rw [hs1.out]
        go_wp2_with fail
        refine (bagSame A4 A10 c4 c10 S J1 _ (Nat.le_trans h41 h42) (Nat.le_trans h101 h102) (hr4.bl (hb49.trans hb10)) (hr10.zero.bl (hb9.trans hb10))).mono ?_
        rintro e w11 ⟨rfl, hb11⟩
        rw [hs2.out]
        go_wp2_with fail
        refine (bagSame A4 A11 c4 c11 S J2 _ (Nat.le_trans h41 h42) (Nat.le_trans h111 h112) (hr4.bl (hb49.trans (hb10.trans hb11))) (hr11.zero.bl (hb10.trans hb11))).mono ?_
        rintro e w12 ⟨rfl, hb12⟩
        rw [hs3.out]
        go_wp2_with fail
        refine (bagCheck A4 c4 S _ (Nat.le_trans h41 h42) (hr4.bl ((hb49.trans (hb10.trans hb11)).trans hb12))).mono ?_
        rintro e w13 ⟨rfl, hb13⟩
        rw [hs4.out, okOr_true]
        go_wp2_with fail
        go_ret
        exact ⟨rfl, hb04.trans (((hb49.trans (hb10.trans hb11)).trans hb12).trans hb13)⟩
      · rw [if_neg hcn] at hR2
        replace hR2 := hide hR2
        go_wp2_with fail
        refine (hd1.out A c _ (hR1.out.bl hb0z)).mono ?_
        rintro e w6 ⟨A7, c7, rfl, h71, h72, hr7, hb6⟩
        go_wp2_with fail
        refine (hd2.out _ (c - n) _ (R.bl (by first | exact hR2.out | exact R.nil) (hb0z.trans hb6))).mono ?_
        rintro e w7 ⟨A9, c9, rfl, h91, h92, hr9, hb7⟩
        go_wp2_with fail
        refine (bagJoin A7 A9 c7 c9 T1 T2 _ h71 h72 h91 h92 (hr7.bl hb7) hr9).mono ?_
        rintro e w8 ⟨A10, c10, rfl, h101, h102, hr10, hb8⟩
        rw [hj1.out, ← hJ1'.out]
        rw [← hJ1'.out] at h101 hr10
        go_wp2_with fail
        refine (bagJoin A9 A7 c9 c7 T2 T1 _ h91 h92 h71 h72 (hr9.bl hb8) (hr7.bl (hb7.trans hb8))).mono ?_
        rintro e w9 ⟨A11, c11, rfl, h111, h112, hr11, hb9⟩
        rw [hj2.out, ← hJ2'.out]
        rw [← hJ2'.out] at h111 hr11
        have hb49 : Bl w4 w9 := ((hbl.trans hb5).trans (hb6.trans hb7)).trans (hb8.trans hb9)
        have hb59 : Bl w5 w9 := (hb6.trans hb7).trans (hb8.trans hb9)
        go_wp2_with fail
        refine (bagSame A4 A6 c4 c6 S S2 _ (Nat.le_trans h41 h42) (Nat.le_trans h61 h62) (hr4.bl hb49) (hr6.bl hb59)).mono ?_
        rintro e w10 ⟨rfl, hb10⟩
        rw [hs1.out]
        go_wp2_with fail
        refine (bagSame A4 A10 c4 c10 S J1 _ (Nat.le_trans h41 h42) (Nat.le_trans h101 h102) (hr4.bl (hb49.trans hb10)) (hr10.zero.bl (hb9.trans hb10))).mono ?_
        rintro e w11 ⟨rfl, hb11⟩
        rw [hs2.out]
        go_wp2_with fail
        refine (bagSame A4 A11 c4 c11 S J2 _ (Nat.le_trans h41 h42) (Nat.le_trans h111 h112) (hr4.bl (hb49.trans (hb10.trans hb11))) (hr11.zero.bl (hb10.trans hb11))).mono ?_
        rintro e w12 ⟨rfl, hb12⟩
        rw [hs3.out]
        go_wp2_with fail
        refine (bagCheck A4 c4 S _ (Nat.le_trans h41 h42) (hr4.bl ((hb49.trans (hb10.trans hb11)).trans hb12))).mono ?_
        rintro e w13 ⟨rfl, hb13⟩
        rw [hs4.out, okOr_true]
        go_wp2_with fail
        go_ret
        exact ⟨rfl, hb04.trans (((hb49.trans (hb10.trans hb11)).trans hb12).trans hb13)⟩
end Go.Proofs.Ytedcopjpgijpjaa
