/-
  The walk of HomeTells.
-/
import Derived.Test.YtkolimhkfiebeaaHome
import Derived.Test.YtkolimhkfiebeaaRef13b
import Derived.Test.YtkolimhkfiebeaaSpoil11
import Derived.Test.YtkolimhkfiebeaaBagTells
namespace Go.Proofs.Ytkolimhkfiebeaa
open Go.RowKit

theorem sameSelfIds (l : List Id) {A B : Option Addr} {c d : Nat} {w : World} (hl : l.length ≤ maxLen) (hA : R cId 0 w A l) (hB : R cId 0 w B l) :
    Calls Try.prog 31 #[.slice A l.length c, .slice B l.length d] w fun e w' => e = .returned (.bool true) ∧ Bl w w' := by
  have h := refSameIds A B c d l l w hl hl hA hB
  rw [show same l l = true by unfold same; simp] at h
  exact h

theorem sameSelf06 (l : List Run) {A B : Option Addr} {c d : Nat} {w : World} (hl : l.length ≤ maxLen) (hA : R cRun 0 w A l) (hB : R cRun 0 w B l) :
    Calls Try.prog 32 #[.slice A l.length c, .slice B l.length d] w fun e w' => e = .returned (.bool true) ∧ Bl w w' := by
  have h := refSame06 A B c d l l w hl hl hA hB
  rw [show same l l = true by unfold same; simp] at h
  exact h

theorem eqSelfId (q : Id) (W : World) : (binOp .eql 36 (.agg #[.int .u32 q.t, .int .u8 q.r]) (.agg #[.int .u32 q.t, .int .u8 q.r])).run Try.prog W = .ok (.bool true) W := by
  have h := run_eqId q q W
  rw [show neqId q q = false by unfold neqId; simp] at h
  exact h

theorem all_small (l : List Op) : (allL l).length ≤ 1025 := by
  unfold allL
  cases h : bagMay l
  · exact Nat.zero_le _
  · have := lives_small h
    show (sectF (livesF l)).length ≤ 1025
    rw [sect_length]
    omega

set_option maxRecDepth 100000 in
set_option maxHeartbeats 8000000 in
theorem lawHomeTells13 (A B : Option Addr) (c d : Nat) (l : List Op) (p : List Run) (s : Id) (w : World) (hl : l.length ≤ 140737488355328) (hpd : p.length ≤ d) (hdm : d ≤ maxLen) (hqa : ∀ x ∈ l, x.pl.length ≤ 8796093022208) (hA : R cOp 0 w A l) (hB : R cRun 0 w B p) :
    Calls Try.prog 4 #[.slice A l.length c, .slice B p.length d, .agg #[.int .u32 s.t, .int .u8 s.r]] w fun e w' => e = .returned (.bool true) ∧ Bl w w' := by
  have hlm : l.length ≤ maxLen := by unfold maxLen; omega
  have hga := hide (fun W (hb : Bl w W) => refGreat10 A c l 100 W hl (hA.bl hb))
  obtain ⟨W, hW⟩ : ∃ W, W = w.alloc (.cells #[Value.int IntKind.u32 s.t, Value.int IntKind.u8 s.r] 36) := ⟨_, rfl⟩
  have hbW : Bl w W := by rw [hW]; exact (Bl.refl _).alloc _
  have at0 : IdBox W w.heap.size s := by rw [hW]; exact IdBox.new w s _
  replace hqa := hide hqa
  go_enter Try.func4, Try.ntmps4
  go_wp2_with fail
  rw [← hW]
  clear hW
  refine (hga.out _ hbW).mono ?_
  rintro e w1 ⟨ba, rfl, hfa, hb1⟩
  have hbw1 := hbW.trans hb1
  cases ba
  rotate_left
  · clear hfa
    go_wp2_with fail
    go_ret
    exact ⟨rfl, hbw1⟩
  replace hfa := hfa rfl
  have hn1 : l.length ≤ 100 := by have := hfa.1; omega
  have hca : Hid (copyB l) := hide ⟨by omega, hqa.out⟩
  clear hfa
  by_cases hp3 : (300 : Int) < (p.length : Int)
  · go_wp2_with fail
    go_ret
    exact ⟨rfl, hbw1⟩
  have hpm : p.length ≤ maxLen := Nat.le_trans hpd hdm
  have rAll := fun V (hv : Bl w V) => refAll13 A c l V hlm (hA.bl hv)
  have rOf := fun V (hv : Bl w V) => refOf13 A B c d l p V hlm hpd hdm (hA.bl hv) (hB.bl hv)
  have rAh := fun V (hv : Bl w V) => refAhead13 A c l s V hlm (hA.bl hv)
  have rSp := fun V (hv : Bl w V) => refSpan13 A c l s V hlm (hA.bl hv)
  have pAll := fun X x V (hX : R cOp 0 V X l) => homeAll X x l V hlm hX
  have pOf := fun X x V (hX : R cOp 0 V X l) (hv : Bl w V) => homeOf X B x d l p V hlm hpm hX (hB.bl hv)
  have pAh := fun X x V (hX : R cOp 0 V X l) => homeAhead X x l s V hlm hX
  have pSp := fun X x V (hX : R cOp 0 V X l) => homeSpan X x l s V hlm hX
  have hal := all_small l
  generalize allL l = L at *
  generalize okOr 8 (bagMay l) = N1 at *
  generalize ofS l p = q at *
  generalize ofN l p = N2 at *
  generalize aheadS l s = r at *
  generalize whereN l s 1 = N3 at *
  generalize spanA l s = pa at *
  generalize spanB l s = pb at *
  generalize whereN l s 0 = N4 at *
  replace rAll := hide rAll
  replace rOf := hide rOf
  replace rAh := hide rAh
  replace rSp := hide rSp
  replace pAll := hide pAll
  replace pOf := hide pOf
  replace pAh := hide pAh
  replace pSp := hide pSp
  clear hga
  go_wp2_with fail
  refine (refTwin11 A c l _ hca.out (hA.bl hbw1)).mono ?_
  rintro e w2 ⟨X, x, rfl, x1, x2, hX, hb2⟩
  have hbw2 := hbw1.trans hb2
  have hX0 := hX.zero
  go_wp2_with fail
  refine (pAll.out X x _ hX0).mono ?_
  rintro e w3 ⟨P1, p1, rfl, p11, p12, hP1, hb3⟩
  go_wp2_with fail
  refine (rAll.out _ (hbw2.trans hb3)).mono ?_
  rintro e w4 ⟨Q1, q1, rfl, q11, q12, hQ1, hb4⟩
  have hb24 := hb3.trans hb4
  go_wp2_with fail
  refine (pOf.out X x _ (hX0.bl hb24) (hbw2.trans hb24)).mono ?_
  rintro e w5 ⟨rfl, hb5⟩
  obtain ⟨V5, hV5⟩ : ∃ V5, V5 = w5.alloc (.cells #[Value.int IntKind.u32 q.t, Value.int IntKind.u8 q.r] 36) := ⟨_, rfl⟩
  have at5 : IdBox V5 w5.heap.size q := by rw [hV5]; exact IdBox.new w5 q _
  have hb5V : Bl w4 V5 := by rw [hV5]; exact hb5.alloc _
  have hb25 := hb24.trans hb5V
  go_wp2_with fail
  rw [← hV5]
  clear hV5
  refine (rOf.out _ (hbw2.trans hb25)).mono ?_
  rintro e w6 ⟨rfl, hb6⟩
  obtain ⟨V6, hV6⟩ : ∃ V6, V6 = w6.alloc (.cells #[Value.int IntKind.u32 q.t, Value.int IntKind.u8 q.r] 36) := ⟨_, rfl⟩
  have at6 : IdBox V6 w6.heap.size q := by rw [hV6]; exact IdBox.new w6 q _
  have hb6V : Bl V5 V6 := by rw [hV6]; exact hb6.alloc _
  have hb26 := hb25.trans hb6V
  obtain ⟨s0, s1, -, -⟩ := at0.bl ((hb1.trans hb2).trans (hb25.trans hb6))
  have hsl := (at0.bl ((hb1.trans hb2).trans (hb25.trans hb6))).lt
  go_wp2_with fail
  rw [← hV6]
  clear hV6
  refine (pAh.out X x _ (hX0.bl hb26)).mono ?_
  rintro e w7 ⟨rfl, hb7⟩
  obtain ⟨V7, hV7⟩ : ∃ V7, V7 = w7.alloc (.cells #[Value.int IntKind.u32 r.t, Value.int IntKind.u8 r.r] 36) := ⟨_, rfl⟩
  have at7 : IdBox V7 w7.heap.size r := by rw [hV7]; exact IdBox.new w7 r _
  have hb7V : Bl V6 V7 := by rw [hV7]; exact hb7.alloc _
  have hb27 := hb26.trans hb7V
  clear s0 s1 hsl
  obtain ⟨s0, s1, -, -⟩ := at0.bl ((hb1.trans hb2).trans (hb26.trans hb7))
  have hsl := (at0.bl ((hb1.trans hb2).trans (hb26.trans hb7))).lt
  go_wp2_with fail
  rw [← hV7]
  clear hV7
  refine (rAh.out _ (hbw2.trans hb27)).mono ?_
  rintro e w8 ⟨rfl, hb8⟩
  obtain ⟨V8, hV8⟩ : ∃ V8, V8 = w8.alloc (.cells #[Value.int IntKind.u32 r.t, Value.int IntKind.u8 r.r] 36) := ⟨_, rfl⟩
  have at8 : IdBox V8 w8.heap.size r := by rw [hV8]; exact IdBox.new w8 r _
  have hb8V : Bl V7 V8 := by rw [hV8]; exact hb8.alloc _
  have hb28 := hb27.trans hb8V
  clear s0 s1 hsl
  obtain ⟨s0, s1, -, -⟩ := at0.bl ((hb1.trans hb2).trans (hb27.trans hb8))
  have hsl := (at0.bl ((hb1.trans hb2).trans (hb27.trans hb8))).lt
  go_wp2_with fail
  rw [← hV8]
  clear hV8
  refine (pSp.out X x _ (hX0.bl hb28)).mono ?_
  rintro e w9 ⟨F, G, f, g, rfl, f1, f2, g1, g2, hF, hG, hb9⟩
  have hb29 := hb28.trans hb9
  clear s0 s1 hsl
  obtain ⟨s0, s1, -, -⟩ := at0.bl ((hb1.trans hb2).trans hb29)
  have hsl := (at0.bl ((hb1.trans hb2).trans hb29)).lt
  go_wp2_with fail
  refine (rSp.out _ (hbw2.trans hb29)).mono ?_
  rintro e w10 ⟨F', G', f', g', rfl, f1', f2', g1', g2', hF', hG', hb10⟩
  have hb210 := hb29.trans hb10
  clear s0 s1 hsl
  go_wp2_with fail
  refine (sameSelfIds L (by unfold maxLen; omega) (hP1.zero.bl (hb4.trans (hb5V.trans (hb6V.trans (hb7V.trans (hb8V.trans (hb9.trans hb10))))))) (hQ1.bl (hb5V.trans (hb6V.trans (hb7V.trans (hb8V.trans (hb9.trans hb10))))))).mono ?_
  rintro e w11 ⟨rfl, hb11⟩
  have hb911 := hb9.trans (hb10.trans hb11)
  obtain ⟨a0, a1, -, -⟩ := at5.bl (hb6V.trans (hb7V.trans (hb8V.trans hb911)))
  obtain ⟨b0, b1, -, -⟩ := at6.bl (hb7V.trans (hb8V.trans hb911))
  obtain ⟨c0, c1, -, -⟩ := at7.bl (hb8V.trans hb911)
  obtain ⟨d0, d1, -, -⟩ := at8.bl hb911
  have e1 : (N1 == N1) = true := beq_self_eq_true _
  have e2 : (N2 == N2) = true := beq_self_eq_true _
  have e3 : (N3 == N3) = true := beq_self_eq_true _
  have e4 : (N4 == N4) = true := beq_self_eq_true _
  have eq1 := eqSelfId q
  have eq2 := eqSelfId r
  have hb1011 := hb10.trans hb11
  go_wp2_with fail
  refine (sameSelf06 pa (Nat.le_trans f1 f2) (hF.zero.bl hb1011) (hF'.bl hb11)).mono ?_
  rintro e w12 ⟨rfl, hb12⟩
  clear a0 a1 b0 b1 c0 c1 d0 d1 eq1 eq2
  have hb1012 := hb1011.trans hb12
  go_wp2_with fail
  refine (sameSelf06 pb (Nat.le_trans g1 g2) (hG.zero.bl hb1012) (hG'.bl (hb11.trans hb12))).mono ?_
  rintro e w13 ⟨rfl, hb13⟩
  have hb913 := hb1012.trans hb13
  have hF13 := hF.bl hb913
  have hG13 := hG.bl hb913
  have hb213 := hb29.trans hb913
  have hlo : w2.heap.size ≤ V8.heap.size := hb28.size
  have hfl : pa.length ≤ 9223372036854775807 := by unfold maxLen at f2; omega
  have hgl : pb.length ≤ 9223372036854775807 := by unfold maxLen at g2; omega
  clear hP1 hQ1 hF hG hF' hG' at5 at6 at7 at8
  go_wp2_with fail
  go_loopw [28] (fun i wr => Sm w13 wr ∧ Below V8.heap.size w13 wr ∧ ∃ k : Nat, k ≤ pa.length ∧ i = .int .i64 k) (fun i _ => pa.length - (intOf i).toNat)
  case atStart => exact ⟨Sm.refl _, Below.refl _ _, 0, Nat.zero_le _, rfl⟩
  case round =>
    obtain ⟨hs, hbe, k, hk, rfl⟩ := hrel
    by_cases hlt : k < pa.length
    · obtain ⟨b2, off2, rfl, hb20, hb2'⟩ := hF13.addr (by omega)
      obtain ⟨z, hz⟩ := get_lt hlt
      obtain ⟨hbb2, r0, rf0⟩ := hF13.runF hz
      obtain ⟨⟨a1, q1'⟩, qf⟩ := hs.int r0 rf0
      have hql := World.block_lt_of_cell? _ _ q1'
      have hki : (k : Int) < (pa.length : Int) := by omega
      have hfin := hide (And.intro (hs.set (c := -7) q1') (Below.setCell hbe (p := ⟨b2, off2 + k * 3 + 2, none⟩) hbb2 (.int .i64 (-7))))
      clear hz r0 rf0
      go_wp2_with fail
      go_roundw
      case rel => exact ⟨hfin.out.1, hfin.out.2, k + 1, by omega, by go_num⟩
      case measure => simp [intOf]; omega
    · have hki : ¬ (k : Int) < (pa.length : Int) := by omega
      go_wp2_with fail
      go_loopw [29] (fun i wq => Sm w13 wq ∧ Below V8.heap.size w13 wq ∧ ∃ k : Nat, k ≤ pb.length ∧ i = .int .i64 k) (fun i _ => pb.length - (intOf i).toNat)
      case atStart => exact ⟨hs, hbe, 0, Nat.zero_le _, rfl⟩
      case round =>
        clear hs hbe hki hlt hk
        obtain ⟨hs, hbe, j, hj, rfl⟩ := hrel
        by_cases hlt : j < pb.length
        · obtain ⟨b2, off2, rfl, hb20, hb2'⟩ := hG13.addr (by omega)
          obtain ⟨z, hz⟩ := get_lt hlt
          obtain ⟨hbb2, r0, rf0⟩ := hG13.runF hz
          obtain ⟨⟨a1, q1'⟩, qf⟩ := hs.int r0 rf0
          have hql := World.block_lt_of_cell? _ _ q1'
          have hki : (j : Int) < (pb.length : Int) := by omega
          have hfin := hide (And.intro (hs.set (c := -7) q1') (Below.setCell hbe (p := ⟨b2, off2 + j * 3 + 2, none⟩) hbb2 (.int .i64 (-7))))
          clear hz r0 rf0
          go_wp2_with fail
          go_roundw
          case rel => exact ⟨hfin.out.1, hfin.out.2, j + 1, by omega, by go_num⟩
          case measure => simp [intOf]; omega
        · have hki : ¬ (j : Int) < (pb.length : Int) := by omega
          have hb2r : Bl w2 wr := hb213.step (hbe.mono hlo)
          have hX14 := hX0.bl hb2r
          have hA14 := hA.bl (hbw2.trans hb2r)
          go_wp2_with fail
          refine (sameSelf11 l hlm hX14 hA14).mono ?_
          rintro e w15 ⟨rfl, hb15⟩
          go_wp2_with fail
          go_ret
          exact ⟨rfl, hbw2.trans (hb2r.trans hb15)⟩
end Go.Proofs.Ytkolimhkfiebeaa
