/-
  The walk of HomeOne.
-/
import Derived.Test.YtkolimhkfiebeaaHomeAlive
namespace Go.Proofs.Ytkolimhkfiebeaa
open Go.RowKit

theorem samePl (l : List Run) {A B : Option Addr} {c d : Nat} {w : World} (hl : l.length ≤ maxLen) (hA : R cRun 0 w A l) (hB : R cRun 0 w B l) :
    Calls Try.prog 38 #[.slice A l.length c, .slice B l.length d] w fun e w' => e = .returned (.bool true) ∧ Bl w w' := by
  have h := placeSame A B c d l l w hl hl hA hB
  rw [show same l l = true by unfold same; simp] at h
  exact h

theorem R.lt_addr {α : Type} {C : Codec α} {lo : Nat} {w : World} {b off k : Nat} {xs : List α} {x : α} (h : R C lo w (some ⟨b, off, none⟩) xs) (hk : xs[k]? = some x) : b < w.heap.size := (R.get h hk).1.2

theorem idx_at {l : List Op} {k : Nat} {t : Id} (h : bagMay l = true) (hk : (sectF (livesF l))[k]? = some t) : idxOf (sectF (livesF l)) t = k :=
  idx_hit hk fun y hy e => by
    obtain ⟨j, hj⟩ := List.getElem?_of_mem hy
    rw [List.getElem?_take] at hj
    split at hj
    · rename_i hjk
      have := sect_one h (e ▸ hj) hk
      omega
    · cases hj

theorem span_at {l : List Op} {k : Nat} {t : Id} (h : bagMay l = true) (hk : (sectF (livesF l))[k]? = some t) : spanA l t = beginF (livesF l) k ∧ spanB l t = beginF (livesF l) (k + 1) ∧ whereN l t 0 = 0 := by
  have hi := idx_at h hk
  have hw : whereN l t 0 = 0 := by
    unfold whereN
    rw [h, if_pos rfl, hi, if_neg (by omega)]
  unfold spanA spanB
  rw [hw, hi, if_pos rfl, if_pos rfl, Int.toNat_natCast]
  exact ⟨rfl, rfl, rfl⟩

set_option maxRecDepth 100000 in
set_option maxHeartbeats 8000000 in
theorem lawHomeOne13 (A B : Option Addr) (c d : Nat) (l : List Op) (p : List Run) (w : World) (hl : l.length ≤ 140737488355328) (hpm : p.length ≤ maxLen) (hA : R cOp 0 w A l) (hB : R cRun 0 w B p) :
    Calls Try.prog 6 #[.slice A l.length c, .slice B p.length d] w fun e w' => e = .returned (.bool true) ∧ Bl w w' := by
  have hlm : l.length ≤ maxLen := by unfold maxLen; omega
  have hga := hide (fun W (hb : Bl w W) => refGreat10 A c l 60 W hl (hA.bl hb))
  go_enter Try.func6, Try.ntmps6
  go_wp2_with fail
  refine (lawAlive13 _).mono ?_
  rintro e w0 ⟨rfl, hb0⟩
  go_wp2_with fail
  refine (hga.out _ hb0).mono ?_
  rintro e w1 ⟨ba, rfl, hfa, hb1⟩
  have hbw1 := hb0.trans hb1
  cases ba
  rotate_left
  · clear hfa
    go_wp2_with fail
    go_ret
    exact ⟨rfl, hbw1⟩
  clear hfa hga
  by_cases hp3 : (100 : Int) < (p.length : Int)
  · go_wp2_with fail
    go_ret
    exact ⟨rfl, hbw1⟩
  have pOf := fun V (hv : Bl w V) => homeOf A B c d l p V hlm hpm (hA.bl hv) (hB.bl hv)
  have pAll := fun V (hv : Bl w V) => homeAll A c l V hlm (hA.bl hv)
  have pSp := hide fun t V (hv : Bl w V) => homeSpan A c l t V hlm (hA.bl hv)
  cases hok : (bagMay l && plAny p)
  · have e1 : ofN l p = 8 := by unfold ofN; rw [hok]; rfl
    have e2 : ofS l p = ⟨0, 0⟩ := by unfold ofS; rw [hok]; rfl
    rw [e1, e2] at pOf
    replace pOf := hide pOf
    replace pAll := hide pAll
    generalize allL l = L at *
    generalize okOr 8 (bagMay l) = N1 at *
    have heq := eqSelfId ⟨0, 0⟩
    clear e1 e2 hok pSp
    go_wp2_with fail
    refine (pOf.out _ hbw1).mono ?_
    rintro e w2 ⟨rfl, hb2⟩
    obtain ⟨V2, hV2⟩ : ∃ V2, V2 = w2.alloc (.cells #[Value.int IntKind.u32 0, Value.int IntKind.u8 0] 36) := ⟨_, rfl⟩
    have at2 : IdBox V2 w2.heap.size ⟨0, 0⟩ := by rw [hV2]; exact IdBox.new w2 ⟨0, 0⟩ _
    have hbV2 : Bl w V2 := by rw [hV2]; exact (hbw1.trans hb2).alloc _
    go_wp2_with fail
    rw [← hV2]
    clear hV2
    refine (pAll.out _ hbV2).mono ?_
    rintro e w3 ⟨X, x, rfl, x1, x2, hX, hb3⟩
    obtain ⟨y0, y1, -, -⟩ := at2.bl hb3
    go_wp2_with fail
    go_ret
    exact ⟨rfl, hbV2.trans hb3⟩
  rw [Bool.and_eq_true] at hok
  obtain ⟨hmay, hany⟩ := hok
  have e1 : ofN l p = 0 := by unfold ofN; rw [hmay, hany]; rfl
  have e2 : ofS l p = homeF (livesF l) p := by unfold ofS; rw [hmay, hany]; rfl
  rw [e1, e2] at pOf
  rw [hmay, show allL l = sectF (livesF l) by unfold allL; rw [hmay]; rfl] at pAll
  have hsp := hide fun (k : Nat) (t : Id) (hk : (sectF (livesF l))[k]? = some t) => span_at hmay hk
  have hin := hide fun (k : Nat) (t : Id) (hk : (sectF (livesF l))[k]? = some t) => in_home hmay hany hk
  have hlen := hide fun (k : Nat) => begin_len hmay k
  have hone := hide fun (i j : Nat) (t : Id) (hi : (sectF (livesF l))[i]? = some t) (hj : (sectF (livesF l))[j]? = some t) => sect_one hmay hi hj
  obtain ⟨h, hh⟩ := home_some hmay hany
  have hsm := lives_small hmay
  have hsl := sect_length (livesF l)
  clear e1 e2 hmay hany
  generalize livesF l = M at *
  generalize homeF M p = s at *
  generalize hS : sectF M = S at *
  replace hS := hide hS
  have hSb : S.length ≤ 1025 := by omega
  have hSa : 1 ≤ S.length := by omega
  replace hsl := hide hsl
  have hhl := (List.getElem?_eq_some_iff.1 hh).1
  replace hh := hide hh
  replace pOf := hide pOf
  replace pAll := hide pAll
  have hcmpA := hide fun X x (q : List Run) V (hq : q.length ≤ maxLen) (hX : R cRun 0 V X q) (hv : Bl w V) => placeCompareD X B x d q p V hq hpm hX (hB.bl hv)
  have hcmpB := hide fun X x (q : List Run) V (hq : q.length ≤ maxLen) (hX : R cRun 0 V X q) (hv : Bl w V) => placeCompareD B X d x p q V hpm hq (hB.bl hv) hX
  go_wp2_with fail
  refine (pOf.out _ hbw1).mono ?_
  rintro e w2 ⟨rfl, hb2⟩
  obtain ⟨V2, hV2⟩ : ∃ V2, V2 = w2.alloc (.cells #[Value.int IntKind.u32 s.t, Value.int IntKind.u8 s.r] 36) := ⟨_, rfl⟩
  have at2 : IdBox V2 w2.heap.size s := by rw [hV2]; exact IdBox.new w2 s _
  have hbV2 : Bl w V2 := by rw [hV2]; exact (hbw1.trans hb2).alloc _
  go_wp2_with fail
  rw [← hV2]
  clear hV2
  refine (pAll.out _ hbV2).mono ?_
  rintro e w3 ⟨X, x, rfl, x1, x2, hX, hb3⟩
  have hb03 := hbV2.trans hb3
  have at3 := at2.bl hb3
  clear pOf pAll
  go_wp2_with fail
  go_loopw [10, 11, 12] (fun n last i wr => Bl w3 wr ∧ ∃ (k : Nat) (m : Int) (Z : Option Addr) (z : Nat), k ≤ S.length ∧ i = .int .i64 k ∧ n = .int .i64 m ∧ 0 ≤ m ∧ m ≤ 1 ∧ last = .slice Z (beginF M k).length z ∧ (beginF M k).length ≤ maxLen ∧ R cRun 0 wr Z (beginF M k) ∧ Hid (m = if h < k then 1 else 0)) (fun _ _ i _ => S.length - (intOf i).toNat)
  case atStart => exact ⟨Bl.refl _, 0, 0, none, 0, Nat.zero_le _, rfl, rfl, by omega, by omega, rfl, Nat.zero_le _, R.nil, (show (0 : Int) = if h < 0 then 1 else 0 from by rw [if_neg (by omega)])⟩
  case round =>
    obtain ⟨hbl, k, m, Z, z, hk, rfl, rfl, hm0, hm1, rfl, hzl, hZ, hm⟩ := hrel
    have hbw := hb03.trans hbl
    by_cases hlt : k < S.length
    · have hR := hX.bl hbl
      obtain ⟨b, off, rfl, _, hb⟩ := hR.addr (by omega)
      obtain ⟨t, ht⟩ := get_lt hlt
      obtain ⟨_, ho, c0, c1'⟩ := hR.id ht
      have hki : (k : Int) < (S.length : Int) := by omega
      have hspk := pSp.out t wr hbw
      obtain ⟨q1, q2, q3⟩ := hsp.out k t ht
      rw [q1, q2, q3] at hspk
      clear q1 q2 q3
      have hink := hin.out k t ht
      have hbn := hlen.out (k + 1)
      have hbk := hlen.out k
      have hnext : ∀ m', (t = s → m' = m + 1) → (t ≠ s → m' = m) → m' = if h < k + 1 then 1 else 0 := fun m' g1 g2 => by
        have hm' := hm.out
        by_cases e : t = s
        · have hkh : h = k := hone.out h k s hh.out (e ▸ ht)
          rw [if_neg (by omega)] at hm'
          rw [g1 e, hm', if_pos (by omega)]
          rfl
        · have hkh : h ≠ k := fun e2 => e (by
            have h1 := hh.out
            rw [e2, ht] at h1
            injection h1)
          rw [g2 e, hm']
          by_cases hlt2 : h < k
          · rw [if_pos hlt2, if_pos (by omega)]
          · rw [if_neg hlt2, if_neg (by omega)]
      have hms : t = s → m = 0 := fun e => by
        have hkh : h = k := hone.out h k s hh.out (e ▸ ht)
        rw [hm.out, if_neg (by omega)]
      obtain ⟨fr, hfr⟩ : ∃ q, q = beginF M k := ⟨_, rfl⟩
      obtain ⟨tu, hto⟩ : ∃ q, q = beginF M (k + 1) := ⟨_, rfl⟩
      rw [← hfr] at hzl hZ hbk ⊢
      rw [← hto] at hbn
      unfold SpanP at hspk
      unfold inF at hink
      rw [← hfr, ← hto] at hspk hink
      have hcA := fun X x V (hX : R cRun 0 V X fr) (hv : Bl w V) => hcmpA.out X x fr V hzl hX hv
      have hcB := fun X x V (hX : R cRun 0 V X tu) (hv : Bl w V) (hq : tu.length ≤ maxLen) => hcmpB.out X x tu V hq hX hv
      have hsamed := fun X x Y y V (hX : R cRun 0 V X fr) (hY : R cRun 0 V Y fr) => samePl fr hzl (A := X) (B := Y) (c := x) (d := y) (w := V) hX hY
      have hgo := hide fun (W : World) (m' : Int) (G : Option Addr) (g : Nat) (hW : Bl w3 W) (hG : R cRun 0 W G tu) (hq : tu.length ≤ maxLen) (g1 : t = s → m' = m + 1) (g2 : t ≠ s → m' = m) =>
        (show Bl w3 W ∧ ∃ (k' : Nat) (m2 : Int) (Z : Option Addr) (z : Nat), k' ≤ S.length ∧ Value.int .i64 ((k : Int) + 1) = .int .i64 k' ∧ Value.int .i64 m' = .int .i64 m2 ∧ 0 ≤ m2 ∧ m2 ≤ 1 ∧ Value.slice G tu.length g = .slice Z (beginF M k').length z ∧ (beginF M k').length ≤ maxLen ∧ R cRun 0 W Z (beginF M k') ∧ Hid (m2 = if h < k' then 1 else 0) from
          ⟨hW, k + 1, m', G, g, by omega, by go_num, rfl, by by_cases e : t = s; (rw [g1 e]; omega); (rw [g2 e]; omega), by by_cases e : t = s; (rw [g1 e, hms e]; omega); (rw [g2 e]; omega), by rw [← hto], by rw [← hto]; exact hq, by rw [← hto]; exact hG, hnext m' g1 g2⟩)
      have heq := run_eqId t s
      have hnq : neqId t s = !decide (t = s) := rfl
      rw [hnq, ← hink] at heq
      have hT0 := hide (show (decide (plCmp fr p ≤ 0) && (decide (tu.length = 0) || decide (plCmp p tu < 0))) = true → t = s from fun e => of_decide_eq_true (hink.symm.trans e))
      have hF0 := hide (show (decide (plCmp fr p ≤ 0) && (decide (tu.length = 0) || decide (plCmp p tu < 0))) = false → t ≠ s from fun e => of_decide_eq_false (hink.symm.trans e))
      clear hink hnq hnext hms hm
      generalize plCmp fr p = N1 at *
      generalize plCmp p tu = N2 at *
      generalize fr.length = nf at *
      generalize tu.length = nt at *
      obtain ⟨zt, hzt⟩ : ∃ zt, decide (nt = 0) = zt := ⟨_, rfl⟩
      rw [hzt] at heq hT0 hF0
      have hz1 : ((nt : Int) == 0) = zt := by
        rw [← hzt]
        by_cases e : nt = 0 <;> simp [e]
      have hz2 : ((k : Int) == (S.length : Int) - 1) = zt := by
        have := hsl.out
        rw [← hzt]
        by_cases e : nt = 0
        · rw [decide_eq_true e, beq_iff_eq]
          have := hbn.1 e
          omega
        · rw [decide_eq_false e, beq_eq_false_iff_ne]
          have h2 : ¬ (k + 1 = 0 ∨ M.length < k + 1) := fun h2 => e (hbn.2 h2)
          omega
      obtain ⟨c1, hc1⟩ : ∃ c1, decide (N1 ≤ 0) = c1 := ⟨_, rfl⟩
      obtain ⟨c2, hc2⟩ : ∃ c2, decide (N2 < 0) = c2 := ⟨_, rfl⟩
      rw [hc1, hc2] at heq hT0 hF0
      have ht := hide ht
      replace hcA := hide hcA
      replace hcB := hide hcB
      replace hsamed := hide hsamed
      replace hspk := hide hspk
      replace hzt := hide hzt
      have hbk2 : k = 0 ∨ (0 < k ∧ ((nf : Int) == 0) = false) := by
        by_cases e : k = 0
        · exact .inl e
        · refine .inr ⟨by omega, ?_⟩
          rw [beq_eq_false_iff_ne]
          intro e2
          have := hsl.out
          have := hbk.1 (by omega)
          omega
      clear hbn hbk
      go_wp2_with fail
      refine hspk.out.mono ?_
      rintro e w4 ⟨F, G, f, g, rfl, f1, f2, g1, g2, hF, hG, hb4⟩
      replace hF := hF.zero
      replace hG := hG.zero
      have hb34 := hbl.trans hb4
      clear hspk c0 c1'
      rcases hbk2 with hk0 | ⟨hkp, hnf⟩
      · have hkd : decide ((0 : Int) < (k : Int)) = false := by simp; omega
        have hkn : ¬ 0 < k := by omega
        replace hk0 := hide hk0
        cases c1
        · go_wp2_with fail
          refine (hsamed.out F f Z z _ hF (hZ.bl hb4)).mono ?_
          rintro e w5 ⟨rfl, hb5⟩
          go_wp2_with fail
          refine (hcA.out F f _ (hF.bl hb5) (hbw.trans (hb4.trans hb5))).mono ?_
          rintro e w6 ⟨rfl, hb6⟩
          have hb46 := hb5.trans hb6.bl
          have g0 := hide (hF0.out rfl)
          clear hcA hcB hsamed
          have hbX := hb34.trans (hb46)
          obtain ⟨y0, y1, -, -⟩ := at3.bl hbX
          have hyl := (at3.bl hbX).lt
          have hRX := hX.bl hbX
          obtain ⟨_, _, c0, c1⟩ := hRX.id ht.out
          have hbb := hRX.lt_addr ht.out
          have C0 := fun p : Wd _ => Wd.cell c0 hbb p
          have C1 := fun p : Wd _ => Wd.cell c1 hbb p
          have S0 := fun p : Wd _ => Wd.cell y0 hyl p
          have S1 := fun p : Wd _ => Wd.cell y1 hyl p
          have hGX := hG.bl (hb46)
          clear c0 c1 y0 y1
          go_wp2_with fail
          (refine wp_region_wd (by kernel_rfl) (by kernel_rfl) ?_
           repeat (go_big_quiet_step ((fail)))
           refine wpQuiet_nil ?_
           intro w9 hw'
           obtain ⟨⟨wx, hb9⟩, hw''⟩ := hw'
           subst hw'')
          have hfin := hide (hgo.out w9 (m) G g (hbX.trans hb9) (hGX.bl hb9) (Nat.le_trans g1 g2) (fun e => absurd e g0.out) (fun _ => rfl))
          go_wp2_with fail
          refine ⟨?_, ?measure⟩
          (repeat apply Exists.intro)
          refine ⟨?rel, ?eq⟩
          case eq => rfl
          case rel => exact hfin.out
          case measure => simp [intOf]; omega
        · cases zt
          · cases c2
            · go_wp2_with fail
              refine (hsamed.out F f Z z _ hF (hZ.bl hb4)).mono ?_
              rintro e w5 ⟨rfl, hb5⟩
              go_wp2_with fail
              refine (hcA.out F f _ (hF.bl hb5) (hbw.trans (hb4.trans hb5))).mono ?_
              rintro e w6 ⟨rfl, hb6⟩
              have hb46 := hb5.trans hb6.bl
              go_wp2_with fail
              refine (hcB.out G g _ (hG.bl hb46) (hbw.trans (hb4.trans hb46)) (Nat.le_trans g1 g2)).mono ?_
              rintro e w7 ⟨rfl, hb7⟩
              have hb47 := hb46.trans hb7.bl
              have g0 := hide (hF0.out rfl)
              clear hcA hcB hsamed
              have hbX := hb34.trans (hb47)
              obtain ⟨y0, y1, -, -⟩ := at3.bl hbX
              have hyl := (at3.bl hbX).lt
              have hRX := hX.bl hbX
              obtain ⟨_, _, c0, c1⟩ := hRX.id ht.out
              have hbb := hRX.lt_addr ht.out
              have C0 := fun p : Wd _ => Wd.cell c0 hbb p
              have C1 := fun p : Wd _ => Wd.cell c1 hbb p
              have S0 := fun p : Wd _ => Wd.cell y0 hyl p
              have S1 := fun p : Wd _ => Wd.cell y1 hyl p
              have hGX := hG.bl (hb47)
              clear c0 c1 y0 y1
              go_wp2_with fail
              (refine wp_region_wd (by kernel_rfl) (by kernel_rfl) ?_
               repeat (go_big_quiet_step ((fail)))
               refine wpQuiet_nil ?_
               intro w9 hw'
               obtain ⟨⟨wx, hb9⟩, hw''⟩ := hw'
               subst hw'')
              have hfin := hide (hgo.out w9 (m) G g (hbX.trans hb9) (hGX.bl hb9) (Nat.le_trans g1 g2) (fun e => absurd e g0.out) (fun _ => rfl))
              go_wp2_with fail
              refine ⟨?_, ?measure⟩
              (repeat apply Exists.intro)
              refine ⟨?rel, ?eq⟩
              case eq => rfl
              case rel => exact hfin.out
              case measure => simp [intOf]; omega
            · go_wp2_with fail
              refine (hsamed.out F f Z z _ hF (hZ.bl hb4)).mono ?_
              rintro e w5 ⟨rfl, hb5⟩
              go_wp2_with fail
              refine (hcA.out F f _ (hF.bl hb5) (hbw.trans (hb4.trans hb5))).mono ?_
              rintro e w6 ⟨rfl, hb6⟩
              have hb46 := hb5.trans hb6.bl
              go_wp2_with fail
              refine (hcB.out G g _ (hG.bl hb46) (hbw.trans (hb4.trans hb46)) (Nat.le_trans g1 g2)).mono ?_
              rintro e w7 ⟨rfl, hb7⟩
              have hb47 := hb46.trans hb7.bl
              have g0 := hide (hT0.out rfl)
              clear hcA hcB hsamed
              have hbX := hb34.trans (hb47)
              obtain ⟨y0, y1, -, -⟩ := at3.bl hbX
              have hyl := (at3.bl hbX).lt
              have hRX := hX.bl hbX
              obtain ⟨_, _, c0, c1⟩ := hRX.id ht.out
              have hbb := hRX.lt_addr ht.out
              have C0 := fun p : Wd _ => Wd.cell c0 hbb p
              have C1 := fun p : Wd _ => Wd.cell c1 hbb p
              have S0 := fun p : Wd _ => Wd.cell y0 hyl p
              have S1 := fun p : Wd _ => Wd.cell y1 hyl p
              have hGX := hG.bl (hb47)
              clear c0 c1 y0 y1
              go_wp2_with fail
              (refine wp_region_wd (by kernel_rfl) (by kernel_rfl) ?_
               repeat (go_big_quiet_step ((fail)))
               refine wpQuiet_nil ?_
               intro w9 hw'
               obtain ⟨⟨wx, hb9⟩, hw''⟩ := hw'
               subst hw'')
              have hfin := hide (hgo.out w9 (m + 1) G g (hbX.trans hb9) (hGX.bl hb9) (Nat.le_trans g1 g2) (fun _ => rfl) (fun e => absurd g0.out e))
              go_wp2_with fail
              refine ⟨?_, ?measure⟩
              (repeat apply Exists.intro)
              refine ⟨?rel, ?eq⟩
              case eq => rfl
              case rel => exact hfin.out
              case measure => simp [intOf]; omega
          · go_wp2_with fail
            refine (hsamed.out F f Z z _ hF (hZ.bl hb4)).mono ?_
            rintro e w5 ⟨rfl, hb5⟩
            go_wp2_with fail
            refine (hcA.out F f _ (hF.bl hb5) (hbw.trans (hb4.trans hb5))).mono ?_
            rintro e w6 ⟨rfl, hb6⟩
            have hb46 := hb5.trans hb6.bl
            have g0 := hide (hT0.out rfl)
            clear hcA hcB hsamed
            have hbX := hb34.trans (hb46)
            obtain ⟨y0, y1, -, -⟩ := at3.bl hbX
            have hyl := (at3.bl hbX).lt
            have hRX := hX.bl hbX
            obtain ⟨_, _, c0, c1⟩ := hRX.id ht.out
            have hbb := hRX.lt_addr ht.out
            have C0 := fun p : Wd _ => Wd.cell c0 hbb p
            have C1 := fun p : Wd _ => Wd.cell c1 hbb p
            have S0 := fun p : Wd _ => Wd.cell y0 hyl p
            have S1 := fun p : Wd _ => Wd.cell y1 hyl p
            have hGX := hG.bl (hb46)
            clear c0 c1 y0 y1
            go_wp2_with fail
            (refine wp_region_wd (by kernel_rfl) (by kernel_rfl) ?_
             repeat (go_big_quiet_step ((fail)))
             refine wpQuiet_nil ?_
             intro w9 hw'
             obtain ⟨⟨wx, hb9⟩, hw''⟩ := hw'
             subst hw'')
            have hfin := hide (hgo.out w9 (m + 1) G g (hbX.trans hb9) (hGX.bl hb9) (Nat.le_trans g1 g2) (fun _ => rfl) (fun e => absurd g0.out e))
            go_wp2_with fail
            refine ⟨?_, ?measure⟩
            (repeat apply Exists.intro)
            refine ⟨?rel, ?eq⟩
            case eq => rfl
            case rel => exact hfin.out
            case measure => simp [intOf]; omega
      · have hkd : decide ((0 : Int) < (k : Int)) = true := by simp; omega
        cases c1
        · go_wp2_with fail
          refine (hsamed.out F f Z z _ hF (hZ.bl hb4)).mono ?_
          rintro e w5 ⟨rfl, hb5⟩
          go_wp2_with fail
          refine (hcA.out F f _ (hF.bl hb5) (hbw.trans (hb4.trans hb5))).mono ?_
          rintro e w6 ⟨rfl, hb6⟩
          have hb46 := hb5.trans hb6.bl
          have g0 := hide (hF0.out rfl)
          clear hcA hcB hsamed
          have hbX := hb34.trans (hb46)
          obtain ⟨y0, y1, -, -⟩ := at3.bl hbX
          have hyl := (at3.bl hbX).lt
          have hRX := hX.bl hbX
          obtain ⟨_, _, c0, c1⟩ := hRX.id ht.out
          have hbb := hRX.lt_addr ht.out
          have C0 := fun p : Wd _ => Wd.cell c0 hbb p
          have C1 := fun p : Wd _ => Wd.cell c1 hbb p
          have S0 := fun p : Wd _ => Wd.cell y0 hyl p
          have S1 := fun p : Wd _ => Wd.cell y1 hyl p
          have hGX := hG.bl (hb46)
          clear c0 c1 y0 y1
          go_wp2_with fail
          (refine wp_region_wd (by kernel_rfl) (by kernel_rfl) ?_
           repeat (go_big_quiet_step ((fail)))
           refine wpQuiet_nil ?_
           intro w9 hw'
           obtain ⟨⟨wx, hb9⟩, hw''⟩ := hw'
           subst hw'')
          have hfin := hide (hgo.out w9 (m) G g (hbX.trans hb9) (hGX.bl hb9) (Nat.le_trans g1 g2) (fun e => absurd e g0.out) (fun _ => rfl))
          go_wp2_with fail
          refine ⟨?_, ?measure⟩
          (repeat apply Exists.intro)
          refine ⟨?rel, ?eq⟩
          case eq => rfl
          case rel => exact hfin.out
          case measure => simp [intOf]; omega
        · cases zt
          · cases c2
            · go_wp2_with fail
              refine (hsamed.out F f Z z _ hF (hZ.bl hb4)).mono ?_
              rintro e w5 ⟨rfl, hb5⟩
              go_wp2_with fail
              refine (hcA.out F f _ (hF.bl hb5) (hbw.trans (hb4.trans hb5))).mono ?_
              rintro e w6 ⟨rfl, hb6⟩
              have hb46 := hb5.trans hb6.bl
              go_wp2_with fail
              refine (hcB.out G g _ (hG.bl hb46) (hbw.trans (hb4.trans hb46)) (Nat.le_trans g1 g2)).mono ?_
              rintro e w7 ⟨rfl, hb7⟩
              have hb47 := hb46.trans hb7.bl
              have g0 := hide (hF0.out rfl)
              clear hcA hcB hsamed
              have hbX := hb34.trans (hb47)
              obtain ⟨y0, y1, -, -⟩ := at3.bl hbX
              have hyl := (at3.bl hbX).lt
              have hRX := hX.bl hbX
              obtain ⟨_, _, c0, c1⟩ := hRX.id ht.out
              have hbb := hRX.lt_addr ht.out
              have C0 := fun p : Wd _ => Wd.cell c0 hbb p
              have C1 := fun p : Wd _ => Wd.cell c1 hbb p
              have S0 := fun p : Wd _ => Wd.cell y0 hyl p
              have S1 := fun p : Wd _ => Wd.cell y1 hyl p
              have hGX := hG.bl (hb47)
              clear c0 c1 y0 y1
              go_wp2_with fail
              (refine wp_region_wd (by kernel_rfl) (by kernel_rfl) ?_
               repeat (go_big_quiet_step ((fail)))
               refine wpQuiet_nil ?_
               intro w9 hw'
               obtain ⟨⟨wx, hb9⟩, hw''⟩ := hw'
               subst hw'')
              have hfin := hide (hgo.out w9 (m) G g (hbX.trans hb9) (hGX.bl hb9) (Nat.le_trans g1 g2) (fun e => absurd e g0.out) (fun _ => rfl))
              go_wp2_with fail
              refine ⟨?_, ?measure⟩
              (repeat apply Exists.intro)
              refine ⟨?rel, ?eq⟩
              case eq => rfl
              case rel => exact hfin.out
              case measure => simp [intOf]; omega
            · go_wp2_with fail
              refine (hsamed.out F f Z z _ hF (hZ.bl hb4)).mono ?_
              rintro e w5 ⟨rfl, hb5⟩
              go_wp2_with fail
              refine (hcA.out F f _ (hF.bl hb5) (hbw.trans (hb4.trans hb5))).mono ?_
              rintro e w6 ⟨rfl, hb6⟩
              have hb46 := hb5.trans hb6.bl
              go_wp2_with fail
              refine (hcB.out G g _ (hG.bl hb46) (hbw.trans (hb4.trans hb46)) (Nat.le_trans g1 g2)).mono ?_
              rintro e w7 ⟨rfl, hb7⟩
              have hb47 := hb46.trans hb7.bl
              have g0 := hide (hT0.out rfl)
              clear hcA hcB hsamed
              have hbX := hb34.trans (hb47)
              obtain ⟨y0, y1, -, -⟩ := at3.bl hbX
              have hyl := (at3.bl hbX).lt
              have hRX := hX.bl hbX
              obtain ⟨_, _, c0, c1⟩ := hRX.id ht.out
              have hbb := hRX.lt_addr ht.out
              have C0 := fun p : Wd _ => Wd.cell c0 hbb p
              have C1 := fun p : Wd _ => Wd.cell c1 hbb p
              have S0 := fun p : Wd _ => Wd.cell y0 hyl p
              have S1 := fun p : Wd _ => Wd.cell y1 hyl p
              have hGX := hG.bl (hb47)
              clear c0 c1 y0 y1
              go_wp2_with fail
              (refine wp_region_wd (by kernel_rfl) (by kernel_rfl) ?_
               repeat (go_big_quiet_step ((fail)))
               refine wpQuiet_nil ?_
               intro w9 hw'
               obtain ⟨⟨wx, hb9⟩, hw''⟩ := hw'
               subst hw'')
              have hfin := hide (hgo.out w9 (m + 1) G g (hbX.trans hb9) (hGX.bl hb9) (Nat.le_trans g1 g2) (fun _ => rfl) (fun e => absurd g0.out e))
              go_wp2_with fail
              refine ⟨?_, ?measure⟩
              (repeat apply Exists.intro)
              refine ⟨?rel, ?eq⟩
              case eq => rfl
              case rel => exact hfin.out
              case measure => simp [intOf]; omega
          · go_wp2_with fail
            refine (hsamed.out F f Z z _ hF (hZ.bl hb4)).mono ?_
            rintro e w5 ⟨rfl, hb5⟩
            go_wp2_with fail
            refine (hcA.out F f _ (hF.bl hb5) (hbw.trans (hb4.trans hb5))).mono ?_
            rintro e w6 ⟨rfl, hb6⟩
            have hb46 := hb5.trans hb6.bl
            have g0 := hide (hT0.out rfl)
            clear hcA hcB hsamed
            have hbX := hb34.trans (hb46)
            obtain ⟨y0, y1, -, -⟩ := at3.bl hbX
            have hyl := (at3.bl hbX).lt
            have hRX := hX.bl hbX
            obtain ⟨_, _, c0, c1⟩ := hRX.id ht.out
            have hbb := hRX.lt_addr ht.out
            have C0 := fun p : Wd _ => Wd.cell c0 hbb p
            have C1 := fun p : Wd _ => Wd.cell c1 hbb p
            have S0 := fun p : Wd _ => Wd.cell y0 hyl p
            have S1 := fun p : Wd _ => Wd.cell y1 hyl p
            have hGX := hG.bl (hb46)
            clear c0 c1 y0 y1
            go_wp2_with fail
            (refine wp_region_wd (by kernel_rfl) (by kernel_rfl) ?_
             repeat (go_big_quiet_step ((fail)))
             refine wpQuiet_nil ?_
             intro w9 hw'
             obtain ⟨⟨wx, hb9⟩, hw''⟩ := hw'
             subst hw'')
            have hfin := hide (hgo.out w9 (m + 1) G g (hbX.trans hb9) (hGX.bl hb9) (Nat.le_trans g1 g2) (fun _ => rfl) (fun e => absurd g0.out e))
            go_wp2_with fail
            refine ⟨?_, ?measure⟩
            (repeat apply Exists.intro)
            refine ⟨?rel, ?eq⟩
            case eq => rfl
            case rel => exact hfin.out
            case measure => simp [intOf]; omega
    · have hkl : k = S.length := by omega
      have hm1' : m = 1 := by rw [hm.out, if_pos (by omega)]
      subst hm1'
      have hki : ¬ (k : Int) < (S.length : Int) := by omega
      replace hkl := hide hkl
      clear hm
      go_wp2_with fail
      go_ret
      exact ⟨rfl, hbw⟩
end Go.Proofs.Ytkolimhkfiebeaa
