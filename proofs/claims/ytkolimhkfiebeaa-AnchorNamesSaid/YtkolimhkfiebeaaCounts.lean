/-
  The walk of a section's method counts.
-/
import Derived.Test.YtkolimhkfiebeaaParent
import Derived.Test.YtkolimhkfiebeaaMarked
namespace Go.Proofs.Ytkolimhkfiebeaa
open Go.RowKit

theorem R.uniq {lo lo' : Nat} {w : World} {A : Option Addr} {p q : List Run} (h : R cRun lo w A p) (k : R cRun lo' w A q) (hl : p.length = q.length) : p = q := by
  apply List.ext_getElem? 
  intro i
  by_cases hi : i < p.length
  · obtain ⟨b, off, rfl, _, _⟩ := h.addr (by omega)
    obtain ⟨x, hx⟩ := get_lt hi
    obtain ⟨y, hy⟩ := get_lt (show i < q.length by omega)
    obtain ⟨_, _, c0, c1, c2⟩ := h.run hx
    obtain ⟨_, _, d0, d1, d2⟩ := k.run hy
    rw [c0] at d0
    rw [c1] at d1
    rw [c2] at d2
    injection d0 with d0
    injection d0 with _ d0
    injection d1 with d1
    injection d1 with _ d1
    injection d2 with d2
    injection d2 with _ d2
    rw [hx, hy, Run.ext' d0 d1 d2]
  · rw [List.getElem?_eq_none (by omega), List.getElem?_eq_none (by omega)]

/-- How many stamps a place in memory has: a measure. -/
theorem deep_meas : ∃ μ : Value → World → Nat, ∀ (w : World) (P : Option Addr) (q : List Run) (c : Nat), R cRun 0 w P q → μ (.slice P q.length c) w = (runsDeep q).toNat := by
  have h : ∀ (v : Value) (w : World), ∃ n : Nat, ∀ (P : Option Addr) (q : List Run) (c : Nat), v = .slice P q.length c → R cRun 0 w P q → n = (runsDeep q).toNat := by
    intro v w
    by_cases h : ∃ (P : Option Addr) (q : List Run) (c : Nat), v = .slice P q.length c ∧ R cRun 0 w P q
    · obtain ⟨P, q, c, rfl, hq⟩ := h
      refine ⟨(runsDeep q).toNat, fun P' q' c' e h' => ?_⟩
      injection e with e1 e2 e3
      subst e1
      rw [hq.uniq h' e2]
    · exact ⟨0, fun P q c e hq => absurd ⟨P, q, c, e, hq⟩ h⟩
  exact ⟨fun v w => Classical.choose (h v w), fun w P q c hq => Classical.choose_spec (h (.slice P q.length c) w) P q c rfl hq⟩

theorem back_zero (l : List Op) (s : Id) (p : List Run) : backF l s p 0 = true := rfl

theorem back_step (l : List Op) (s : Id) (p : List Run) (k : Nat) : backF l s p (k + 1) = if homeF (livesF l) (cutN p ((k + 1 : Nat) : Int)) = s then (if hasId l (placeFin (cutN p ((k + 1 : Nat) : Int))) then backF l s p k else false) else true := rfl

/-- What a section knows of a bag: where places are homed, which stamps are held. -/
structure Knows (l : List Op) (s : Id) (fr tu : List Run) (f : Id → Int) : Prop where
  hin : ∀ q, plAny q = true → inB fr tu q = decide (homeF (livesF l) q = s)
  has : ∀ id, decide (0 < f id) = hasId l id

theorem may_any {p : List Run} (h : placeMay p = true) : plAny p = true := by unfold plAny; rw [h, Bool.or_true]

set_option maxRecDepth 100000 in
set_option maxHeartbeats 4000000 in
theorem sectCounts (l : List Op) (s : Id) (x : Op) (A F T : Option Addr) (c cf ct Y : Nat) (fr tu : List Run) (f : Id → Int) (w : World) (hk : Knows l s fr tu f) (hx : OpIn w x A c) (hm : placeMay x.pl = true) (hc : contentO x = true) (hs : SectAt w fr tu f F cf T ct Y) :
    Calls Try.prog 213 #[.agg #[.slice F fr.length cf, .slice T tu.length ct, .func (.func 234) #[] #[.pointer (some ⟨Y, 0, none⟩)]], .agg #[.int .u8 x.kind, .int .u32 x.id.t, .int .u8 x.id.r, .slice A x.pl.length c, .int .i64 x.pt]] w fun e w' => e = .returned (.bool (backF l s x.pl (manyO x).toNat)) ∧ Bl w w' := by
  obtain ⟨μ, hμ⟩ := deep_meas
  obtain ⟨W, hW⟩ : ∃ W, W = (w.alloc (.cells #[.slice F fr.length cf, .slice T tu.length ct, .func (.func 234) #[] #[.pointer (some ⟨Y, 0, none⟩)]] 237)).alloc (.cells #[Value.int IntKind.u8 x.kind, Value.int IntKind.u32 x.id.t, Value.int IntKind.u8 x.id.r, Value.slice A x.pl.length c, Value.int IntKind.i64 x.pt] 68) := ⟨_, rfl⟩
  have hbW : Bl w W := by rw [hW]; exact ((Bl.refl _).alloc _).alloc _
  have at0 : At W w.heap.size 0 [.slice F fr.length cf, .slice T tu.length ct, .func (.func 234) #[] #[.pointer (some ⟨Y, 0, none⟩)]] := by
    rw [hW]
    exact (At.new w _ _).bl ((Bl.refl _).alloc _) (by simp)
  have at1 : OpBox W (w.heap.size + 1) x A c := by
    have h := OpBox.new (w.alloc (.cells #[.slice F fr.length cf, .slice T tu.length ct, .func (.func 234) #[] #[.pointer (some ⟨Y, 0, none⟩)]] 237)) x A c 68
    rw [World.size_alloc w] at h
    rw [hW]
    exact h
  obtain ⟨x0, x1, x2, x3, x4⟩ := at1.cells
  have hl0 := at0.lt (by simp)
  have hsW := hs.bl hbW
  have hxW := hx.hR.bl hbW
  have hdeep : 1 ≤ runsDeep x.pl := by
    have h1 := runsDeep_bd x.pl _ _ (placeMay_parts hm).2.2.1
    have h2 := (placeMay_parts hm).1
    omega
  have hd4 : runsDeep x.pl ≤ 4096 := (placeMay_parts hm).2.2.2
  obtain ⟨D, hD⟩ : ∃ D : Nat, (D : Int) = runsDeep x.pl := ⟨(runsDeep x.pl).toNat, by omega⟩
  obtain ⟨R0, hR0⟩ : ∃ R0, R0 = backF l s x.pl (manyO x).toNat := ⟨_, rfl⟩
  rw [← hR0]
  have hpar := hide (coverParent A c x.pl W hm hxW)
  have hcut := hide fun (k : Nat) (h0 : 1 ≤ k) (h1 : k ≤ D) => (show placeMay (cutN x.pl (k : Int)) = true ∧ runsDeep (cutN x.pl (k : Int)) = (k : Int) from ⟨may_cut hm (by omega) (by omega), deep_cut (may_pos hm) (by omega) (by omega)⟩)
  have hcc := hide fun (k : Nat) => (show cutN (cutN x.pl ((k + 1 : Nat) : Int)) (k : Int) = cutN x.pl (k : Int) from cutN_cut (may_pos hm) (by omega))
  have hall := hide (show cutN x.pl (D : Int) = x.pl from cutN_all (may_pos hm) (by omega))
  have hzero := hide (show cutN x.pl 0 = [] from cutN_zero _ (by omega))
  have hbs := hide fun (k : Nat) => back_step l s x.pl k
  have hbz := hide (back_zero l s x.pl)
  replace hk := hide hk
  replace hm := hide hm
  obtain ⟨mb, mn, hY, hmap⟩ := hsW.hY
  have hF := hsW.hF
  have hT := hsW.hT
  have hf1 := Nat.le_trans hs.f1 hs.f2
  have ht1 := Nat.le_trans hs.t1 hs.t2
  -- the loop, from k stamps on
  have hkind : (x.kind = 1 ∧ manyO x = (D : Int) - 1) ∨ (x.kind = 3 ∧ manyO x = (D : Int)) := by
    unfold contentO at hc
    rw [Bool.or_eq_true, decide_eq_true_eq, decide_eq_true_eq] at hc
    unfold manyO
    rcases hc with h | h
    · left
      rw [if_pos (.inl h)]
      exact ⟨h, by omega⟩
    · right
      rw [if_neg (by omega)]
      exact ⟨h, by omega⟩
  rcases hkind with ⟨h1, h2⟩ | ⟨h1, h2⟩
  · have hK : (manyO x).toNat = D - 1 := by omega
    rw [hK] at hR0
    rw [show runsDeep x.pl - 1 = ((D - 1 : Nat) : Int) by omega] at hpar
    have hK0 : D - 1 ≤ D := Nat.sub_le _ _
    generalize D - 1 = K at *
    have e1 : (x.kind == 1) = true := by simp [h1]
    replace h1 := hide h1
    replace hR0 := hide hR0
    clear h2 hK hc
    go_enter Try.func213, Try.ntmps213
    go_wp2_with fail
    go_step3
    go_wp2_with fail
    rw [← hW]
    clear hW
    refine hpar.out.mono ?_
    rintro e w1 ⟨P, pc, rfl, p1, p2, hP, hb1⟩
    replace hP := hP.zero
    clear hxW hsW x0 x1 x2 x3 x4 at1
    go_wp2_with fail
    go_step3
    go_wp2_with fail
    go_loopw [5] (fun v wr => Bl W wr ∧ ∃ (k : Nat) (P : Option Addr) (pc : Nat), k ≤ D ∧ v = .slice P (cutN x.pl (k : Int)).length pc ∧ (cutN x.pl (k : Int)).length ≤ pc ∧ pc ≤ maxLen ∧ R cRun 0 wr P (cutN x.pl (k : Int)) ∧ Hid (R0 = backF l s x.pl k)) (fun v wr => μ v wr)
    case atStart => exact ⟨hb1, K, _, _, hK0, rfl, p1, p2, hP, hR0.out⟩
    case round =>
      clear hP p1 p2 hb1 hR0 hK0
      obtain ⟨hbl, k, P, pc, hkD, rfl, p1, p2, hP, hR⟩ := hrel
      match k, hkD with
      | 0, hkD =>
        have hz : cutN x.pl ((0 : Nat) : Int) = [] := hzero.out
        rw [hz]
        have g := hide (show true = R0 by rw [hR.out]; exact hbz.out.symm)
        clear hcut hcc hbs hR hP hz
        go_wp2_with fail
        (try rw [Exit.noGoto_ret])
        go_ret
        exact ⟨ret_bool g.out, hbW.trans hbl⟩
      | k + 1, hkD =>
        obtain ⟨hqm, hqd⟩ := hcut.out (k + 1) (by omega) hkD
        have hstep := hbs.out k
        rw [← hR.out] at hstep
        have hcck := hcc.out k
        have hmeas := hμ wr P (cutN x.pl ((k + 1 : Nat) : Int)) pc hP
        rw [hqd] at hmeas
        have hmeas2 : ∀ (W2 : World) (P2 : Option Addr) (pc2 : Nat), R cRun 0 W2 P2 (cutN x.pl (k : Int)) → μ (.slice P2 (cutN x.pl (k : Int)).length pc2) W2 < μ (.slice P (cutN x.pl ((k + 1 : Nat) : Int)).length pc) wr := fun W2 P2 pc2 h2 => by
          rw [hμ W2 P2 _ pc2 h2, hmeas]
          have : (runsDeep (cutN x.pl (k : Int))).toNat = k := by
            by_cases h0 : k = 0
            · subst h0
              rw [show cutN x.pl ((0 : Nat) : Int) = [] from hzero.out]
              rfl
            · rw [(hcut.out k (by omega) (by omega)).2]
              omega
          omega
        replace hmeas2 := hide hmeas2
        obtain ⟨q, hq⟩ : ∃ q, q = cutN x.pl ((k + 1 : Nat) : Int) := ⟨_, rfl⟩
        rw [← hq] at hP p1 hqm hqd hstep hcck hmeas2 ⊢
        have hql : 1 ≤ q.length := (placeMay_parts hqm).1
        have hqs : q.length ≤ maxLen := Nat.le_trans p1 p2
        have hlaV := fun V (hv : Bl wr V) => placeLast P pc q V hqs (hP.bl hv)
        have hprV := fun V (hv : Bl wr V) => coverParent P pc q V hqm (hP.bl hv)
        rw [hqd, show ((k + 1 : Nat) : Int) - 1 = (k : Int) by omega, hcck] at hprV
        have hinq := hk.out.hin q (may_any hqm)
        have hci := sectIn fr tu q F T P cf ct pc (.func (.func 234) #[] #[.pointer (some ⟨Y, 0, none⟩)]) wr hf1 ht1 hqs (hF.bl hbl) (hT.bl hbl) hP
        rw [hinq] at hci
        obtain ⟨z0, z1, z2⟩ : wr.cell? ⟨w.heap.size, 0, none⟩ = some (.slice F fr.length cf) ∧ wr.cell? ⟨w.heap.size, 1, none⟩ = some (.slice T tu.length ct) ∧ wr.cell? ⟨w.heap.size, 2, none⟩ = some (.func (.func 234) #[] #[.pointer (some ⟨Y, 0, none⟩)]) := by
          have h := at0.bl hbl (by simp)
          exact ⟨by simpa using (h 0 _ rfl).1, by simpa using (h 1 _ rfl).1, by simpa using (h 2 _ rfl).1⟩
        generalize q.length = nq at *
        have hqi : ((nq : Int) == 0) = false := by rw [beq_eq_false_iff_ne]; omega
        replace hlaV := hide hlaV
        replace hprV := hide hprV
        by_cases hh : homeF (livesF l) q = s
        · rw [decide_eq_true hh] at hci
          rw [if_pos hh] at hstep
          replace hci := hide hci
          replace hh := hide hh
          go_wp2_with fail
          refine hci.out.mono ?_
          rintro e w2 ⟨rfl, hb2⟩
          have hb02 := hbl.trans hb2
          have hla := hide fun p : Wd w2 => hlaV.out p.v (hb2.trans p.h)
          have hfo := fin_ok hP
          have hhas := fun p : Wd w2 => coverHas (placeFin q) Y mb mn f p.v hfo ((hb02.trans p.h).cell (World.block_lt_of_cell? _ _ hY) |>.trans hY) (hmap.bl (hb02.trans p.h))
          rw [hk.out.has (placeFin q)] at hhas
          have hl2 := Nat.lt_of_lt_of_le hl0 hb02.size
          have Z2 := fun p : Wd w2 => Wd.cell ((hb2.cell (Nat.lt_of_lt_of_le hl0 hbl.size)).trans z2) hl2 p
          clear z0 z1 z2 hci
          generalize placeFin q = fq at *
          cases hv : hasId l fq
          · rw [hv] at hhas hstep
            have g := hide (show false = R0 from hstep.symm)
            replace hhas := hide hhas
            clear hstep hv hcut hcc hbs hR
            go_wp2_with fail
            (refine wp_region_wd (by kernel_rfl) (by kernel_rfl) ?_
             repeat (go_big_quiet_step ((first | (go_at_call 54; exact Calls.wd (hla.out _)) | (go_at_call 234; exact Calls.wd (hhas.out _)))))
             refine wpQuiet_nil ?_
             intro w3 hw'
             obtain ⟨⟨wx, hb3⟩, hw''⟩ := hw'
             subst hw'')
            go_wp2_with fail
            (try rw [Exit.noGoto_ret])
            go_ret
            exact ⟨ret_bool g.out, hbW.trans (hb02.trans hb3)⟩
          · rw [hv] at hhas hstep
            have g := hide (show R0 = backF l s x.pl k from hstep)
            replace hhas := hide hhas
            have hpr := hprV
            clear hstep hv hbs hR
            go_wp2_with fail
            (refine wp_region_wd (by kernel_rfl) (by kernel_rfl) ?_
             repeat (go_big_quiet_step ((first | (go_at_call 54; exact Calls.wd (hla.out _)) | (go_at_call 234; exact Calls.wd (hhas.out _)))))
             refine wpQuiet_nil ?_
             intro w3 hw'
             obtain ⟨⟨wx, hb3⟩, hw''⟩ := hw'
             subst hw'')
            go_wp2_with fail
            refine (hpr.out _ (hb2.trans hb3)).mono ?_
            rintro e w4 ⟨P4, c4, rfl, q1, q2, hP4, hb4⟩
            have hfin := hide (hb02.trans (hb3.trans hb4))
            have hm4 := hide (hmeas2.out w4 P4 c4 hP4.zero)
            go_wp2_with fail
            go_roundw
            case rel => exact ⟨hfin.out, k, P4, c4, by omega, rfl, q1, q2, hP4.zero, g⟩
            case measure => exact hm4.out
        · rw [decide_eq_false hh] at hci
          rw [if_neg hh] at hstep
          have g := hide (show true = R0 from hstep.symm)
          replace hci := hide hci
          replace hh := hide hh
          clear hstep hcut hcc hbs hR
          go_wp2_with fail
          refine hci.out.mono ?_
          rintro e w2 ⟨rfl, hb2⟩
          go_wp2_with fail
          (try rw [Exit.noGoto_ret])
          go_ret
          exact ⟨ret_bool g.out, hbW.trans (hbl.trans hb2)⟩
  · have hK : (manyO x).toNat = D := by omega
    rw [hK] at hR0
    have e1 : (x.kind == 1) = false := by simp [h1]
    have e1' : ¬ x.kind = 1 := by omega
    replace h1 := hide h1
    obtain ⟨K, hKD⟩ : ∃ K, K = D := ⟨_, rfl⟩
    rw [← hKD] at hR0
    have hK0 : K ≤ D := by omega
    have hP : R cRun 0 W A (cutN x.pl (K : Int)) := by rw [hKD, hall.out]; exact hxW
    have hle : (cutN x.pl (K : Int)).length = x.pl.length := by rw [hKD, hall.out]
    have p1 : (cutN x.pl (K : Int)).length ≤ c := by rw [hle]; exact hx.h1
    have p2 := hx.h2
    have hb1 := Bl.refl W
    replace hR0 := hide hR0
    replace hKD := hide hKD
    replace hle := hide hle
    clear h2 hK hc hpar
    go_enter Try.func213, Try.ntmps213
    go_wp2_with fail
    go_step3
    go_wp2_with fail
    rw [← hW]
    clear hW
    rw [← hle.out]
    clear hxW hsW x0 x1 x2 x3 x4 at1
    go_wp2_with fail
    go_step3
    go_wp2_with fail
    go_loopw [5] (fun v wr => Bl W wr ∧ ∃ (k : Nat) (P : Option Addr) (pc : Nat), k ≤ D ∧ v = .slice P (cutN x.pl (k : Int)).length pc ∧ (cutN x.pl (k : Int)).length ≤ pc ∧ pc ≤ maxLen ∧ R cRun 0 wr P (cutN x.pl (k : Int)) ∧ Hid (R0 = backF l s x.pl k)) (fun v wr => μ v wr)
    case atStart => exact ⟨hb1, K, _, _, hK0, rfl, p1, p2, hP, hR0.out⟩
    case round =>
      clear hP p1 p2 hb1 hR0 hK0
      obtain ⟨hbl, k, P, pc, hkD, rfl, p1, p2, hP, hR⟩ := hrel
      match k, hkD with
      | 0, hkD =>
        have hz : cutN x.pl ((0 : Nat) : Int) = [] := hzero.out
        rw [hz]
        have g := hide (show true = R0 by rw [hR.out]; exact hbz.out.symm)
        clear hcut hcc hbs hR hP hz
        go_wp2_with fail
        (try rw [Exit.noGoto_ret])
        go_ret
        exact ⟨ret_bool g.out, hbW.trans hbl⟩
      | k + 1, hkD =>
        obtain ⟨hqm, hqd⟩ := hcut.out (k + 1) (by omega) hkD
        have hstep := hbs.out k
        rw [← hR.out] at hstep
        have hcck := hcc.out k
        have hmeas := hμ wr P (cutN x.pl ((k + 1 : Nat) : Int)) pc hP
        rw [hqd] at hmeas
        have hmeas2 : ∀ (W2 : World) (P2 : Option Addr) (pc2 : Nat), R cRun 0 W2 P2 (cutN x.pl (k : Int)) → μ (.slice P2 (cutN x.pl (k : Int)).length pc2) W2 < μ (.slice P (cutN x.pl ((k + 1 : Nat) : Int)).length pc) wr := fun W2 P2 pc2 h2 => by
          rw [hμ W2 P2 _ pc2 h2, hmeas]
          have : (runsDeep (cutN x.pl (k : Int))).toNat = k := by
            by_cases h0 : k = 0
            · subst h0
              rw [show cutN x.pl ((0 : Nat) : Int) = [] from hzero.out]
              rfl
            · rw [(hcut.out k (by omega) (by omega)).2]
              omega
          omega
        replace hmeas2 := hide hmeas2
        obtain ⟨q, hq⟩ : ∃ q, q = cutN x.pl ((k + 1 : Nat) : Int) := ⟨_, rfl⟩
        rw [← hq] at hP p1 hqm hqd hstep hcck hmeas2 ⊢
        have hql : 1 ≤ q.length := (placeMay_parts hqm).1
        have hqs : q.length ≤ maxLen := Nat.le_trans p1 p2
        have hlaV := fun V (hv : Bl wr V) => placeLast P pc q V hqs (hP.bl hv)
        have hprV := fun V (hv : Bl wr V) => coverParent P pc q V hqm (hP.bl hv)
        rw [hqd, show ((k + 1 : Nat) : Int) - 1 = (k : Int) by omega, hcck] at hprV
        have hinq := hk.out.hin q (may_any hqm)
        have hci := sectIn fr tu q F T P cf ct pc (.func (.func 234) #[] #[.pointer (some ⟨Y, 0, none⟩)]) wr hf1 ht1 hqs (hF.bl hbl) (hT.bl hbl) hP
        rw [hinq] at hci
        obtain ⟨z0, z1, z2⟩ : wr.cell? ⟨w.heap.size, 0, none⟩ = some (.slice F fr.length cf) ∧ wr.cell? ⟨w.heap.size, 1, none⟩ = some (.slice T tu.length ct) ∧ wr.cell? ⟨w.heap.size, 2, none⟩ = some (.func (.func 234) #[] #[.pointer (some ⟨Y, 0, none⟩)]) := by
          have h := at0.bl hbl (by simp)
          exact ⟨by simpa using (h 0 _ rfl).1, by simpa using (h 1 _ rfl).1, by simpa using (h 2 _ rfl).1⟩
        generalize q.length = nq at *
        have hqi : ((nq : Int) == 0) = false := by rw [beq_eq_false_iff_ne]; omega
        replace hlaV := hide hlaV
        replace hprV := hide hprV
        by_cases hh : homeF (livesF l) q = s
        · rw [decide_eq_true hh] at hci
          rw [if_pos hh] at hstep
          replace hci := hide hci
          replace hh := hide hh
          go_wp2_with fail
          refine hci.out.mono ?_
          rintro e w2 ⟨rfl, hb2⟩
          have hb02 := hbl.trans hb2
          have hla := hide fun p : Wd w2 => hlaV.out p.v (hb2.trans p.h)
          have hfo := fin_ok hP
          have hhas := fun p : Wd w2 => coverHas (placeFin q) Y mb mn f p.v hfo ((hb02.trans p.h).cell (World.block_lt_of_cell? _ _ hY) |>.trans hY) (hmap.bl (hb02.trans p.h))
          rw [hk.out.has (placeFin q)] at hhas
          have hl2 := Nat.lt_of_lt_of_le hl0 hb02.size
          have Z2 := fun p : Wd w2 => Wd.cell ((hb2.cell (Nat.lt_of_lt_of_le hl0 hbl.size)).trans z2) hl2 p
          clear z0 z1 z2 hci
          generalize placeFin q = fq at *
          cases hv : hasId l fq
          · rw [hv] at hhas hstep
            have g := hide (show false = R0 from hstep.symm)
            replace hhas := hide hhas
            clear hstep hv hcut hcc hbs hR
            go_wp2_with fail
            (refine wp_region_wd (by kernel_rfl) (by kernel_rfl) ?_
             repeat (go_big_quiet_step ((first | (go_at_call 54; exact Calls.wd (hla.out _)) | (go_at_call 234; exact Calls.wd (hhas.out _)))))
             refine wpQuiet_nil ?_
             intro w3 hw'
             obtain ⟨⟨wx, hb3⟩, hw''⟩ := hw'
             subst hw'')
            go_wp2_with fail
            (try rw [Exit.noGoto_ret])
            go_ret
            exact ⟨ret_bool g.out, hbW.trans (hb02.trans hb3)⟩
          · rw [hv] at hhas hstep
            have g := hide (show R0 = backF l s x.pl k from hstep)
            replace hhas := hide hhas
            have hpr := hprV
            clear hstep hv hbs hR
            go_wp2_with fail
            (refine wp_region_wd (by kernel_rfl) (by kernel_rfl) ?_
             repeat (go_big_quiet_step ((first | (go_at_call 54; exact Calls.wd (hla.out _)) | (go_at_call 234; exact Calls.wd (hhas.out _)))))
             refine wpQuiet_nil ?_
             intro w3 hw'
             obtain ⟨⟨wx, hb3⟩, hw''⟩ := hw'
             subst hw'')
            go_wp2_with fail
            refine (hpr.out _ (hb2.trans hb3)).mono ?_
            rintro e w4 ⟨P4, c4, rfl, q1, q2, hP4, hb4⟩
            have hfin := hide (hb02.trans (hb3.trans hb4))
            have hm4 := hide (hmeas2.out w4 P4 c4 hP4.zero)
            go_wp2_with fail
            go_roundw
            case rel => exact ⟨hfin.out, k, P4, c4, by omega, rfl, q1, q2, hP4.zero, g⟩
            case measure => exact hm4.out
        · rw [decide_eq_false hh] at hci
          rw [if_neg hh] at hstep
          have g := hide (show true = R0 from hstep.symm)
          replace hci := hide hci
          replace hh := hide hh
          clear hstep hcut hcc hbs hR
          go_wp2_with fail
          refine hci.out.mono ?_
          rintro e w2 ⟨rfl, hb2⟩
          go_wp2_with fail
          (try rw [Exit.noGoto_ret])
          go_ret
          exact ⟨ret_bool g.out, hbW.trans (hbl.trans hb2)⟩
end Go.Proofs.Ytkolimhkfiebeaa
