/-
  The walks of layer 19's references May, Check, Same, Great, and of shelf.Same.
-/
import Derived.Test.YteoodmilcpmmpaaGreatRef19One
import Derived.Test.YteoodmilcpmmpaaGreatEntB
namespace Go.Proofs.YteoodmilcpmmpaaGreat

open Go.RowKit

set_option maxRecDepth 100000 in
set_option maxHeartbeats 2000000 in
theorem refMay19 (A : Option Addr) (c : Nat) (l : List Entry) (w : World) (hl : l.length ≤ maxLen) (hA : R cEntry 0 w A l) :
    Calls Tryz.prog 132 #[.slice A l.length c] w fun e w' => e = .returned (.bool (shelfMay l)) ∧ Bl w w' := by
  have hl' := hl
  unfold maxLen at hl'
  by_cases hbig : 65 < l.length
  · have e1 : shelfMay l = false := by unfold shelfMay; simp; intro h; omega
    have E1 := hide e1; clear e1
    have hd : decide ((l.length : Int) ≤ 65) = false := by simp; omega
    go_enter Tryz.func132, Tryz.ntmps132
    go_wp2
    go_loopw [3] (fun i wr => Bl w wr ∧ i = .int .i64 0) (fun _ _ => 0)
    case atStart => exact ⟨Bl.refl _, rfl⟩
    case round =>
      obtain ⟨hbl, rfl⟩ := hrel
      go_wp2
      go_ret
      exact ⟨ret_bool E1.out.symm, hbl⟩
  have e1 : shelfMay l = shelfFrom none l := by unfold shelfMay; simp; intro _; omega
  have E1 := hide e1; clear e1
  have hd65 : decide ((l.length : Int) ≤ 65) = true := by simp; omega
  go_enter Tryz.func132, Tryz.ntmps132
  go_wp2
  go_loopw [3] (fun i wr => Bl w wr ∧ ∃ (k : Nat), k ≤ l.length ∧ i = .int .i64 k ∧ Hid (shelfFrom none l = shelfFrom (prevOf l k) (l.drop k))) (fun i _ => l.length - (intOf i).toNat)
  case atStart => exact ⟨Bl.refl _, 0, Nat.zero_le _, rfl, rfl⟩
  case round =>
    obtain ⟨hbl, k, hk, rfl, hf⟩ := hrel
    by_cases hlt : k < l.length
    · have hR := hA.bl hbl
      obtain ⟨b, off, rfl, _, hb⟩ := hR.addr (by omega)
      obtain ⟨x, hx⟩ := get_lt hlt
      obtain ⟨_, ho, S, sc, G, gc, s1, s2, g1, g2, hS, hG, c0, c1, c2, c3, c4, c5, c6, c7⟩ := hR.entry hx
      have hd := hide (drop_cons hx)
      have hpn := hide (prevOf_succ hx)
      clear hx
      have C0 := fun p : Wd wr => Wd.cell c0 hb p
      have C1 := fun p : Wd wr => Wd.cell c1 hb p
      have C2 := fun p : Wd wr => Wd.cell c2 hb p
      have C3 := fun p : Wd wr => Wd.cell c3 hb p
      have C4 := fun p : Wd wr => Wd.cell c4 hb p
      have C5 := fun p : Wd wr => Wd.cell c5 hb p
      have C6 := fun p : Wd wr => Wd.cell c6 hb p
      have C7 := fun p : Wd wr => Wd.cell c7 hb p
      clear c0 c1 c2 c3 c4 c5 c6 c7
      have hone := fun V (hV : Bl wr V) => refOne19 x S G sc gc V ho (by omega) (by omega) (hS.bl hV)
      have hi0 : (0 : Int) ≤ (k : Int) := by omega
      have hi1 : (k : Int) < (l.length : Int) := by omega
      cases hm : entryMay x
      · have g := hide (shelfFrom_bad1 hf.out hd.out hm)
        rw [hm] at hone
        replace hone := hide hone
        clear hm
        go_wp2
        (refine wp_region_wd (by kernel_rfl) (by kernel_rfl) ?_
         repeat (go_big_quiet_step ((go_at_call 187; exact Calls.wd (hone.out _ (Wd.h _)))))
         refine wpQuiet_nil ?_
         intro w2 hw'
         obtain ⟨⟨wx, hb2⟩, hw''⟩ := hw'
         subst hw'')
        go_wp2
        go_ret
        exact ⟨ret_bool (by rw [E1.out, g.out]), hbl.trans hb2⟩
      · have hgood := shelfFrom_good hf.out hd.out hm
        have hbad := shelfFrom_bad2 hf.out hd.out
        rw [hm] at hone
        replace hone := hide hone
        clear hm
        by_cases hk0 : k = 0
        · have g : Hid (shelfFrom none l = shelfFrom (prevOf l (k + 1)) (l.drop (k + 1))) := by
            rw [Hid, hpn.out]; exact hgood (by rw [hk0]; rfl)
          clear hgood hbad hpn
          subst hk0
          simp only [Nat.zero_mul, Nat.add_zero] at C0 C1 C2 C3 C4 C5 C6 C7
          go_wp2
          (refine wp_region_wd (by kernel_rfl) (by kernel_rfl) ?_
           repeat (go_big_quiet_step ((go_at_call 187; exact Calls.wd (hone.out _ (Wd.h _)))))
           refine wpQuiet_nil ?_
           intro w2 hw'
           obtain ⟨⟨wx, hb2⟩, hw''⟩ := hw'
           subst hw'')
          go_wp2
          go_roundw
          case rel => exact ⟨hbl.trans hb2, 1, by omega, by go_num, g⟩
          case measure => simp [intOf]; omega
        · obtain ⟨y, hy⟩ := get_lt (show k - 1 < l.length by omega)
          have hprev : prevOf l k = some y.id := by unfold prevOf; rw [if_neg hk0, hy]; rfl
          obtain ⟨_, hyo, _, _, _, _, _, _, _, _, _, _, d0, d1, _⟩ := hR.entry hy
          have D0 := fun p : Wd wr => Wd.cell d0 hb p
          have D1 := fun p : Wd wr => Wd.cell d1 hb p
          clear d0 d1 hy
          have h4' : decide (0 < (k : Int)) = true := by simp; omega
          have h5' : 0 < k := by omega
          have e1 : IntKind.i64.wrap ((k : Int) - 1) = (k : Int) - 1 := IntWalk.i64_in _ (by omega)
          have e2 : ((k : Int) - 1).toNat = k - 1 := by omega
          have e3 : (0 : Int) ≤ (k : Int) - 1 := by omega
          have e4 : (k : Int) - 1 < (l.length : Int) := by omega
          have hless := fun V => refLess05 y.id x.id V
          rw [hprev] at hgood hbad
          cases hq : idLess y.id x.id
          · have g := hide (hbad hq)
            rw [hq] at hless
            replace hless := hide hless
            clear hq hgood hbad hprev
            go_wp2
            (refine wp_region_wd (by kernel_rfl) (by kernel_rfl) ?_
             repeat (go_big_quiet_step ((first | (go_at_call 187; exact Calls.wd (hone.out _ (Wd.h _))) | (go_at_call 100; exact Calls.wd (hless.out _)))))
             refine wpQuiet_nil ?_
             intro w2 hw'
             obtain ⟨⟨wx, hb2⟩, hw''⟩ := hw'
             subst hw'')
            go_wp2
            go_ret
            exact ⟨ret_bool (by rw [E1.out, g.out]), hbl.trans hb2⟩
          · have g : Hid (shelfFrom none l = shelfFrom (prevOf l (k + 1)) (l.drop (k + 1))) := by
              rw [Hid, hpn.out]; exact hgood hq
            rw [hq] at hless
            replace hless := hide hless
            clear hq hgood hbad hprev
            go_wp2
            (refine wp_region_wd (by kernel_rfl) (by kernel_rfl) ?_
             repeat (go_big_quiet_step ((first | (go_at_call 187; exact Calls.wd (hone.out _ (Wd.h _))) | (go_at_call 100; exact Calls.wd (hless.out _)))))
             refine wpQuiet_nil ?_
             intro w2 hw'
             obtain ⟨⟨wx, hb2⟩, hw''⟩ := hw'
             subst hw'')
            go_wp2
            go_roundw
            case rel => exact ⟨hbl.trans hb2, k + 1, by omega, by go_num, g⟩
            case measure => simp [intOf]; omega
    · have hkl : l.length ≤ k := by omega
      go_wp2
      go_ret
      exact ⟨ret_bool (by rw [E1.out, hf.out, List.drop_eq_nil_of_le hkl]; rfl), hbl⟩

set_option maxRecDepth 100000 in
set_option maxHeartbeats 1000000 in
theorem refSame19 (A B : Option Addr) (c d : Nat) (l m : List Entry) (w : World) (hl : l.length ≤ maxLen) (_hm : m.length ≤ maxLen) (hA : R cEntry 0 w A l) (hB : R cEntry 0 w B m) :
    Calls Tryz.prog 31 #[.slice A l.length c, .slice B m.length d] w fun e w' => e = .returned (.bool (same l m)) ∧ Bl w w' := by
  unfold maxLen at hl
  by_cases hne : l.length = m.length
  · have hne1 : ((l.length : Int) != (m.length : Int)) = false := by simp [hne]
    have hle : l.length ≤ m.length := by omega
    have hle' : m.length ≤ l.length := by omega
    clear hne
    go_enter Tryz.func31, Tryz.ntmps31
    go_wp2
    go_loopw [5] (fun i wr => Bl w wr ∧ ∃ k : Nat, k ≤ l.length ∧ i = .int .i64 k ∧ Hid (decide (l = m) = decide (l.drop k = m.drop k))) (fun i _ => l.length - (intOf i).toNat)
    case atStart => exact ⟨Bl.refl _, 0, Nat.zero_le _, rfl, rfl⟩
    case round =>
      obtain ⟨hbl, k, hk, rfl, hf⟩ := hrel
      by_cases hlt : k < l.length
      · have hR := hA.bl hbl
        have hS := hB.bl hbl
        obtain ⟨b, off, rfl, _, hb⟩ := hR.addr (by omega)
        obtain ⟨b', off', rfl, _, hb'⟩ := hS.addr (by omega)
        obtain ⟨x, hx⟩ := get_lt hlt
        obtain ⟨y, hy⟩ := get_lt (show k < m.length by omega)
        obtain ⟨_, _, S, sc, G, gc, s1, s2, g1, g2, hS1, hG1, c0, c1, c2, c3, c4, c5, c6, c7⟩ := hR.entry hx
        obtain ⟨_, _, S', sc', G', gc', s1', s2', g1', g2', hS2, hG2, d0, d1, d2, d3, d4, d5, d6, d7⟩ := hS.entry hy
        have C0 := fun p : Wd wr => Wd.cell c0 hb p
        have C1 := fun p : Wd wr => Wd.cell c1 hb p
        have C2 := fun p : Wd wr => Wd.cell c2 hb p
        have C3 := fun p : Wd wr => Wd.cell c3 hb p
        have C4 := fun p : Wd wr => Wd.cell c4 hb p
        have C5 := fun p : Wd wr => Wd.cell c5 hb p
        have C6 := fun p : Wd wr => Wd.cell c6 hb p
        have C7 := fun p : Wd wr => Wd.cell c7 hb p
        have D0 := fun p : Wd wr => Wd.cell d0 hb' p
        have D1 := fun p : Wd wr => Wd.cell d1 hb' p
        have D2 := fun p : Wd wr => Wd.cell d2 hb' p
        have D3 := fun p : Wd wr => Wd.cell d3 hb' p
        have D4 := fun p : Wd wr => Wd.cell d4 hb' p
        have D5 := fun p : Wd wr => Wd.cell d5 hb' p
        have D6 := fun p : Wd wr => Wd.cell d6 hb' p
        have D7 := fun p : Wd wr => Wd.cell d7 hb' p
        clear c0 c1 c2 c3 c4 c5 c6 c7 d0 d1 d2 d3 d4 d5 d6 d7
        replace hx := hide hx
        replace hy := hide hy
        have hi : (k : Int) < (l.length : Int) := by omega
        have hi' : (k : Int) < (m.length : Int) := by omega
        have hi0 : (0 : Int) ≤ (k : Int) := by omega
        have hcall := fun W (hW : Bl wr W) => refSameOne x y S G S' G' sc gc sc' gc' W (by omega) (by omega) (by omega) (by omega) (hS1.bl hW) (hG1.bl hW) (hS2.bl hW) (hG2.bl hW)
        cases hq : eqEntry x y
        · have g := hide (drop_ne_step hf.out hx.out hy.out (eqEntry_false hq))
          rw [hq] at hcall
          replace hcall := hide hcall
          clear hq
          go_wp2
          (refine wp_region_wd (by kernel_rfl) (by kernel_rfl) ?_
           repeat (go_big_quiet_step ((go_at_call 86; exact Calls.wd (hcall.out _ (Wd.h _)))))
           refine wpQuiet_nil ?_
           intro w2 hw'
           obtain ⟨⟨wx, hb2⟩, hw''⟩ := hw'
           subst hw'')
          go_wp2
          go_ret
          exact ⟨ret_bool g.out, hbl.trans hb2⟩
        · have g := hide (drop_eq_step hf.out hx.out hy.out (eqEntry_true hq))
          rw [hq] at hcall
          replace hcall := hide hcall
          clear hq
          go_wp2
          (refine wp_region_wd (by kernel_rfl) (by kernel_rfl) ?_
           repeat (go_big_quiet_step ((go_at_call 86; exact Calls.wd (hcall.out _ (Wd.h _)))))
           refine wpQuiet_nil ?_
           intro w2 hw'
           obtain ⟨⟨wx, hb2⟩, hw''⟩ := hw'
           subst hw'')
          go_wp2
          go_roundw
          case rel => exact ⟨hbl.trans hb2, k + 1, by omega, by go_num, g⟩
          case measure => simp [intOf]; omega
      · have hkl : l.length ≤ k := by omega
        go_wp2
        go_ret
        exact ⟨ret_bool (drop_eq_end hf.out hkl (by omega)), hbl⟩
  · have hne1 : ((l.length : Int) != (m.length : Int)) = true := by simp; omega
    go_enter Tryz.func31, Tryz.ntmps31
    go_wp2
    go_ret
    exact ⟨ret_bool (ne_of_length hne), Bl.refl _⟩

/-- What statements go through. -/
def fewS (l : List Entry) : Prop := l.length ≤ 80 ∧ ∀ x ∈ l, few x.snap ∧ x.got.length ≤ 300

def QShelf (l : List Entry) : Prop := ∀ x ∈ l, x.snap.length ≤ 140737488355328 ∧ (∀ y ∈ x.snap, y.s.length ≤ 140737488355328) ∧ x.got.length ≤ 140737488355328

def GreatPostS (l : List Entry) (w : World) (e : Ending) (w' : World) : Prop := ∃ b, e = .returned (.bool b) ∧ (b = false → fewS l) ∧ Bl w w'

set_option maxRecDepth 100000 in
set_option maxHeartbeats 1000000 in
theorem refGreat19 (A : Option Addr) (c : Nat) (l : List Entry) (w : World) (hl : l.length ≤ 140737488355328) (hq : QShelf l) (hA : R cEntry 0 w A l) :
    Calls Tryz.prog 28 #[.slice A l.length c] w (GreatPostS l w) := by
  have hq := hide hq
  go_enter Tryz.func28, Tryz.ntmps28
  go_wp2
  go_loopw [3] (fun i wr => Bl w wr ∧ ∃ k : Nat, k ≤ l.length ∧ k ≤ 100 ∧ i = .int .i64 k ∧ Hid (∀ x ∈ l.take k, few x.snap ∧ x.got.length ≤ 300)) (fun i _ => l.length - (intOf i).toNat)
  case atStart => exact ⟨Bl.refl _, 0, Nat.zero_le _, Nat.zero_le _, rfl, fun x hx => by simp at hx⟩
  case round =>
    obtain ⟨hbl, k, hk, hk1, rfl, hf⟩ := hrel
    by_cases hlt : k < l.length
    · by_cases hlt2 : k < 100
      · have hR := hA.bl hbl
        obtain ⟨b, off, rfl, _, hb⟩ := hR.addr (by omega)
        obtain ⟨x, hx⟩ := get_lt hlt
        obtain ⟨_, _, S, sc, G, gc, s1, s2, g1, g2, hS1, hG1, c0, c1, c2, c3, c4, c5, c6, c7⟩ := hR.entry hx
        have hqx := hq.out x (List.mem_of_getElem? hx)
        obtain ⟨q1, q2, q3⟩ := hqx
        have q2 := hide q2
        have hts := hide (take_snoc hx)
        clear hx c0 c1 c2 c3 c4 c5
        go_wp2_with fail
        refine (refGreat08 S sc x.snap _ q1 q2.out hS1).mono ?_
        rintro e w1 ⟨b1, rfl, hfew, hb1⟩
        replace hfew := hide hfew
        have hbw := hbl.trans hb1
        have k7 := (hb1.cell hb).trans c7
        cases b1
        rotate_left
        · go_wp2_with fail
          go_ret
          exact ⟨true, rfl, (fun h => by cases h), hbw⟩
        by_cases hg : 300 < x.got.length
        · go_wp2_with fail
          go_ret
          exact ⟨true, rfl, (fun h => by cases h), hbw⟩
        · have g : Hid (∀ x ∈ l.take (k + 1), few x.snap ∧ x.got.length ≤ 300) := by
            rw [Hid, hts.out]
            intro y hy
            rcases List.mem_append.1 hy with h | h
            · exact hf.out y h
            · rw [List.mem_singleton] at h
              subst h
              exact ⟨hfew.out rfl, by omega⟩
          go_wp2_with fail
          go_roundw
          case rel => exact ⟨hbw, k + 1, by omega, by omega, by go_num, g⟩
          case measure => simp [intOf]; omega
      · go_wp2
        go_ret
        exact ⟨_, rfl, (fun h => by simp at h; omega), hbl⟩
    · have hkl : l.length ≤ k := by omega
      by_cases h80 : 80 < l.length
      · go_wp2
        go_ret
        exact ⟨true, by simp; omega, (fun h => by cases h), hbl⟩
      · go_wp2
        go_ret
        exact ⟨false, by simp; omega, fun _ => ⟨by omega, by have := hf.out; rwa [List.take_of_length_le hkl] at this⟩, hbl⟩

end Go.Proofs.YteoodmilcpmmpaaGreat
