/-
  The walks of shelf.one and shelf.Check.
  The walk of octavoref06.SameIds.
  The walk of shelf.Check.
  Equality: lists of bools, of stamps; entries; shelves. (Printed by wip/bin/gen_eq.py.)
  The walks of snap.Chunks, snap.Cut; of slices.Contains of bools.
-/
import Derived.Test.YteoodmilcpmmpaaGreatSpanB
namespace Go.Proofs.YteoodmilcpmmpaaGreat

open Go.RowKit

theorem lt_of_alloc {w w' : World} {o : Obj} (h : Bl (w.alloc o) w') : w.heap.size < w'.heap.size := by
  have := h.size
  rw [World.size_alloc] at this
  omega

def neqId (x y : Id) : Bool := !decide (x = y)

theorem neqId_parts (x y : Id) : neqId x y = !(x.t == y.t && x.r == y.r) := by
  unfold neqId
  by_cases h : x = y
  · subst h; simp
  · have : ¬ (x.t = y.t ∧ x.r = y.r) := fun h' => h (Id.ext' h'.1 h'.2)
    simp [h]; by_cases h1 : x.t = y.t <;> by_cases h2 : x.r = y.r <;> simp_all

theorem run_neqId' (a b c d : Int) (W : World) : (binOp .neq 25 (.agg #[.int .u32 a, .int .u8 b]) (.agg #[.int .u32 c, .int .u8 d])).run Tryz.prog W = .ok (.bool (!(a == c && b == d))) W := by
  have u3 := Tryz.underlying23
  have a3 := Tryz.isAgg23
  have z3 := Tryz.sizeOf23
  have u5 := Tryz.underlying5
  have a5 := Tryz.isAgg5
  have z5 := Tryz.sizeOf5
  have hS : Tryz.prog.underlying 25 = some (.struct (Tryz.prog.fieldsOf 25)) := by kernel_rfl
  have hp : Tryz.prog.stoodInHeld 25 = false := by kernel_rfl
  rw [run_neq_struct, show (10000 : Nat) = 9999 + 1 from rfl, run_equalIn_agg W 9999 25 _ _ hS hp]
  simp only [Program.fieldsOf, Tryz.underlying25]
  go_simp
  by_cases h1 : a = c <;> by_cases h2 : b = d <;> simp [h1, h2]

theorem run_eqId' (a b c d : Int) (W : World) : (binOp .eql 25 (.agg #[.int .u32 a, .int .u8 b]) (.agg #[.int .u32 c, .int .u8 d])).run Tryz.prog W = .ok (.bool (a == c && b == d)) W := by
  have u3 := Tryz.underlying23
  have a3 := Tryz.isAgg23
  have z3 := Tryz.sizeOf23
  have u5 := Tryz.underlying5
  have a5 := Tryz.isAgg5
  have z5 := Tryz.sizeOf5
  have hS : Tryz.prog.underlying 25 = some (.struct (Tryz.prog.fieldsOf 25)) := by kernel_rfl
  have hp : Tryz.prog.stoodInHeld 25 = false := by kernel_rfl
  rw [run_eql_struct, show (10000 : Nat) = 9999 + 1 from rfl, run_equalIn_agg W 9999 25 _ _ hS hp]
  simp only [Program.fieldsOf, Tryz.underlying25]
  go_simp
  by_cases h1 : a = c <;> by_cases h2 : b = d <;> simp [h1, h2]

theorem run_neqId (x y : Id) (W : World) : (binOp .neq 25 (.agg #[.int .u32 x.t, .int .u8 x.r]) (.agg #[.int .u32 y.t, .int .u8 y.r])).run Tryz.prog W = .ok (.bool (neqId x y)) W := by
  rw [run_neqId', neqId_parts]

theorem run_eqId (x y : Id) (W : World) : (binOp .eql 25 (.agg #[.int .u32 x.t, .int .u8 x.r]) (.agg #[.int .u32 y.t, .int .u8 y.r])).run Tryz.prog W = .ok (.bool (!neqId x y)) W := by
  rw [run_eqId', neqId_parts, Bool.not_not]

theorem run_neqZero (x : Id) (W : World) : (binOp .neq 25 (.agg #[.int .u32 x.t, .int .u8 x.r]) (.agg #[.int .u32 0, .int .u8 0])).run Tryz.prog W = .ok (.bool (neqId x ⟨0, 0⟩)) W := run_neqId x ⟨0, 0⟩ W

theorem neqId_false {x y : Id} (h : neqId x y = false) : x = y := by unfold neqId at h; simpa using h

theorem neqId_true {x y : Id} (h : neqId x y = true) : x ≠ y := by unfold neqId at h; simpa using h

theorem neqId_self (x : Id) : neqId x x = false := by unfold neqId; simp

theorem neqId_ne {x y : Id} (h : x ≠ y) : neqId x y = true := by unfold neqId; simpa using h

def entryHead (x : Entry) : Bool := (!neqId x.id ⟨0, 0⟩ || idMay x.id) && decide (0 ≤ x.used) && decide (x.used ≤ 1099511627776)

def entryTail (x : Entry) : Bool :=
  if x.known then !x.ready && clockMay x.snap && decide (clockMany x.snap ≤ 1024) && decide ((x.got.length : Int) = (clockMany x.snap + 7) / 8)
  else decide (x.snap.length = 0) && decide (x.got.length = 0)

def entryMay (x : Entry) : Bool := entryHead x && entryTail x

theorem clockMany_le (l : List Times) (h : allMay l) : 0 ≤ clockMany l ∧ clockMany l ≤ 1099511627776 * l.length := by
  induction l with
  | nil => simp [clockMany]
  | cons x l ih =>
    have h1 := spansMay_many (h x (by simp))
    have h2 := ih (fun y hy => h y (by simp [hy]))
    simp only [clockMany, List.length_cons]
    push_cast
    rw [Int.mul_add]
    omega

theorem clockCount_le (l : List Times) : 0 ≤ clockCount l ∧ clockCount l ≤ 8796093022208 := by
  unfold clockCount
  cases h : clockMay l
  · simp
  · have h1 := clockMany_le l (clockFrom_all _ (show clockFrom (-1) l = true from h))
    have h2 := clockMay_length h
    simp
    omega

set_option maxRecDepth 100000 in
set_option maxHeartbeats 1000000 in
theorem shelfOne (x : Entry) (A B : Option Addr) (c d : Nat) (w : World) (hx : x.ok) (hl : x.snap.length ≤ maxLen) (hg : x.got.length ≤ maxLen) (hA : R cTimes 0 w A x.snap) :
    Calls Tryz.prog 129 #[.agg #[.int .u32 x.id.t, .int .u8 x.id.r, .bool x.ready, .bool x.pin, .int .i64 x.used, .bool x.known, .slice A x.snap.length c, .slice B x.got.length d]] w fun e w' => e = .returned (.bool (entryMay x)) ∧ Bl w w' := by
  have hg' := hg
  have hl' := hl
  unfold maxLen at hg' hl'
  obtain ⟨⟨i0, i1, i2, i3⟩, u0, u1⟩ := hx
  have hne := run_neqZero x.id
  cases hh : entryHead x
  · have hfin : false = entryMay x := by unfold entryMay; rw [hh]; rfl
    replace hfin := hide hfin
    clear hg hl
    cases hz : neqId x.id ⟨0, 0⟩
    · rw [hz] at hne
      have hu : x.used < 0 ∨ 1099511627776 < x.used := by
        unfold entryHead at hh; rw [hz] at hh; simp at hh; omega
      clear hh hz
      rcases hu with hu | hu
      · go_enter Tryz.func129, Tryz.ntmps129
        go_wp2
        go_ret
        exact ⟨ret_bool hfin.out, (Bl.refl _).alloc _⟩
      · have hu' : 0 ≤ x.used := by omega
        go_enter Tryz.func129, Tryz.ntmps129
        go_wp2
        go_ret
        exact ⟨ret_bool hfin.out, (Bl.refl _).alloc _⟩
    · rw [hz] at hne
      have hu : idMay x.id = true → x.used < 0 ∨ 1099511627776 < x.used := by
        intro hm
        unfold entryHead at hh; rw [hz, hm] at hh; simp at hh; omega
      clear hh hz
      cases hm : idMay x.id
      · clear hu
        go_enter Tryz.func129, Tryz.ntmps129
        go_wp2_with (go_at_call 96; refine (stampCheck x.id _).mono ?_; rintro e w1 ⟨rfl, hb1⟩; rw [hm, okOr_false])
        go_ret
        exact ⟨ret_bool hfin.out, ((Bl.refl _).alloc _).trans hb1⟩
      · rcases hu hm with hu' | hu'
        · clear hu
          go_enter Tryz.func129, Tryz.ntmps129
          go_wp2_with (go_at_call 96; refine (stampCheck x.id _).mono ?_; rintro e w1 ⟨rfl, hb1⟩; rw [hm, okOr_true]; have hc1 := hb1.cells)
          go_ret
          exact ⟨ret_bool hfin.out, ((Bl.refl _).alloc _).trans hb1⟩
        · have hu0 : 0 ≤ x.used := by omega
          clear hu
          go_enter Tryz.func129, Tryz.ntmps129
          go_wp2_with (go_at_call 96; refine (stampCheck x.id _).mono ?_; rintro e w1 ⟨rfl, hb1⟩; rw [hm, okOr_true]; have hc1 := hb1.cells)
          go_ret
          exact ⟨ret_bool hfin.out, ((Bl.refl _).alloc _).trans hb1⟩
  · have hu : 0 ≤ x.used ∧ x.used ≤ 1099511627776 := by unfold entryHead at hh; simp at hh; omega
    obtain ⟨hu0, hu1⟩ := hu
    have hid : neqId x.id ⟨0, 0⟩ = true → idMay x.id = true := by
      intro hz; unfold entryHead at hh; rw [hz] at hh; simp at hh; exact hh.1.1
    have hfin : entryTail x = entryMay x := by unfold entryMay; rw [hh]; rfl
    replace hfin := hide hfin
    clear hh
    -- behind the head: the same for each way through it
    cases hk : x.known
    · -- no manifest is known
      have htail : entryTail x = (decide (x.snap.length = 0) && decide (x.got.length = 0)) := by unfold entryTail; rw [hk]; rfl
      by_cases h1 : x.snap.length = 0
      · have h1' : ((x.snap.length : Int) == 0) = true := by simp [h1]
        by_cases h2 : x.got.length = 0
        · have h2' : ((x.got.length : Int) == 0) = true := by simp [h2]
          have g := hide (show true = entryMay x by rw [← hfin.out, htail, h1, h2]; rfl)
          clear h1 h2 htail hfin hl hg
          cases hz : neqId x.id ⟨0, 0⟩
          · rw [hz] at hne
            clear hz hid
            go_enter Tryz.func129, Tryz.ntmps129
            go_wp2
            go_ret
            exact ⟨ret_bool g.out, (Bl.refl _).alloc _⟩
          · rw [hz] at hne
            replace hid := hid hz
            clear hz
            go_enter Tryz.func129, Tryz.ntmps129
            go_wp2_with (go_at_call 96; refine (stampCheck x.id _).mono ?_; rintro e w1 ⟨rfl, hb1⟩; rw [hid, okOr_true]; have hc1 := hb1.cells)
            go_ret
            exact ⟨ret_bool g.out, ((Bl.refl _).alloc _).trans hb1⟩
        · have h2' : ((x.got.length : Int) == 0) = false := beq_eq_false_iff_ne.2 (by omega)
          have g := hide (show false = entryMay x by rw [← hfin.out, htail]; simp [h2])
          clear h1 h2 htail hfin hl hg
          cases hz : neqId x.id ⟨0, 0⟩
          · rw [hz] at hne
            clear hz hid
            go_enter Tryz.func129, Tryz.ntmps129
            go_wp2
            go_ret
            exact ⟨ret_bool g.out, (Bl.refl _).alloc _⟩
          · rw [hz] at hne
            replace hid := hid hz
            clear hz
            go_enter Tryz.func129, Tryz.ntmps129
            go_wp2_with (go_at_call 96; refine (stampCheck x.id _).mono ?_; rintro e w1 ⟨rfl, hb1⟩; rw [hid, okOr_true]; have hc1 := hb1.cells)
            go_ret
            exact ⟨ret_bool g.out, ((Bl.refl _).alloc _).trans hb1⟩
      · have h1' : ((x.snap.length : Int) == 0) = false := beq_eq_false_iff_ne.2 (by omega)
        have g := hide (show false = entryMay x by rw [← hfin.out, htail]; simp [h1])
        clear h1 htail hfin hl hg
        cases hz : neqId x.id ⟨0, 0⟩
        · rw [hz] at hne
          clear hz hid
          go_enter Tryz.func129, Tryz.ntmps129
          go_wp2
          go_ret
          exact ⟨ret_bool g.out, (Bl.refl _).alloc _⟩
        · rw [hz] at hne
          replace hid := hid hz
          clear hz
          go_enter Tryz.func129, Tryz.ntmps129
          go_wp2_with (go_at_call 96; refine (stampCheck x.id _).mono ?_; rintro e w1 ⟨rfl, hb1⟩; rw [hid, okOr_true]; have hc1 := hb1.cells)
          go_ret
          exact ⟨ret_bool g.out, ((Bl.refl _).alloc _).trans hb1⟩
    · have htail : entryTail x = (!x.ready && clockMay x.snap && decide (clockMany x.snap ≤ 1024) && decide ((x.got.length : Int) = (clockMany x.snap + 7) / 8)) := by unfold entryTail; rw [hk]; rfl
      have hcb := clockCount_le x.snap
      have hcnt := fun W (hW : Bl w W) => clockCountC A c x.snap W hl (hA.bl hW)
      have hchk := fun W (hW : Bl w W) => clockCheck A c x.snap W hl (hA.bl hW)
      have hcm : clockMay x.snap = true → clockCount x.snap = clockMany x.snap := fun h => by unfold clockCount; rw [h]; rfl
      -- what the last test says, n being the count
      have hend : entryTail x = (!x.ready && clockMay x.snap && decide (clockCount x.snap ≤ 1024) && ((x.got.length : Int) == (clockCount x.snap + 7) / 8)) := by
        rw [htail]
        cases h : clockMay x.snap
        · simp
        · rw [hcm h]
          by_cases e : (x.got.length : Int) = (clockMany x.snap + 7) / 8 <;> simp [e]
      clear htail hcm
      generalize clockCount x.snap = n at hcb hcnt hend
      obtain ⟨hn0, hn1⟩ := hcb
      rw [hend] at hfin
      clear hend hl hg
      replace hcnt := hide hcnt
      cases hr : x.ready
      · cases hm : clockMay x.snap
        · have g := hide (show false = entryMay x by rw [← hfin.out, hm]; simp)
          rw [hm] at hchk
          replace hchk := hide hchk
          clear hfin hm
          cases hz : neqId x.id ⟨0, 0⟩
          · rw [hz] at hne
            clear hz hid
            have hb0 : ∀ o, Bl w (w.alloc o) := fun o => (Bl.refl _).alloc o
            go_enter Tryz.func129, Tryz.ntmps129
            go_wp2_with (first | (go_at_call 184; refine (hcnt.out _ (hb0 _)).mono ?_; rintro e wa ⟨rfl, hba⟩; have hca := hba.cells; have hza := lt_of_alloc hba; have hbw := (hb0 _).trans hba) | (go_at_call 185; refine (hchk.out _ ((hb0 _).trans hba)).mono ?_; rintro e wb ⟨rfl, hbb⟩; rw [okOr_false]; have hcb := hbb.cells; have hbw := ((hb0 _).trans hba).trans hbb))
            go_ret
            exact ⟨ret_bool g.out, hbw⟩
          · rw [hz] at hne
            replace hid := hid hz
            clear hz
            go_enter Tryz.func129, Tryz.ntmps129
            go_wp2_with (first | (go_at_call 96; refine (stampCheck x.id _).mono ?_; rintro e w1 ⟨rfl, hb1⟩; rw [hid, okOr_true]; have hc1 := hb1.cells; have hz1 := lt_of_alloc hb1; have hb0 := ((Bl.refl w).alloc _).trans hb1) | (go_at_call 184; refine (hcnt.out _ hb0).mono ?_; rintro e wa ⟨rfl, hba⟩; have hca := hba.cells; have hza := Nat.lt_of_lt_of_le hz1 hba.size; have hbw := hb0.trans hba) | (go_at_call 185; refine (hchk.out _ (hb0.trans hba)).mono ?_; rintro e wb ⟨rfl, hbb⟩; rw [okOr_false]; have hcb := hbb.cells; have hbw := (hb0.trans hba).trans hbb))
            go_ret
            exact ⟨ret_bool g.out, hbw⟩
        · rw [hr, hm] at hfin
          rw [hm] at hchk
          replace hchk := hide hchk
          clear hm
          by_cases hn : n ≤ 1024
          · have g := hide (show ((x.got.length : Int) == (n + 7) / 8) = entryMay x by rw [← hfin.out]; simp [hn])
            have e1 : (n + 8 - 1) / 8 = (n + 7) / 8 := by congr 1; omega
            cases hq : ((x.got.length : Int) == (n + 7) / 8)
            · rw [hq] at g
              rw [← e1] at hq
              clear hfin e1
              cases hz : neqId x.id ⟨0, 0⟩
              · rw [hz] at hne
                clear hz hid
                have hb0 : ∀ o, Bl w (w.alloc o) := fun o => (Bl.refl _).alloc o
                go_enter Tryz.func129, Tryz.ntmps129
                go_wp2_with (first | (go_at_call 184; refine (hcnt.out _ (hb0 _)).mono ?_; rintro e wa ⟨rfl, hba⟩; have hca := hba.cells; have hza := lt_of_alloc hba; have hbw := (hb0 _).trans hba) | (go_at_call 185; refine (hchk.out _ ((hb0 _).trans hba)).mono ?_; rintro e wb ⟨rfl, hbb⟩; rw [okOr_true]; have hcb := hbb.cells; have hbw := ((hb0 _).trans hba).trans hbb))
                go_ret
                exact ⟨ret_bool g.out, hbw⟩
              · rw [hz] at hne
                replace hid := hid hz
                clear hz
                go_enter Tryz.func129, Tryz.ntmps129
                go_wp2_with (first | (go_at_call 96; refine (stampCheck x.id _).mono ?_; rintro e w1 ⟨rfl, hb1⟩; rw [hid, okOr_true]; have hc1 := hb1.cells; have hz1 := lt_of_alloc hb1; have hb0 := ((Bl.refl w).alloc _).trans hb1) | (go_at_call 184; refine (hcnt.out _ hb0).mono ?_; rintro e wa ⟨rfl, hba⟩; have hca := hba.cells; have hza := Nat.lt_of_lt_of_le hz1 hba.size; have hbw := hb0.trans hba) | (go_at_call 185; refine (hchk.out _ (hb0.trans hba)).mono ?_; rintro e wb ⟨rfl, hbb⟩; rw [okOr_true]; have hcb := hbb.cells; have hbw := (hb0.trans hba).trans hbb))
                go_ret
                exact ⟨ret_bool g.out, hbw⟩
            · rw [hq] at g
              rw [← e1] at hq
              clear hfin e1
              cases hz : neqId x.id ⟨0, 0⟩
              · rw [hz] at hne
                clear hz hid
                have hb0 : ∀ o, Bl w (w.alloc o) := fun o => (Bl.refl _).alloc o
                go_enter Tryz.func129, Tryz.ntmps129
                go_wp2_with (first | (go_at_call 184; refine (hcnt.out _ (hb0 _)).mono ?_; rintro e wa ⟨rfl, hba⟩; have hca := hba.cells; have hza := lt_of_alloc hba; have hbw := (hb0 _).trans hba) | (go_at_call 185; refine (hchk.out _ ((hb0 _).trans hba)).mono ?_; rintro e wb ⟨rfl, hbb⟩; rw [okOr_true]; have hcb := hbb.cells; have hbw := ((hb0 _).trans hba).trans hbb))
                go_ret
                exact ⟨ret_bool g.out, hbw⟩
              · rw [hz] at hne
                replace hid := hid hz
                clear hz
                go_enter Tryz.func129, Tryz.ntmps129
                go_wp2_with (first | (go_at_call 96; refine (stampCheck x.id _).mono ?_; rintro e w1 ⟨rfl, hb1⟩; rw [hid, okOr_true]; have hc1 := hb1.cells; have hz1 := lt_of_alloc hb1; have hb0 := ((Bl.refl w).alloc _).trans hb1) | (go_at_call 184; refine (hcnt.out _ hb0).mono ?_; rintro e wa ⟨rfl, hba⟩; have hca := hba.cells; have hza := Nat.lt_of_lt_of_le hz1 hba.size; have hbw := hb0.trans hba) | (go_at_call 185; refine (hchk.out _ (hb0.trans hba)).mono ?_; rintro e wb ⟨rfl, hbb⟩; rw [okOr_true]; have hcb := hbb.cells; have hbw := (hb0.trans hba).trans hbb))
                go_ret
                exact ⟨ret_bool g.out, hbw⟩
          · have g := hide (show false = entryMay x by rw [← hfin.out]; simp [hn])
            clear hfin
            have hn' : 1024 < n := by omega
            clear hn
            cases hz : neqId x.id ⟨0, 0⟩
            · rw [hz] at hne
              clear hz hid
              have hb0 : ∀ o, Bl w (w.alloc o) := fun o => (Bl.refl _).alloc o
              go_enter Tryz.func129, Tryz.ntmps129
              go_wp2_with (first | (go_at_call 184; refine (hcnt.out _ (hb0 _)).mono ?_; rintro e wa ⟨rfl, hba⟩; have hca := hba.cells; have hza := lt_of_alloc hba; have hbw := (hb0 _).trans hba) | (go_at_call 185; refine (hchk.out _ ((hb0 _).trans hba)).mono ?_; rintro e wb ⟨rfl, hbb⟩; rw [okOr_true]; have hcb := hbb.cells; have hbw := ((hb0 _).trans hba).trans hbb))
              go_ret
              exact ⟨ret_bool g.out, hbw⟩
            · rw [hz] at hne
              replace hid := hid hz
              clear hz
              go_enter Tryz.func129, Tryz.ntmps129
              go_wp2_with (first | (go_at_call 96; refine (stampCheck x.id _).mono ?_; rintro e w1 ⟨rfl, hb1⟩; rw [hid, okOr_true]; have hc1 := hb1.cells; have hz1 := lt_of_alloc hb1; have hb0 := ((Bl.refl w).alloc _).trans hb1) | (go_at_call 184; refine (hcnt.out _ hb0).mono ?_; rintro e wa ⟨rfl, hba⟩; have hca := hba.cells; have hza := Nat.lt_of_lt_of_le hz1 hba.size; have hbw := hb0.trans hba) | (go_at_call 185; refine (hchk.out _ (hb0.trans hba)).mono ?_; rintro e wb ⟨rfl, hbb⟩; rw [okOr_true]; have hcb := hbb.cells; have hbw := (hb0.trans hba).trans hbb))
              go_ret
              exact ⟨ret_bool g.out, hbw⟩
      · have g := hide (show false = entryMay x by rw [← hfin.out, hr]; simp)
        clear hfin
        replace hchk := hide hchk
        cases hz : neqId x.id ⟨0, 0⟩
        · rw [hz] at hne
          clear hz hid
          have hb0 : ∀ o, Bl w (w.alloc o) := fun o => (Bl.refl _).alloc o
          go_enter Tryz.func129, Tryz.ntmps129
          go_wp2_with (first | (go_at_call 184; refine (hcnt.out _ (hb0 _)).mono ?_; rintro e wa ⟨rfl, hba⟩; have hca := hba.cells; have hza := lt_of_alloc hba; have hbw := (hb0 _).trans hba) | (go_at_call 185; refine (hchk.out _ ((hb0 _).trans hba)).mono ?_; rintro e wb ⟨rfl, hbb⟩; fail; have hcb := hbb.cells; have hbw := ((hb0 _).trans hba).trans hbb))
          go_ret
          exact ⟨ret_bool g.out, hbw⟩
        · rw [hz] at hne
          replace hid := hid hz
          clear hz
          go_enter Tryz.func129, Tryz.ntmps129
          go_wp2_with (first | (go_at_call 96; refine (stampCheck x.id _).mono ?_; rintro e w1 ⟨rfl, hb1⟩; rw [hid, okOr_true]; have hc1 := hb1.cells; have hz1 := lt_of_alloc hb1; have hb0 := ((Bl.refl w).alloc _).trans hb1) | (go_at_call 184; refine (hcnt.out _ hb0).mono ?_; rintro e wa ⟨rfl, hba⟩; have hca := hba.cells; have hza := Nat.lt_of_lt_of_le hz1 hba.size; have hbw := hb0.trans hba) | (go_at_call 185; refine (hchk.out _ (hb0.trans hba)).mono ?_; rintro e wb ⟨rfl, hbb⟩; fail; have hcb := hbb.cells; have hbw := (hb0.trans hba).trans hbb))
          go_ret
          exact ⟨ret_bool g.out, hbw⟩

end Go.Proofs.YteoodmilcpmmpaaGreat

namespace Go.Proofs.YteoodmilcpmmpaaGreat

open Go.RowKit

end Go.Proofs.YteoodmilcpmmpaaGreat

namespace Go.Proofs.YteoodmilcpmmpaaGreat

open Go.RowKit

def after (prev : Option Id) (s : Id) : Bool := match prev with | none => true | some p => idLess p s

def shelfFrom (prev : Option Id) : List Entry → Bool
  | [] => true
  | x :: l => entryMay x && after prev x.id && shelfFrom (some x.id) l

/-- May a shelf be? -/
def shelfMay (l : List Entry) : Bool := decide (l.length ≤ 65) && shelfFrom none l

def prevOf (l : List Entry) (k : Nat) : Option Id := if k = 0 then none else (l[k - 1]?).map (·.id)

theorem shelfFrom_bad1 {l rest : List Entry} {prev : Option Id} {k : Nat} {x : Entry} (h : shelfFrom none l = shelfFrom prev (l.drop k)) (hd : l.drop k = x :: rest) (hb : entryMay x = false) : shelfFrom none l = false := by
  rw [h, hd, shelfFrom, hb]; simp

theorem shelfFrom_bad2 {l rest : List Entry} {prev : Option Id} {k : Nat} {x : Entry} (h : shelfFrom none l = shelfFrom prev (l.drop k)) (hd : l.drop k = x :: rest) (hb : after prev x.id = false) : shelfFrom none l = false := by
  rw [h, hd, shelfFrom, hb]; simp

theorem shelfFrom_good {l rest : List Entry} {prev : Option Id} {k : Nat} {x : Entry} (h : shelfFrom none l = shelfFrom prev (l.drop k)) (hd : l.drop k = x :: rest) (h1 : entryMay x = true) (h2 : after prev x.id = true) : shelfFrom none l = shelfFrom (some x.id) rest := by
  rw [h, hd, shelfFrom, h1, h2]; simp

theorem prevOf_succ {l : List Entry} {k : Nat} {x : Entry} (hx : l[k]? = some x) : prevOf l (k + 1) = some x.id := by
  unfold prevOf
  rw [if_neg (by omega), Nat.add_sub_cancel, hx]; rfl

set_option maxRecDepth 100000 in
set_option maxHeartbeats 2000000 in
theorem shelfCheck (A : Option Addr) (c : Nat) (l : List Entry) (w : World) (hl : l.length ≤ maxLen) (hA : R cEntry 0 w A l) :
    Calls Tryz.prog 76 #[.slice A l.length c] w fun e w' => e = .returned (.int .i64 (okOr 8 (shelfMay l))) ∧ Bl w w' := by
  have hl' := hl
  unfold maxLen at hl'
  by_cases hbig : 65 < l.length
  · have e1 : shelfMay l = false := by unfold shelfMay; simp; intro h; omega
    have E1 := hide e1; clear e1
    go_enter Tryz.func76, Tryz.ntmps76
    go_wp2
    go_ret
    exact ⟨ret_int (by rw [E1.out]; rfl), Bl.refl _⟩
  have e1 : shelfMay l = shelfFrom none l := by unfold shelfMay; simp; intro _; omega
  have E1 := hide e1; clear e1
  go_enter Tryz.func76, Tryz.ntmps76
  go_wp2
  go_loopw [10] (fun i wr => Bl w wr ∧ ∃ (k : Nat), k ≤ l.length ∧ i = .int .i64 k ∧ Hid (shelfFrom none l = shelfFrom (prevOf l k) (l.drop k))) (fun i _ => l.length - (intOf i).toNat)
  case atStart => exact ⟨Bl.refl _, 0, Nat.zero_le _, rfl, rfl⟩
  case round =>
    obtain ⟨hbl, k, hk, rfl, hf⟩ := hrel
    by_cases hlt : k < l.length
    · have hR := hA.bl hbl
      obtain ⟨b, off, rfl, _, hb⟩ := hR.addr (by omega)
      obtain ⟨x, hx⟩ := get_lt hlt
      obtain ⟨_, ho, S, sc, G, gc, s1, s2, g1, g2, hS, hG, c0, c1, c2, c3, c4, c5, c6, c7⟩ := hR.entry hx
      have hd := hide (drop_cons hx)
      have hpn := hide (prevOf_succ hx)
      have hx' := hide hx
      clear hx
      go_wp2
      obtain ⟨W, hW⟩ : ∃ W, W = wr.alloc (Obj.cells #[Value.int IntKind.u32 x.id.t, Value.int IntKind.u8 x.id.r, Value.bool x.ready, Value.bool x.pin, Value.int IntKind.i64 x.used, Value.bool x.known, Value.slice S x.snap.length sc, Value.slice G x.got.length gc] 62) := ⟨_, rfl⟩
      rw [← hW]
      have hblW : Bl wr W := by rw [hW]; exact (Bl.refl _).alloc _
      have hWs : wr.heap.size < W.heap.size := by rw [hW]; simp
      have q0 : ∀ p : Wd W, p.v.cell? ⟨wr.heap.size, 0, none⟩ = some (.int .u32 x.id.t) := fun p => Wd.cell (by rw [hW]; simp) hWs p
      have q1 : ∀ p : Wd W, p.v.cell? ⟨wr.heap.size, 1, none⟩ = some (.int .u8 x.id.r) := fun p => Wd.cell (by rw [hW]; simp) hWs p
      have q2 : ∀ p : Wd W, p.v.cell? ⟨wr.heap.size, 2, none⟩ = some (.bool x.ready) := fun p => Wd.cell (by rw [hW]; simp) hWs p
      have q3 : ∀ p : Wd W, p.v.cell? ⟨wr.heap.size, 3, none⟩ = some (.bool x.pin) := fun p => Wd.cell (by rw [hW]; simp) hWs p
      have q4 : ∀ p : Wd W, p.v.cell? ⟨wr.heap.size, 4, none⟩ = some (.int .i64 x.used) := fun p => Wd.cell (by rw [hW]; simp) hWs p
      have q5 : ∀ p : Wd W, p.v.cell? ⟨wr.heap.size, 5, none⟩ = some (.bool x.known) := fun p => Wd.cell (by rw [hW]; simp) hWs p
      have q6 : ∀ p : Wd W, p.v.cell? ⟨wr.heap.size, 6, none⟩ = some (.slice S x.snap.length sc) := fun p => Wd.cell (by rw [hW]; simp) hWs p
      have q7 : ∀ p : Wd W, p.v.cell? ⟨wr.heap.size, 7, none⟩ = some (.slice G x.got.length gc) := fun p => Wd.cell (by rw [hW]; simp) hWs p
      clear hW c0 c1 c2 c3 c4 c5 c6 c7
      have hone := fun V (hV : Bl W V) => shelfOne x S G sc gc V ho (by omega) (by omega) (hS.bl (hblW.trans hV))
      have hblw := hbl.trans hblW
      cases hm : entryMay x
      · have g := hide (shelfFrom_bad1 hf.out hd.out hm)
        rw [hm] at hone
        replace hone := hide hone
        clear hm
        (refine wp_region_wd (by kernel_rfl) (by kernel_rfl) ?_
         repeat (go_big_quiet_step ((go_at_call 129; exact Calls.wd (hone.out _ (Wd.h _)))))
         refine wpQuiet_nil ?_
         intro w2 hw'
         obtain ⟨⟨wx, hb2⟩, hw''⟩ := hw'
         subst hw'')
        go_wp2
        go_ret
        exact ⟨ret_int (by rw [E1.out, g.out]; rfl), hblw.trans hb2⟩
      · have hgood := shelfFrom_good hf.out hd.out hm
        have hbad := shelfFrom_bad2 hf.out hd.out
        rw [hm] at hone
        replace hone := hide hone
        clear hm
        by_cases hk0 : k = 0
        · have g : Hid (shelfFrom none l = shelfFrom (prevOf l (k + 1)) (l.drop (k + 1))) := by
            rw [Hid, hpn.out]; exact hgood (by rw [hk0]; rfl)
          clear hgood hbad hpn hx'
          subst hk0
          (refine wp_region_wd (by kernel_rfl) (by kernel_rfl) ?_
           repeat (go_big_quiet_step ((go_at_call 129; exact Calls.wd (hone.out _ (Wd.h _)))))
           refine wpQuiet_nil ?_
           intro w2 hw'
           obtain ⟨⟨wx, hb2⟩, hw''⟩ := hw'
           subst hw'')
          go_wp2
          go_roundw
          case rel => exact ⟨hblw.trans hb2, 1, by omega, by go_num, g⟩
          case measure => simp [intOf]; omega
        · obtain ⟨y, hy⟩ := get_lt (show k - 1 < l.length by omega)
          have hprev : prevOf l k = some y.id := by unfold prevOf; rw [if_neg hk0, hy]; rfl
          obtain ⟨_, hyo, _, _, _, _, _, _, _, _, _, _, d0, d1, _⟩ := hR.entry hy
          have D0 := fun p : Wd W => Wd.cell ((hblW.cell hb).trans d0) (Nat.lt_trans hb hWs) p
          have D1 := fun p : Wd W => Wd.cell ((hblW.cell hb).trans d1) (Nat.lt_trans hb hWs) p
          clear d0 d1 hy
          have h4' : decide (0 < (k : Int)) = true := by simp; omega
          have h5' : 0 < k := by omega
          have e1 : IntKind.i64.wrap ((k : Int) - 1) = (k : Int) - 1 := IntWalk.i64_in _ (by omega)
          have e2 : ((k : Int) - 1).toNat = k - 1 := by omega
          have e3 : (0 : Int) ≤ (k : Int) - 1 := by omega
          have e4 : (k : Int) - 1 < (l.length : Int) := by omega
          have hless := fun V => stampLess y.id x.id V hyo.1 ho.1
          rw [hprev] at hgood hbad
          cases hq : idLess y.id x.id
          · have g := hide (hbad hq)
            rw [hq] at hless
            replace hless := hide hless
            clear hq hgood hbad hprev
            (refine wp_region_wd (by kernel_rfl) (by kernel_rfl) ?_
             repeat (go_big_quiet_step ((first | (go_at_call 129; exact Calls.wd (hone.out _ (Wd.h _))) | (go_at_call 66; exact Calls.wd (hless.out _)))))
             refine wpQuiet_nil ?_
             intro w2 hw'
             obtain ⟨⟨wx, hb2⟩, hw''⟩ := hw'
             subst hw'')
            go_wp2
            go_ret
            exact ⟨ret_int (by rw [E1.out, g.out]; rfl), hblw.trans hb2⟩
          · have g : Hid (shelfFrom none l = shelfFrom (prevOf l (k + 1)) (l.drop (k + 1))) := by
              rw [Hid, hpn.out]; exact hgood hq
            rw [hq] at hless
            replace hless := hide hless
            clear hq hgood hbad hprev
            (refine wp_region_wd (by kernel_rfl) (by kernel_rfl) ?_
             repeat (go_big_quiet_step ((first | (go_at_call 129; exact Calls.wd (hone.out _ (Wd.h _))) | (go_at_call 66; exact Calls.wd (hless.out _)))))
             refine wpQuiet_nil ?_
             intro w2 hw'
             obtain ⟨⟨wx, hb2⟩, hw''⟩ := hw'
             subst hw'')
            go_wp2
            go_roundw
            case rel => exact ⟨hblw.trans hb2, k + 1, by omega, by go_num, g⟩
            case measure => simp [intOf]; omega
    · have hkl : l.length ≤ k := by omega
      go_wp2
      go_ret
      exact ⟨ret_int (by rw [E1.out, hf.out, List.drop_eq_nil_of_le hkl]; rfl), hbl⟩

end Go.Proofs.YteoodmilcpmmpaaGreat

namespace Go.Proofs.YteoodmilcpmmpaaGreat

open Go.RowKit

theorem run_neqBool (x y : Bool) (W : World) : (binOp .neq 4 (.bool x) (.bool y)).run Tryz.prog W = .ok (.bool (x != y)) W := by
  have u := Tryz.underlying4
  go_simp
  cases x <;> cases y <;> rfl

theorem neqBool_false {x y : Bool} (h : (x != y) = false) : x = y := by simpa using h

theorem neqBool_true {x y : Bool} (h : (x != y) = true) : x ≠ y := by simpa using h

set_option maxHeartbeats 400000 in
theorem refSameBools (A B : Option Addr) (c d : Nat) (l m : List Bool) (w : World) (hl : l.length ≤ maxLen) (_hm : m.length ≤ maxLen) (hA : R cBool 0 w A l) (hB : R cBool 0 w B m) :
    Calls Tryz.prog 145 #[.slice A l.length c, .slice B m.length d] w fun e w' => e = .returned (.bool (same l m)) ∧ Bl w w' := by
  unfold maxLen at hl
  by_cases hne : l.length = m.length
  · have hne1 : ((l.length : Int) != (m.length : Int)) = false := by simp [hne]
    have hle : l.length ≤ m.length := by omega
    have hle' : m.length ≤ l.length := by omega
    clear hne
    go_enter Tryz.func145, Tryz.ntmps145
    go_wp2
    go_loopw [5] (fun i wr => Bl w wr ∧ ∃ k : Nat, k ≤ l.length ∧ i = .int .i64 k ∧ Hid (decide (l = m) = decide (l.drop k = m.drop k))) (fun i _ => l.length - (intOf i).toNat)
    case atStart => exact ⟨Bl.refl _, 0, Nat.zero_le _, rfl, rfl⟩
    case round =>
      obtain ⟨hbl, k, hk, rfl, hf⟩ := hrel
      by_cases hlt : k < l.length
      · have hR := hA.bl hbl
        have hS := hB.bl hbl
        obtain ⟨b, off, rfl, _, hb⟩ := hR.addr (by omega)
        obtain ⟨b', off', rfl, _, hb'⟩ := hS.addr (by omega)
        obtain ⟨x, hx⟩ := get_lt hlt
        obtain ⟨y, hy⟩ := get_lt (show k < m.length by omega)
        obtain ⟨_, c0, _⟩ := hR.bool hx
        obtain ⟨_, d0, _⟩ := hS.bool hy
        have C0 := fun p : Wd wr => Wd.cell c0 hb p
        have D0 := fun p : Wd wr => Wd.cell d0 hb' p
        clear c0 d0
        replace hx := hide hx
        replace hy := hide hy
        have hi : (k : Int) < (l.length : Int) := by omega
        have hi' : (k : Int) < (m.length : Int) := by omega
        have hne := run_neqBool x y
        cases hq : x != y
        · have g := hide (drop_eq_step hf.out hx.out hy.out (neqBool_false hq))
          rw [hq] at hne
          clear hq
          go_wp2
          (refine wp_region_wd (by kernel_rfl) (by kernel_rfl) ?_
           repeat (go_big_quiet_step ((fail)))
           refine wpQuiet_nil ?_
           intro w2 hw'
           obtain ⟨⟨wx, hb2⟩, hw''⟩ := hw'
           subst hw'')
          go_wp2
          go_roundw
          case rel => exact ⟨hbl.trans hb2, k + 1, by omega, by go_num, g⟩
          case measure => simp [intOf]; omega
        · have g := hide (drop_ne_step hf.out hx.out hy.out (neqBool_true hq))
          rw [hq] at hne
          clear hq
          go_wp2
          (refine wp_region_wd (by kernel_rfl) (by kernel_rfl) ?_
           repeat (go_big_quiet_step ((fail)))
           refine wpQuiet_nil ?_
           intro w2 hw'
           obtain ⟨⟨wx, hb2⟩, hw''⟩ := hw'
           subst hw'')
          go_wp2
          go_ret
          exact ⟨ret_bool g.out, hbl.trans hb2⟩
      · have hkl : l.length ≤ k := by omega
        go_wp2
        go_ret
        exact ⟨ret_bool (drop_eq_end hf.out hkl (by omega)), hbl⟩
  · have hne1 : ((l.length : Int) != (m.length : Int)) = true := by simp; omega
    go_enter Tryz.func145, Tryz.ntmps145
    go_wp2
    go_ret
    exact ⟨ret_bool (ne_of_length hne), Bl.refl _⟩

def eqEntry (x y : Entry) : Bool := decide (x = y)

theorem eqEntry_true {x y : Entry} (h : eqEntry x y = true) : x = y := by unfold eqEntry at h; simpa using h

theorem eqEntry_false {x y : Entry} (h : eqEntry x y = false) : x ≠ y := by unfold eqEntry at h; simpa using h

theorem eqEntry_parts (x y : Entry) : eqEntry x y = ((!neqId x.id y.id) && (x.ready == y.ready) && (x.pin == y.pin) && (x.used == y.used) && (x.known == y.known) && same x.snap y.snap && same x.got y.got) := by
  unfold eqEntry same neqId
  rw [Bool.eq_iff_iff]
  cases x; cases y
  simp [and_assoc]

theorem lt_of_alloc2 {w w' : World} {o p : Obj} (h : Bl ((w.alloc o).alloc p) w') : w.heap.size + 1 < w'.heap.size := by
  have := h.size
  rw [World.size_alloc, World.size_alloc] at this
  omega

set_option maxRecDepth 100000 in
set_option maxHeartbeats 2000000 in
theorem refSameOne (x y : Entry) (A B A' B' : Option Addr) (c d c' d' : Nat) (w : World) (h1 : x.snap.length ≤ maxLen) (h2 : x.got.length ≤ maxLen) (h3 : y.snap.length ≤ maxLen) (h4 : y.got.length ≤ maxLen)
    (hA : R cTimes 0 w A x.snap) (hB : R cBool 0 w B x.got) (hA' : R cTimes 0 w A' y.snap) (hB' : R cBool 0 w B' y.got) :
    Calls Tryz.prog 86 #[.agg #[.int .u32 x.id.t, .int .u8 x.id.r, .bool x.ready, .bool x.pin, .int .i64 x.used, .bool x.known, .slice A x.snap.length c, .slice B x.got.length d], .agg #[.int .u32 y.id.t, .int .u8 y.id.r, .bool y.ready, .bool y.pin, .int .i64 y.used, .bool y.known, .slice A' y.snap.length c', .slice B' y.got.length d']] w fun e w' => e = .returned (.bool (eqEntry x y)) ∧ Bl w w' := by
  have hp := eqEntry_parts x y
  have hbw : ∀ o p, Bl w ((w.alloc o).alloc p) := fun o p => ((Bl.refl _).alloc o).alloc p
  have hid := run_eqId x.id y.id
  have hs := fun W (hW : Bl w W) => refSame08 A A' c c' x.snap y.snap W h1 h3 (hA.bl hW) (hA'.bl hW)
  have hg := fun W (hW : Bl w W) => refSameBools B B' d d' x.got y.got W h2 h4 (hB.bl hW) (hB'.bl hW)
  clear h1 h2 h3 h4 hA hB hA' hB'
  cases e1 : neqId x.id y.id
  · rw [e1] at hp hid
    cases e2 : (x.ready == y.ready)
    · have g := hide (show false = eqEntry x y by rw [eqEntry_parts]; simp [*])
      replace hs := hide hs
      clear hg hp
      go_enter Tryz.func86, Tryz.ntmps86
      go_wp2_with (go_at_call 144; refine (hs.out _ (hbw _ _)).mono ?_; rintro e w1 ⟨rfl, hb1⟩; have hbf := (hbw _ _).trans hb1)
      go_ret
      exact ⟨ret_bool g.out, by first | exact hbf | exact hbw _ _⟩
    cases e3 : (x.pin == y.pin)
    · have g := hide (show false = eqEntry x y by rw [eqEntry_parts]; simp [*])
      replace hs := hide hs
      clear hg hp
      go_enter Tryz.func86, Tryz.ntmps86
      go_wp2_with (go_at_call 144; refine (hs.out _ (hbw _ _)).mono ?_; rintro e w1 ⟨rfl, hb1⟩; have hbf := (hbw _ _).trans hb1)
      go_ret
      exact ⟨ret_bool g.out, by first | exact hbf | exact hbw _ _⟩
    cases e4 : (x.used == y.used)
    · have g := hide (show false = eqEntry x y by rw [eqEntry_parts]; simp [*])
      replace hs := hide hs
      clear hg hp
      go_enter Tryz.func86, Tryz.ntmps86
      go_wp2_with (go_at_call 144; refine (hs.out _ (hbw _ _)).mono ?_; rintro e w1 ⟨rfl, hb1⟩; have hbf := (hbw _ _).trans hb1)
      go_ret
      exact ⟨ret_bool g.out, by first | exact hbf | exact hbw _ _⟩
    cases e5 : (x.known == y.known)
    · have g := hide (show false = eqEntry x y by rw [eqEntry_parts]; simp [*])
      replace hs := hide hs
      clear hg hp
      go_enter Tryz.func86, Tryz.ntmps86
      go_wp2_with (go_at_call 144; refine (hs.out _ (hbw _ _)).mono ?_; rintro e w1 ⟨rfl, hb1⟩; have hbf := (hbw _ _).trans hb1)
      go_ret
      exact ⟨ret_bool g.out, by first | exact hbf | exact hbw _ _⟩
    cases e6 : same x.snap y.snap
    · rw [e6] at hs
      have g := hide (show false = eqEntry x y by rw [eqEntry_parts]; simp [*])
      replace hs := hide hs
      clear hg hp
      go_enter Tryz.func86, Tryz.ntmps86
      go_wp2_with (go_at_call 144; refine (hs.out _ (hbw _ _)).mono ?_; rintro e w1 ⟨rfl, hb1⟩; have hbf := (hbw _ _).trans hb1)
      go_ret
      exact ⟨ret_bool g.out, by first | exact hbf | exact hbw _ _⟩
    rw [e6] at hs
    rw [e2, e3, e4, e5, e6] at hp
    simp only [Bool.not_false, Bool.true_and] at hp
    replace hp := hide hp.symm
    replace hs := hide hs
    replace hg := hide hg
    clear e1 e6
    go_enter Tryz.func86, Tryz.ntmps86
    go_wp2_with (first | (go_at_call 144; refine (hs.out _ (hbw _ _)).mono ?_; rintro e w1 ⟨rfl, hb1⟩; have hc1 := hb1.cells; have hz1 := lt_of_alloc2 hb1; have hbf := (hbw _ _).trans hb1) | (go_at_call 145; refine (hg.out _ hbf).mono ?_; rintro e w2 ⟨rfl, hb2⟩))
    go_ret
    exact ⟨ret_bool hp.out, hbf.trans hb2⟩
  · rw [e1] at hid
    have g := hide (show false = eqEntry x y by rw [eqEntry_parts]; simp [*])
    replace hs := hide hs
    clear hg hp
    go_enter Tryz.func86, Tryz.ntmps86
    go_wp2_with (go_at_call 144; refine (hs.out _ (hbw _ _)).mono ?_; rintro e w1 ⟨rfl, hb1⟩; have hbf := (hbw _ _).trans hb1)
    go_ret
    exact ⟨ret_bool g.out, by first | exact hbf | exact hbw _ _⟩

end Go.Proofs.YteoodmilcpmmpaaGreat

namespace Go.Proofs.YteoodmilcpmmpaaGreat

open Go.RowKit

theorem addr_add (b off n : Nat) : (⟨b, off, none⟩ : Addr).add n = ⟨b, off + n, none⟩ := by
  unfold Addr.add
  split
  · rename_i h; subst h; rfl
  · rfl

/-- A piece of a slice. -/
theorem R.sub {α : Type} {C : Codec α} {lo : Nat} {w : World} {A : Option Addr} {xs : List α} (h : R C lo w A xs) (k m : Nat) : R C lo w (A.map (fun x => x.add (k * C.size))) ((xs.drop k).take m) := by
  obtain ⟨cells, hr, hs⟩ := h
  by_cases hk : k < xs.length
  · have e : xs = xs.take k ++ ((xs.drop k).take m ++ (xs.drop k).drop m) := by rw [List.take_append_drop, List.take_append_drop]
    rw [e] at hr
    obtain ⟨a, b, rfl, ha, hb⟩ := hr.split
    obtain ⟨b1, b2, rfl, hb1, hb2⟩ := hb.split
    refine ⟨b1, hb1, fun hne => ?_⟩
    obtain ⟨bl, off, e', hS, hat⟩ := hs (by simp [hne])
    subst e'
    have hl := ha.length
    rw [List.length_take, Nat.min_eq_left (by omega)] at hl
    refine ⟨bl, off + k * C.size, by rw [Option.map_some, addr_add], hS, ?_⟩
    have := (hat.right (cs := a)).left
    rwa [hl] at this
  · rw [List.drop_eq_nil_of_le (by omega)]
    exact ⟨[], by simp [RdL], fun h => absurd rfl h⟩

def Two (n e : Int) (w : World) (en : Ending) (w' : World) : Prop := en = .returned (.tuple #[.int .i64 n, .int .i64 e]) ∧ Bl w w'

end Go.Proofs.YteoodmilcpmmpaaGreat
