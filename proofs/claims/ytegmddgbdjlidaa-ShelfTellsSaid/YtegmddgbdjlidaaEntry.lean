/-
  The walks of shelf.one and shelf.Check.
-/
import Derived.Test.YtegmddgbdjlidaaClockIds
namespace Go.Proofs.Ytegmddgbdjlidaa
open Go.RowKit

theorem lt_of_alloc {w w' : World} {o : Obj} (h : Bl (w.alloc o) w') : w.heap.size < w'.heap.size := by
  have := h.size
  rw [World.size_alloc] at this
  omega

/-! ### Equality of stamps -/
def neqId (x y : Id) : Bool := !decide (x = y)
theorem neqId_parts (x y : Id) : neqId x y = !(x.t == y.t && x.r == y.r) := by
  unfold neqId
  by_cases h : x = y
  · subst h; simp
  · have : ¬ (x.t = y.t ∧ x.r = y.r) := fun h' => h (Id.ext' h'.1 h'.2)
    simp [h]; by_cases h1 : x.t = y.t <;> by_cases h2 : x.r = y.r <;> simp_all
theorem run_neqId' (a b c d : Int) (W : World) : (binOp .neq 25 (.agg #[.int .u32 a, .int .u8 b]) (.agg #[.int .u32 c, .int .u8 d])).run Try.prog W = .ok (.bool (!(a == c && b == d))) W := by
  have u3 := Try.underlying23
  have a3 := Try.isAgg23
  have z3 := Try.sizeOf23
  have u5 := Try.underlying5
  have a5 := Try.isAgg5
  have z5 := Try.sizeOf5
  have hS : Try.prog.underlying 25 = some (.struct (Try.prog.fieldsOf 25)) := by kernel_rfl
  have hp : Try.prog.stoodInHeld 25 = false := by kernel_rfl
  rw [run_neq_struct, show (10000 : Nat) = 9999 + 1 from rfl, run_equalIn_agg W 9999 25 _ _ hS hp]
  simp only [Program.fieldsOf, Try.underlying25]
  go_simp
  by_cases h1 : a = c <;> by_cases h2 : b = d <;> simp [h1, h2]
theorem run_eqId' (a b c d : Int) (W : World) : (binOp .eql 25 (.agg #[.int .u32 a, .int .u8 b]) (.agg #[.int .u32 c, .int .u8 d])).run Try.prog W = .ok (.bool (a == c && b == d)) W := by
  have u3 := Try.underlying23
  have a3 := Try.isAgg23
  have z3 := Try.sizeOf23
  have u5 := Try.underlying5
  have a5 := Try.isAgg5
  have z5 := Try.sizeOf5
  have hS : Try.prog.underlying 25 = some (.struct (Try.prog.fieldsOf 25)) := by kernel_rfl
  have hp : Try.prog.stoodInHeld 25 = false := by kernel_rfl
  rw [run_eql_struct, show (10000 : Nat) = 9999 + 1 from rfl, run_equalIn_agg W 9999 25 _ _ hS hp]
  simp only [Program.fieldsOf, Try.underlying25]
  go_simp
  by_cases h1 : a = c <;> by_cases h2 : b = d <;> simp [h1, h2]
theorem run_neqId (x y : Id) (W : World) : (binOp .neq 25 (.agg #[.int .u32 x.t, .int .u8 x.r]) (.agg #[.int .u32 y.t, .int .u8 y.r])).run Try.prog W = .ok (.bool (neqId x y)) W := by
  rw [run_neqId', neqId_parts]
theorem run_eqId (x y : Id) (W : World) : (binOp .eql 25 (.agg #[.int .u32 x.t, .int .u8 x.r]) (.agg #[.int .u32 y.t, .int .u8 y.r])).run Try.prog W = .ok (.bool (!neqId x y)) W := by
  rw [run_eqId', neqId_parts, Bool.not_not]
theorem run_neqZero (x : Id) (W : World) : (binOp .neq 25 (.agg #[.int .u32 x.t, .int .u8 x.r]) (.agg #[.int .u32 0, .int .u8 0])).run Try.prog W = .ok (.bool (neqId x ⟨0, 0⟩)) W := run_neqId x ⟨0, 0⟩ W
theorem neqId_false {x y : Id} (h : neqId x y = false) : x = y := by unfold neqId at h; simpa using h
theorem neqId_true {x y : Id} (h : neqId x y = true) : x ≠ y := by unfold neqId at h; simpa using h
theorem neqId_self (x : Id) : neqId x x = false := by unfold neqId; simp
theorem neqId_ne {x y : Id} (h : x ≠ y) : neqId x y = true := by unfold neqId; simpa using h

/-! ### May an entry be? -/
def entryHead (x : Entry) : Bool := (!neqId x.id ⟨0, 0⟩ || idMay x.id) && decide (0 ≤ x.used) && decide (x.used ≤ 1099511627776)
def entryTail (x : Entry) : Bool :=
  if x.known then !x.ready && clockMay x.snap && decide (clockMany x.snap ≤ 1024) && decide ((x.got.length : Int) = (clockMany x.snap + 7) / 8)
  else decide (x.snap.length = 0) && decide (x.got.length = 0)
def entryMay (x : Entry) : Bool := entryHead x && entryTail x

theorem clockMany_le (l : List Times) (h : allMay l) : 0 ≤ clockMany l ∧ clockMany l ≤ 1099511627776 * l.length := by
  induction l with
  | nil => simp [clockMany]
  | cons x l ih =>
    have h1 := spansMay_many (h x (by simp))
    have h2 := ih (fun y hy => h y (by simp [hy]))
    simp only [clockMany, List.length_cons]
    push_cast
    rw [Int.mul_add]
    omega
theorem clockCount_le (l : List Times) : 0 ≤ clockCount l ∧ clockCount l ≤ 8796093022208 := by
  unfold clockCount
  cases h : clockMay l
  · simp
  · have h1 := clockMany_le l (clockFrom_all _ (show clockFrom (-1) l = true from h))
    have h2 := clockMay_length h
    simp
    omega

set_option maxRecDepth 100000 in
set_option maxHeartbeats 1000000 in
theorem shelfOne (x : Entry) (A B : Option Addr) (c d : Nat) (w : World) (hx : x.ok) (hl : x.snap.length ≤ maxLen) (hg : x.got.length ≤ maxLen) (hA : R cTimes 0 w A x.snap) :
    Calls Try.prog 51 #[.agg #[.int .u32 x.id.t, .int .u8 x.id.r, .bool x.ready, .bool x.pin, .int .i64 x.used, .bool x.known, .slice A x.snap.length c, .slice B x.got.length d]] w fun e w' => e = .returned (.bool (entryMay x)) ∧ Bl w w' := by
  have hg' := hg
  have hl' := hl
  unfold maxLen at hg' hl'
  obtain ⟨⟨i0, i1, i2, i3⟩, u0, u1⟩ := hx
  have hne := run_neqZero x.id
  cases hh : entryHead x
  · have hfin : false = entryMay x := by unfold entryMay; rw [hh]; rfl
    replace hfin := hide hfin
    clear hg hl
    cases hz : neqId x.id ⟨0, 0⟩
    · rw [hz] at hne
      have hu : x.used < 0 ∨ 1099511627776 < x.used := by
        unfold entryHead at hh; rw [hz] at hh; simp at hh; omega
      clear hh hz
      rcases hu with hu | hu
      · go_enter Try.func51, Try.ntmps51
        go_wp2
        go_ret
        exact ⟨ret_bool hfin.out, (Bl.refl _).alloc _⟩
      · have hu' : 0 ≤ x.used := by omega
        go_enter Try.func51, Try.ntmps51
        go_wp2
        go_ret
        exact ⟨ret_bool hfin.out, (Bl.refl _).alloc _⟩
    · rw [hz] at hne
      have hu : idMay x.id = true → x.used < 0 ∨ 1099511627776 < x.used := by
        intro hm
        unfold entryHead at hh; rw [hz, hm] at hh; simp at hh; omega
      clear hh hz
      cases hm : idMay x.id
      · clear hu
        go_enter Try.func51, Try.ntmps51
        go_wp2_with (go_at_call 82; refine (stampCheck x.id _).mono ?_; rintro e w1 ⟨rfl, hb1⟩; rw [hm, okOr_false])
        go_ret
        exact ⟨ret_bool hfin.out, ((Bl.refl _).alloc _).trans hb1⟩
      · rcases hu hm with hu' | hu'
        · clear hu
          go_enter Try.func51, Try.ntmps51
          go_wp2_with (go_at_call 82; refine (stampCheck x.id _).mono ?_; rintro e w1 ⟨rfl, hb1⟩; rw [hm, okOr_true]; have hc1 := hb1.cells)
          go_ret
          exact ⟨ret_bool hfin.out, ((Bl.refl _).alloc _).trans hb1⟩
        · have hu0 : 0 ≤ x.used := by omega
          clear hu
          go_enter Try.func51, Try.ntmps51
          go_wp2_with (go_at_call 82; refine (stampCheck x.id _).mono ?_; rintro e w1 ⟨rfl, hb1⟩; rw [hm, okOr_true]; have hc1 := hb1.cells)
          go_ret
          exact ⟨ret_bool hfin.out, ((Bl.refl _).alloc _).trans hb1⟩
  · have hu : 0 ≤ x.used ∧ x.used ≤ 1099511627776 := by unfold entryHead at hh; simp at hh; omega
    obtain ⟨hu0, hu1⟩ := hu
    have hid : neqId x.id ⟨0, 0⟩ = true → idMay x.id = true := by
      intro hz; unfold entryHead at hh; rw [hz] at hh; simp at hh; exact hh.1.1
    have hfin : entryTail x = entryMay x := by unfold entryMay; rw [hh]; rfl
    replace hfin := hide hfin
    clear hh
    -- behind the head: the same for each way through it
    cases hk : x.known
    · -- no manifest is known
      have htail : entryTail x = (decide (x.snap.length = 0) && decide (x.got.length = 0)) := by unfold entryTail; rw [hk]; rfl
      by_cases h1 : x.snap.length = 0
      · have h1' : ((x.snap.length : Int) == 0) = true := by simp [h1]
        by_cases h2 : x.got.length = 0
        · have h2' : ((x.got.length : Int) == 0) = true := by simp [h2]
          have g := hide (show true = entryMay x by rw [← hfin.out, htail, h1, h2]; rfl)
          clear h1 h2 htail hfin hl hg
          cases hz : neqId x.id ⟨0, 0⟩
          · rw [hz] at hne
            clear hz hid
            go_enter Try.func51, Try.ntmps51
            go_wp2
            go_ret
            exact ⟨ret_bool g.out, (Bl.refl _).alloc _⟩
          · rw [hz] at hne
            replace hid := hid hz
            clear hz
            go_enter Try.func51, Try.ntmps51
            go_wp2_with (go_at_call 82; refine (stampCheck x.id _).mono ?_; rintro e w1 ⟨rfl, hb1⟩; rw [hid, okOr_true]; have hc1 := hb1.cells)
            go_ret
            exact ⟨ret_bool g.out, ((Bl.refl _).alloc _).trans hb1⟩
        · have h2' : ((x.got.length : Int) == 0) = false := beq_eq_false_iff_ne.2 (by omega)
          have g := hide (show false = entryMay x by rw [← hfin.out, htail]; simp [h2])
          clear h1 h2 htail hfin hl hg
          cases hz : neqId x.id ⟨0, 0⟩
          · rw [hz] at hne
            clear hz hid
            go_enter Try.func51, Try.ntmps51
            go_wp2
            go_ret
            exact ⟨ret_bool g.out, (Bl.refl _).alloc _⟩
          · rw [hz] at hne
            replace hid := hid hz
            clear hz
            go_enter Try.func51, Try.ntmps51
            go_wp2_with (go_at_call 82; refine (stampCheck x.id _).mono ?_; rintro e w1 ⟨rfl, hb1⟩; rw [hid, okOr_true]; have hc1 := hb1.cells)
            go_ret
            exact ⟨ret_bool g.out, ((Bl.refl _).alloc _).trans hb1⟩
      · have h1' : ((x.snap.length : Int) == 0) = false := beq_eq_false_iff_ne.2 (by omega)
        have g := hide (show false = entryMay x by rw [← hfin.out, htail]; simp [h1])
        clear h1 htail hfin hl hg
        cases hz : neqId x.id ⟨0, 0⟩
        · rw [hz] at hne
          clear hz hid
          go_enter Try.func51, Try.ntmps51
          go_wp2
          go_ret
          exact ⟨ret_bool g.out, (Bl.refl _).alloc _⟩
        · rw [hz] at hne
          replace hid := hid hz
          clear hz
          go_enter Try.func51, Try.ntmps51
          go_wp2_with (go_at_call 82; refine (stampCheck x.id _).mono ?_; rintro e w1 ⟨rfl, hb1⟩; rw [hid, okOr_true]; have hc1 := hb1.cells)
          go_ret
          exact ⟨ret_bool g.out, ((Bl.refl _).alloc _).trans hb1⟩
    · have htail : entryTail x = (!x.ready && clockMay x.snap && decide (clockMany x.snap ≤ 1024) && decide ((x.got.length : Int) = (clockMany x.snap + 7) / 8)) := by unfold entryTail; rw [hk]; rfl
      have hcb := clockCount_le x.snap
      have hcnt := fun W (hW : Bl w W) => clockCountC A c x.snap W hl (hA.bl hW)
      have hchk := fun W (hW : Bl w W) => clockCheck A c x.snap W hl (hA.bl hW)
      have hcm : clockMay x.snap = true → clockCount x.snap = clockMany x.snap := fun h => by unfold clockCount; rw [h]; rfl
      -- what the last test says, n being the count
      have hend : entryTail x = (!x.ready && clockMay x.snap && decide (clockCount x.snap ≤ 1024) && ((x.got.length : Int) == (clockCount x.snap + 7) / 8)) := by
        rw [htail]
        cases h : clockMay x.snap
        · simp
        · rw [hcm h]
          by_cases e : (x.got.length : Int) = (clockMany x.snap + 7) / 8 <;> simp [e]
      clear htail hcm
      generalize clockCount x.snap = n at hcb hcnt hend
      obtain ⟨hn0, hn1⟩ := hcb
      rw [hend] at hfin
      clear hend hl hg
      replace hcnt := hide hcnt
      cases hr : x.ready
      · cases hm : clockMay x.snap
        · have g := hide (show false = entryMay x by rw [← hfin.out, hm]; simp)
          rw [hm] at hchk
          replace hchk := hide hchk
          clear hfin hm
          cases hz : neqId x.id ⟨0, 0⟩
          · rw [hz] at hne
            clear hz hid
            have hb0 : ∀ o, Bl w (w.alloc o) := fun o => (Bl.refl _).alloc o
            go_enter Try.func51, Try.ntmps51
            go_wp2_with (first | (go_at_call 83; refine (hcnt.out _ (hb0 _)).mono ?_; rintro e wa ⟨rfl, hba⟩; have hca := hba.cells; have hza := lt_of_alloc hba; have hbw := (hb0 _).trans hba) | (go_at_call 84; refine (hchk.out _ ((hb0 _).trans hba)).mono ?_; rintro e wb ⟨rfl, hbb⟩; rw [okOr_false]; have hcb := hbb.cells; have hbw := ((hb0 _).trans hba).trans hbb))
            go_ret
            exact ⟨ret_bool g.out, hbw⟩
          · rw [hz] at hne
            replace hid := hid hz
            clear hz
            go_enter Try.func51, Try.ntmps51
            go_wp2_with (first | (go_at_call 82; refine (stampCheck x.id _).mono ?_; rintro e w1 ⟨rfl, hb1⟩; rw [hid, okOr_true]; have hc1 := hb1.cells; have hz1 := lt_of_alloc hb1; have hb0 := ((Bl.refl w).alloc _).trans hb1) | (go_at_call 83; refine (hcnt.out _ hb0).mono ?_; rintro e wa ⟨rfl, hba⟩; have hca := hba.cells; have hza := Nat.lt_of_lt_of_le hz1 hba.size; have hbw := hb0.trans hba) | (go_at_call 84; refine (hchk.out _ (hb0.trans hba)).mono ?_; rintro e wb ⟨rfl, hbb⟩; rw [okOr_false]; have hcb := hbb.cells; have hbw := (hb0.trans hba).trans hbb))
            go_ret
            exact ⟨ret_bool g.out, hbw⟩
        · rw [hr, hm] at hfin
          rw [hm] at hchk
          replace hchk := hide hchk
          clear hm
          by_cases hn : n ≤ 1024
          · have g := hide (show ((x.got.length : Int) == (n + 7) / 8) = entryMay x by rw [← hfin.out]; simp [hn])
            have e1 : (n + 8 - 1) / 8 = (n + 7) / 8 := by congr 1; omega
            cases hq : ((x.got.length : Int) == (n + 7) / 8)
            · rw [hq] at g
              rw [← e1] at hq
              clear hfin e1
              cases hz : neqId x.id ⟨0, 0⟩
              · rw [hz] at hne
                clear hz hid
                have hb0 : ∀ o, Bl w (w.alloc o) := fun o => (Bl.refl _).alloc o
                go_enter Try.func51, Try.ntmps51
                go_wp2_with (first | (go_at_call 83; refine (hcnt.out _ (hb0 _)).mono ?_; rintro e wa ⟨rfl, hba⟩; have hca := hba.cells; have hza := lt_of_alloc hba; have hbw := (hb0 _).trans hba) | (go_at_call 84; refine (hchk.out _ ((hb0 _).trans hba)).mono ?_; rintro e wb ⟨rfl, hbb⟩; rw [okOr_true]; have hcb := hbb.cells; have hbw := ((hb0 _).trans hba).trans hbb))
                go_ret
                exact ⟨ret_bool g.out, hbw⟩
              · rw [hz] at hne
                replace hid := hid hz
                clear hz
                go_enter Try.func51, Try.ntmps51
                go_wp2_with (first | (go_at_call 82; refine (stampCheck x.id _).mono ?_; rintro e w1 ⟨rfl, hb1⟩; rw [hid, okOr_true]; have hc1 := hb1.cells; have hz1 := lt_of_alloc hb1; have hb0 := ((Bl.refl w).alloc _).trans hb1) | (go_at_call 83; refine (hcnt.out _ hb0).mono ?_; rintro e wa ⟨rfl, hba⟩; have hca := hba.cells; have hza := Nat.lt_of_lt_of_le hz1 hba.size; have hbw := hb0.trans hba) | (go_at_call 84; refine (hchk.out _ (hb0.trans hba)).mono ?_; rintro e wb ⟨rfl, hbb⟩; rw [okOr_true]; have hcb := hbb.cells; have hbw := (hb0.trans hba).trans hbb))
                go_ret
                exact ⟨ret_bool g.out, hbw⟩
            · rw [hq] at g
              rw [← e1] at hq
              clear hfin e1
              cases hz : neqId x.id ⟨0, 0⟩
              · rw [hz] at hne
                clear hz hid
                have hb0 : ∀ o, Bl w (w.alloc o) := fun o => (Bl.refl _).alloc o
                go_enter Try.func51, Try.ntmps51
                go_wp2_with (first | (go_at_call 83; refine (hcnt.out _ (hb0 _)).mono ?_; rintro e wa ⟨rfl, hba⟩; have hca := hba.cells; have hza := lt_of_alloc hba; have hbw := (hb0 _).trans hba) | (go_at_call 84; refine (hchk.out _ ((hb0 _).trans hba)).mono ?_; rintro e wb ⟨rfl, hbb⟩; rw [okOr_true]; have hcb := hbb.cells; have hbw := ((hb0 _).trans hba).trans hbb))
                go_ret
                exact ⟨ret_bool g.out, hbw⟩
              · rw [hz] at hne
                replace hid := hid hz
                clear hz
                go_enter Try.func51, Try.ntmps51
                go_wp2_with (first | (go_at_call 82; refine (stampCheck x.id _).mono ?_; rintro e w1 ⟨rfl, hb1⟩; rw [hid, okOr_true]; have hc1 := hb1.cells; have hz1 := lt_of_alloc hb1; have hb0 := ((Bl.refl w).alloc _).trans hb1) | (go_at_call 83; refine (hcnt.out _ hb0).mono ?_; rintro e wa ⟨rfl, hba⟩; have hca := hba.cells; have hza := Nat.lt_of_lt_of_le hz1 hba.size; have hbw := hb0.trans hba) | (go_at_call 84; refine (hchk.out _ (hb0.trans hba)).mono ?_; rintro e wb ⟨rfl, hbb⟩; rw [okOr_true]; have hcb := hbb.cells; have hbw := (hb0.trans hba).trans hbb))
                go_ret
                exact ⟨ret_bool g.out, hbw⟩
          · have g := hide (show false = entryMay x by rw [← hfin.out]; simp [hn])
            clear hfin
            have hn' : 1024 < n := by omega
            clear hn
            cases hz : neqId x.id ⟨0, 0⟩
            · rw [hz] at hne
              clear hz hid
              have hb0 : ∀ o, Bl w (w.alloc o) := fun o => (Bl.refl _).alloc o
              go_enter Try.func51, Try.ntmps51
              go_wp2_with (first | (go_at_call 83; refine (hcnt.out _ (hb0 _)).mono ?_; rintro e wa ⟨rfl, hba⟩; have hca := hba.cells; have hza := lt_of_alloc hba; have hbw := (hb0 _).trans hba) | (go_at_call 84; refine (hchk.out _ ((hb0 _).trans hba)).mono ?_; rintro e wb ⟨rfl, hbb⟩; rw [okOr_true]; have hcb := hbb.cells; have hbw := ((hb0 _).trans hba).trans hbb))
              go_ret
              exact ⟨ret_bool g.out, hbw⟩
            · rw [hz] at hne
              replace hid := hid hz
              clear hz
              go_enter Try.func51, Try.ntmps51
              go_wp2_with (first | (go_at_call 82; refine (stampCheck x.id _).mono ?_; rintro e w1 ⟨rfl, hb1⟩; rw [hid, okOr_true]; have hc1 := hb1.cells; have hz1 := lt_of_alloc hb1; have hb0 := ((Bl.refl w).alloc _).trans hb1) | (go_at_call 83; refine (hcnt.out _ hb0).mono ?_; rintro e wa ⟨rfl, hba⟩; have hca := hba.cells; have hza := Nat.lt_of_lt_of_le hz1 hba.size; have hbw := hb0.trans hba) | (go_at_call 84; refine (hchk.out _ (hb0.trans hba)).mono ?_; rintro e wb ⟨rfl, hbb⟩; rw [okOr_true]; have hcb := hbb.cells; have hbw := (hb0.trans hba).trans hbb))
              go_ret
              exact ⟨ret_bool g.out, hbw⟩
      · have g := hide (show false = entryMay x by rw [← hfin.out, hr]; simp)
        clear hfin
        replace hchk := hide hchk
        cases hz : neqId x.id ⟨0, 0⟩
        · rw [hz] at hne
          clear hz hid
          have hb0 : ∀ o, Bl w (w.alloc o) := fun o => (Bl.refl _).alloc o
          go_enter Try.func51, Try.ntmps51
          go_wp2_with (first | (go_at_call 83; refine (hcnt.out _ (hb0 _)).mono ?_; rintro e wa ⟨rfl, hba⟩; have hca := hba.cells; have hza := lt_of_alloc hba; have hbw := (hb0 _).trans hba) | (go_at_call 84; refine (hchk.out _ ((hb0 _).trans hba)).mono ?_; rintro e wb ⟨rfl, hbb⟩; fail; have hcb := hbb.cells; have hbw := ((hb0 _).trans hba).trans hbb))
          go_ret
          exact ⟨ret_bool g.out, hbw⟩
        · rw [hz] at hne
          replace hid := hid hz
          clear hz
          go_enter Try.func51, Try.ntmps51
          go_wp2_with (first | (go_at_call 82; refine (stampCheck x.id _).mono ?_; rintro e w1 ⟨rfl, hb1⟩; rw [hid, okOr_true]; have hc1 := hb1.cells; have hz1 := lt_of_alloc hb1; have hb0 := ((Bl.refl w).alloc _).trans hb1) | (go_at_call 83; refine (hcnt.out _ hb0).mono ?_; rintro e wa ⟨rfl, hba⟩; have hca := hba.cells; have hza := Nat.lt_of_lt_of_le hz1 hba.size; have hbw := hb0.trans hba) | (go_at_call 84; refine (hchk.out _ (hb0.trans hba)).mono ?_; rintro e wb ⟨rfl, hbb⟩; fail; have hcb := hbb.cells; have hbw := (hb0.trans hba).trans hbb))
          go_ret
          exact ⟨ret_bool g.out, hbw⟩
end Go.Proofs.Ytegmddgbdjlidaa
