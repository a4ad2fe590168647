/-
  The walk of the law ShelfVictim, and what it stands on.
-/
import Derived.Test.YtegmddgbdjlidaaAlive19
namespace Go.Proofs.Ytegmddgbdjlidaa
open Go.RowKit

/-! ### Plain -/
theorem vic_none {keep : List Id} : ∀ (l : List Entry) (st : Option Entry), l.foldl (vicStep keep) st = none → st = none ∧ ∀ x ∈ l, staysE keep x = true := by
  intro l
  induction l with
  | nil => intro st h; exact ⟨h, fun x hx => by cases hx⟩
  | cons x l ih =>
    intro st h
    obtain ⟨h1, h2⟩ := ih _ h
    unfold vicStep at h1
    cases hs : staysE keep x
    · rw [hs] at h1
      cases st with
      | none => cases h1
      | some y =>
        rw [if_neg (by simp)] at h1
        dsimp only at h1
        split at h1 <;> cases h1
    · rw [hs, if_pos rfl] at h1
      refine ⟨h1, fun z hz => ?_⟩
      rcases List.mem_cons.1 hz with rfl | hz
      · exact hs
      · exact h2 z hz
theorem vic_some {keep : List Id} : ∀ (l : List Entry) (st : Option Entry) (y : Entry), l.foldl (vicStep keep) st = some y →
    (st = some y ∨ (y ∈ l ∧ staysE keep y = false)) ∧ (∀ z, st = some z → y.used ≤ z.used) ∧ ∀ x ∈ l, staysE keep x = false → y.used ≤ x.used := by
  intro l
  induction l with
  | nil =>
    intro st y h
    have h' : st = some y := h
    exact ⟨.inl h', fun z hz => (by rw [h'] at hz; injection hz with hz; rw [hz]; exact Int.le_refl _), fun x hx => by cases hx⟩
  | cons x l ih =>
    intro st y h
    obtain ⟨h1, h2, h3⟩ := ih _ _ h
    unfold vicStep at h1 h2
    cases hs : staysE keep x
    · rw [hs, if_neg (by simp)] at h1 h2
      cases st with
      | none =>
        dsimp only at h1 h2
        have hx := h2 x rfl
        refine ⟨.inr ?_, fun z hz => (by cases hz), fun z hz hk => ?_⟩
        · rcases h1 with h1 | ⟨h1, h4⟩
          · injection h1 with h1; subst h1; exact ⟨List.mem_cons_self, hs⟩
          · exact ⟨List.mem_cons_of_mem _ h1, h4⟩
        · rcases List.mem_cons.1 hz with rfl | hz
          · exact hx
          · exact h3 z hz hk
      | some z =>
        dsimp only at h1 h2
        by_cases hu : x.used < z.used
        · rw [if_pos hu] at h1 h2
          have hx := h2 x rfl
          refine ⟨.inr ?_, fun z' hz => (by injection hz with hz; subst hz; omega), fun z' hz hk => ?_⟩
          · rcases h1 with h1 | ⟨h1, h4⟩
            · injection h1 with h1; subst h1; exact ⟨List.mem_cons_self, hs⟩
            · exact ⟨List.mem_cons_of_mem _ h1, h4⟩
          · rcases List.mem_cons.1 hz with rfl | hz
            · exact hx
            · exact h3 z' hz hk
        · rw [if_neg hu] at h1 h2
          have hx := h2 z rfl
          refine ⟨?_, fun z' hz => (by injection hz with hz; subst hz; exact hx), fun z' hz hk => ?_⟩
          · rcases h1 with h1 | ⟨h1, h4⟩
            · exact .inl h1
            · exact .inr ⟨List.mem_cons_of_mem _ h1, h4⟩
          · rcases List.mem_cons.1 hz with rfl | hz
            · omega
            · exact h3 z' hz hk
    · rw [hs, if_pos rfl] at h1 h2
      refine ⟨?_, h2, fun z hz hk => ?_⟩
      · rcases h1 with h1 | ⟨h1, h4⟩
        · exact .inl h1
        · exact .inr ⟨List.mem_cons_of_mem _ h1, h4⟩
      · rcases List.mem_cons.1 hz with rfl | hz
        · rw [hs] at hk; cases hk
        · exact h3 z hz hk
theorem ent_self {l : List Entry} {y : Entry} (h : shelfMay l = true) (hy : y ∈ l) : entOf l y.id = some y := by
  cases he : entOf l y.id with
  | none => exact absurd rfl (ent_none he y hy)
  | some x =>
    obtain ⟨k, hk, hid⟩ := ent_some he
    obtain ⟨j, hj⟩ := List.getElem?_of_mem hy
    rcases Nat.lt_trichotomy k j with hlt | rfl | hlt
    · have := may_less h k j x y hlt hk hj
      rw [hid, idLess_irrefl] at this
      cases this
    · rw [hk] at hj; exact hj
    · have := may_less h j k y x hlt hj hk
      rw [hid, idLess_irrefl] at this
      cases this
theorem find_self {l : List Entry} {y : Entry} (h : shelfMay l = true) (hy : y ∈ l) : findE l y.id = y ∧ findB l y.id = true := by
  unfold findE findB
  rw [h, ent_self h hy]
  exact ⟨rfl, rfl⟩
theorem memId_take {l : List Id} {k : Nat} {x s : Id} (h : l[k]? = some x) : memId (l.take (k + 1)) s = (memId (l.take k) s || decide (x = s)) := by
  rw [take_snoc h]
  unfold memId
  rw [List.any_append]
  simp
theorem victim_plain {l : List Entry} {keep : List Id} (h : shelfMay l = true) (hk : keep.length ≤ 1000) : victimE l keep = l.foldl (vicStep keep) none := by
  unfold victimE
  rw [h, decide_eq_true (by omega)]
  rfl
theorem stays_pin {keep : List Id} {y : Entry} (h : staysE keep y = false) : y.pin = false := by
  unfold staysE at h
  simp at h
  exact h.1
set_option maxRecDepth 100000 in
set_option maxHeartbeats 4000000 in
theorem shelfVict19 (A K : Option Addr) (c kc : Nat) (l : List Entry) (keep : List Id) (w : World) (hl : l.length ≤ 140737488355328) (hk : keep.length ≤ 140737488355328) (hq : QShelf l) (hA : R cEntry 0 w A l) (hK : R cId 0 w K keep) :
    Calls Try.prog 8 #[.slice A l.length c, .slice K keep.length kc] w fun e w' => e = .returned (.bool true) ∧ Bl w w' := by
  have heq := run_eqId
  have hchk := fun W (hb : Bl w W) => shelfCheck A c l W (by unfold maxLen; omega) (hA.bl hb)
  replace hchk := hide hchk
  go_enter Try.func8, Try.ntmps8
  go_wp2_with fail
  refine (alive19 _).mono ?_
  rintro e w1 ⟨rfl, hb1⟩
  go_wp2_with fail
  refine (refGreat19 A c l _ hl hq (hA.bl hb1)).mono ?_
  rintro e w2 ⟨b1, rfl, hfew, hb2⟩
  replace hfew := hide hfew
  have hw2 := hb1.trans hb2
  clear hq
  cases b1
  rotate_left
  · go_wp2_with fail
    go_ret
    exact ⟨rfl, hw2⟩
  by_cases hk1 : 1000 < keep.length
  · go_wp2_with fail
    go_ret
    exact ⟨rfl, hw2⟩
  go_wp2_with fail
  have hl80 := (hfew.out (by first | rfl | trivial)).1
  clear hfew
  have hvic' := shelfVictimC A K c kc l keep w2 (by omega) (by unfold maxLen; omega) (hA.bl hw2) (hK.bl hw2)
  replace hchk := hchk.out
  cases hm : shelfMay l
  · have e1 : victimE l keep = none := by unfold victimE; rw [hm]; rfl
    rw [e1] at hvic'
    rw [hm, okOr_false] at hchk
    replace hchk := hide hchk
    clear hm e1
    refine hvic'.mono ?_
    rintro e w3 ⟨rfl, hb3⟩
    dsimp only [vicId, Option.isSome]
    have hw3 := hw2.trans hb3
    go_wp2_with fail
    have at0 := IdAt.new w3 ⟨0, 0⟩
    have hb4 : Bl w (w3.alloc (.cells #[Value.int IntKind.u32 0, Value.int IntKind.u8 0] 25)) := hw3.alloc _
    refine (hchk.out _ hb4).mono ?_
    rintro e w5 ⟨rfl, hb5⟩
    obtain ⟨y0, y1, -, -⟩ := at0.bl hb5
    dsimp only at y0 y1
    go_wp2_with fail
    go_ret
    exact ⟨rfl, hb4.trans hb5⟩
  rw [hm, okOr_true] at hchk
  replace hchk := hide hchk
  have hkl : keep.length ≤ 1000 := by omega
  have hvp := victim_plain (keep := keep) hm hkl
  cases hv : victimE l keep with
  | none =>
    rw [hv] at hvic' hvp
    have hall := hide (vic_none l none hvp.symm).2
    clear hvp hv
    refine hvic'.mono ?_
    rintro e w3 ⟨rfl, hb3⟩
    dsimp only [vicId, Option.isSome]
    have hw3 := hw2.trans hb3
    go_wp2_with fail
    have at0 := IdAt.new w3 ⟨0, 0⟩
    have hb4 : Bl w (w3.alloc (.cells #[Value.int IntKind.u32 0, Value.int IntKind.u8 0] 25)) := hw3.alloc _
    refine (hchk.out _ hb4).mono ?_
    rintro e w5 ⟨rfl, hb5⟩
    have at5 := at0.bl hb5
    have hw5 := hb4.trans hb5
    obtain ⟨y0, y1, -, -⟩ := at5
    dsimp only at y0 y1
    go_wp2_with fail
    refine (shelfFind A c l ⟨0, 0⟩ _ (by omega) (by unfold Id.ok; decide) (hA.bl hw5)).mono ?_
    rintro e w6 ⟨A6, c6, B6, d6, rfl, l1, l2, l3, l4, hS6, hG6, hb6⟩
    generalize findE l ⟨0, 0⟩ = fe at *
    generalize findB l ⟨0, 0⟩ = fb at *
    have hw6 := hw5.trans hb6
    clear y0 y1
    go_upto_region 11 with fail
    go_loopw [10] (fun i wr => Bl w wr ∧ ∃ (k : Nat), k ≤ l.length ∧ i = .int .i64 k) (fun i _ => l.length - (intOf i).toNat)
    case atStart => exact ⟨hw6.alloc _, 0, Nat.zero_le _, rfl⟩
    case round =>
    obtain ⟨hbwr, k, hkn, rfl⟩ := hrel
    by_cases hlt : k < l.length
    · have hR := hA.bl hbwr
      obtain ⟨b, off, rfl, _, hbb⟩ := hR.addr (by omega)
      obtain ⟨x, hx⟩ := get_lt hlt
      obtain ⟨_, ho, S, sc, G, gc, q1, q2, q3, q4, hS, hG, c0, c1, c2, c3, c4, c5, c6', c7⟩ := hR.entry hx
      have hstay := hall.out x (List.mem_of_getElem? hx)
      clear hx
      have hi : (k : Int) < (l.length : Int) := by omega
      have hi0 : (0 : Int) ≤ (k : Int) := by omega
      go_upto_region 15 with fail
      obtain ⟨wo, rfl⟩ : ∃ wo, wo = wr := ⟨_, rfl⟩
      go_loopw [11, 12] (fun kp i2 wr2 => Bl wo wr2 ∧ ∃ (j : Nat) (kb : Bool), j ≤ keep.length ∧ kp = .bool kb ∧ i2 = .int .i64 j ∧ Hid (kb = (x.pin || memId (keep.take j) x.id))) (fun _ i2 _ => keep.length - (intOf i2).toNat)
      case atStart => exact ⟨Bl.refl _, 0, x.pin, Nat.zero_le _, rfl, rfl, by simp [Hid, memId]⟩
      case round =>
        obtain ⟨hbl2, j, kb, hj, rfl, rfl, hkb⟩ := hrel
        by_cases hlt2 : j < keep.length
        · have hKR := hK.bl (hbwr.trans hbl2)
          obtain ⟨b', off', rfl, _, hb'⟩ := hKR.addr (by omega)
          obtain ⟨s, hs⟩ := get_lt hlt2
          obtain ⟨_, _, k0, k1⟩ := hKR.id hs
          have hmt := hide (memId_take (s := x.id) hs)
          clear hs
          have K0 := fun p : Wd wr => Wd.cell k0 hb' p
          have K1 := fun p : Wd wr => Wd.cell k1 hb' p
          have C0 := fun p : Wd wr => Wd.cell ((hbl2.cell hbb).trans c0) (by have := hbl2.size; omega) p
          have C1 := fun p : Wd wr => Wd.cell ((hbl2.cell hbb).trans c1) (by have := hbl2.size; omega) p
          have hj1 : (j : Int) < (keep.length : Int) := by omega
          have hj0 : (0 : Int) ≤ (j : Int) := by omega
          cases kb
          · cases hq0 : neqId s x.id
            · have hq' : (!neqId s x.id) = true := by rw [hq0]; rfl
              have g := hide (show true = (x.pin || memId (keep.take (j + 1)) x.id) by rw [hmt.out, neqId_false hq0]; simp)
              clear hq0
              go_wp2
              (refine wp_region_wd (by kernel_rfl) (by kernel_rfl) ?_
               repeat (go_big_quiet_step ((fail)))
               refine wpQuiet_nil ?_
               intro w5 hw'
               obtain ⟨⟨wx, hb5⟩, hw''⟩ := hw'
               subst hw'')
              go_wp2
              go_roundw
              case rel => exact ⟨hbl2.trans hb5, j + 1, true, by omega, rfl, by go_num, g⟩
              case measure => simp [intOf]; omega
            · have hq' : (!neqId s x.id) = false := by rw [hq0]; rfl
              have g := hide (show false = (x.pin || memId (keep.take (j + 1)) x.id) by rw [hmt.out, ← Bool.or_assoc, ← hkb.out, decide_eq_false (neqId_true hq0)]; rfl)
              clear hq0
              go_wp2
              (refine wp_region_wd (by kernel_rfl) (by kernel_rfl) ?_
               repeat (go_big_quiet_step ((fail)))
               refine wpQuiet_nil ?_
               intro w5 hw'
               obtain ⟨⟨wx, hb5⟩, hw''⟩ := hw'
               subst hw'')
              go_wp2
              go_roundw
              case rel => exact ⟨hbl2.trans hb5, j + 1, false, by omega, rfl, by go_num, g⟩
              case measure => simp [intOf]; omega
          · have g := hide (show true = (x.pin || memId (keep.take (j + 1)) x.id) by rw [hmt.out, ← Bool.or_assoc, ← hkb.out]; rfl)
            go_wp2
            (refine wp_region_wd (by kernel_rfl) (by kernel_rfl) ?_
             repeat (go_big_quiet_step ((fail)))
             refine wpQuiet_nil ?_
             intro w5 hw'
             obtain ⟨⟨wx, hb5⟩, hw''⟩ := hw'
             subst hw'')
            go_wp2
            go_roundw
            case rel => exact ⟨hbl2.trans hb5, j + 1, true, by omega, rfl, by go_num, g⟩
            case measure => simp [intOf]; omega
        · have hst : kb = staysE keep x := by
            have := hkb.out
            rwa [List.take_of_length_le (by omega)] at this
          rw [hstay] at hst
          subst hst
          go_wp2
          (refine wp_region_wd (by kernel_rfl) (by kernel_rfl) ?_
           repeat (go_big_quiet_step ((fail)))
           refine wpQuiet_nil ?_
           intro w5 hw'
           obtain ⟨⟨wx, hb5⟩, hw''⟩ := hw'
           subst hw'')
          go_wp2
          go_roundw
          case rel => exact ⟨(hbwr.trans hbl2).trans hb5, k + 1, by omega, by go_num⟩
          case measure => simp [intOf]; omega
    · go_wp2
      go_ret
      exact ⟨rfl, hbwr⟩
  | some y =>
    rw [hv] at hvic' hvp
    obtain ⟨hy0, -, hmin⟩ := vic_some l none y hvp.symm
    have hyl : y ∈ l ∧ staysE keep y = false := by
      rcases hy0 with h | h
      · cases h
      · exact h
    obtain ⟨hfe, hfb⟩ := find_self hm hyl.1
    have hpin := stays_pin hyl.2
    have hyid : y.id.ok := (hA.oks y hyl.1).1
    have hne : Hid (∀ x ∈ l, staysE keep x = true → neqId x.id y.id = true) := fun x hx hs => by
      cases hn : neqId x.id y.id
      · have h1 := ent_self hm hx
        rw [neqId_false hn, ent_self hm hyl.1] at h1
        injection h1 with h1
        rw [← h1, hyl.2] at hs
        cases hs
      · rfl
    replace hmin := hide hmin
    replace hpin := hide hpin
    clear hvp hv hy0 hyl hm
    refine hvic'.mono ?_
    rintro e w3 ⟨rfl, hb3⟩
    dsimp only [vicId, Option.isSome]
    have hw3 := hw2.trans hb3
    go_wp2_with fail
    have at0 := IdAt.new w3 y.id
    have hb4 : Bl w (w3.alloc (.cells #[Value.int IntKind.u32 y.id.t, Value.int IntKind.u8 y.id.r] 25)) := hw3.alloc _
    refine (hchk.out _ hb4).mono ?_
    rintro e w5 ⟨rfl, hb5⟩
    have at5 := at0.bl hb5
    have hw5 := hb4.trans hb5
    have hat5 := hide at5
    obtain ⟨y0, y1, -, -⟩ := at5
    clear at0
    go_wp2_with fail
    refine (shelfFind A c l y.id _ (by omega) hyid (hA.bl hw5)).mono ?_
    rw [hfe, hfb]
    rintro e w6 ⟨A6, c6, B6, d6, rfl, l1, l2, l3, l4, hS6, hG6, hb6⟩
    clear hfe hfb
    have hw6 := hw5.trans hb6
    have hat6 := hide (hat5.out.bl hb6)
    clear y0 y1 hat5
    go_upto_region 11 with fail
    · exact absurd ‹y.pin = true› (by rw [hpin.out]; simp)
    have at6 : ∀ V, Bl (w6.alloc (.cells #[Value.int IntKind.u32 y.id.t, Value.int IntKind.u8 y.id.r, Value.bool y.ready, Value.bool y.pin, Value.int IntKind.i64 y.used, Value.bool y.known, Value.slice A6 y.snap.length c6, Value.slice B6 y.got.length d6] 31)) V → EntAt V w6.heap.size y A6 c6 B6 d6 := fun V hb => (EntAt.new w6 y A6 c6 B6 d6 _).bl hb
    have hV6 : Bl w6 (w6.alloc (.cells #[Value.int IntKind.u32 y.id.t, Value.int IntKind.u8 y.id.r, Value.bool y.ready, Value.bool y.pin, Value.int IntKind.i64 y.used, Value.bool y.known, Value.slice A6 y.snap.length c6, Value.slice B6 y.got.length d6] 31)) := (Bl.refl _).alloc _
    have hsz6 : (w6.alloc (.cells #[Value.int IntKind.u32 y.id.t, Value.int IntKind.u8 y.id.r, Value.bool y.ready, Value.bool y.pin, Value.int IntKind.i64 y.used, Value.bool y.known, Value.slice A6 y.snap.length c6, Value.slice B6 y.got.length d6] 31)).heap.size = w6.heap.size + 1 := World.size_alloc _ _
    replace at6 := hide at6
    generalize w6.alloc (.cells #[Value.int IntKind.u32 y.id.t, Value.int IntKind.u8 y.id.r, Value.bool y.ready, Value.bool y.pin, Value.int IntKind.i64 y.used, Value.bool y.known, Value.slice A6 y.snap.length c6, Value.slice B6 y.got.length d6] 31) = V6 at *
    have hwV := hw6.trans hV6
    have hatV := hide (hat6.out.bl hV6)
    go_loopw [10] (fun i wr => Bl V6 wr ∧ ∃ (k : Nat), k ≤ l.length ∧ i = .int .i64 k) (fun i _ => l.length - (intOf i).toNat)
    case atStart => exact ⟨Bl.refl _, 0, Nat.zero_le _, rfl⟩
    case round =>
    obtain ⟨hbV, k, hkn, rfl⟩ := hrel
    have hbwr := hwV.trans hbV
    by_cases hlt : k < l.length
    · have hR := hA.bl hbwr
      obtain ⟨b, off, rfl, _, hbb⟩ := hR.addr (by omega)
      obtain ⟨x, hx⟩ := get_lt hlt
      obtain ⟨_, ho, S, sc, G, gc, q1, q2, q3, q4, hS, hG, c0, c1, c2, c3, c4, c5, c6', c7⟩ := hR.entry hx
      have hmx := hide (hmin.out x (List.mem_of_getElem? hx))
      have hnx := hide (hne.out x (List.mem_of_getElem? hx))
      clear hx
      have hi : (k : Int) < (l.length : Int) := by omega
      have hi0 : (0 : Int) ≤ (k : Int) := by omega
      go_upto_region 15 with fail
      obtain ⟨wo, rfl⟩ : ∃ wo, wo = wr := ⟨_, rfl⟩
      go_loopw [11, 12] (fun kp i2 wr2 => Bl wo wr2 ∧ ∃ (j : Nat) (kb : Bool), j ≤ keep.length ∧ kp = .bool kb ∧ i2 = .int .i64 j ∧ Hid (kb = (x.pin || memId (keep.take j) x.id))) (fun _ i2 _ => keep.length - (intOf i2).toNat)
      case atStart => exact ⟨Bl.refl _, 0, x.pin, Nat.zero_le _, rfl, rfl, by simp [Hid, memId]⟩
      case round =>
        obtain ⟨hbl2, j, kb, hj, rfl, rfl, hkb⟩ := hrel
        by_cases hlt2 : j < keep.length
        · have hKR := hK.bl (hbwr.trans hbl2)
          obtain ⟨b', off', rfl, _, hb'⟩ := hKR.addr (by omega)
          obtain ⟨s, hs⟩ := get_lt hlt2
          obtain ⟨_, _, k0, k1⟩ := hKR.id hs
          have hmt := hide (memId_take (s := x.id) hs)
          clear hs
          have K0 := fun p : Wd wr => Wd.cell k0 hb' p
          have K1 := fun p : Wd wr => Wd.cell k1 hb' p
          have C0 := fun p : Wd wr => Wd.cell ((hbl2.cell hbb).trans c0) (by have := hbl2.size; omega) p
          have C1 := fun p : Wd wr => Wd.cell ((hbl2.cell hbb).trans c1) (by have := hbl2.size; omega) p
          have hj1 : (j : Int) < (keep.length : Int) := by omega
          have hj0 : (0 : Int) ≤ (j : Int) := by omega
          cases kb
          · cases hq0 : neqId s x.id
            · have hq' : (!neqId s x.id) = true := by rw [hq0]; rfl
              have g := hide (show true = (x.pin || memId (keep.take (j + 1)) x.id) by rw [hmt.out, neqId_false hq0]; simp)
              clear hq0
              go_wp2
              (refine wp_region_wd (by kernel_rfl) (by kernel_rfl) ?_
               repeat (go_big_quiet_step ((fail)))
               refine wpQuiet_nil ?_
               intro w5 hw'
               obtain ⟨⟨wx, hb5⟩, hw''⟩ := hw'
               subst hw'')
              go_wp2
              go_roundw
              case rel => exact ⟨hbl2.trans hb5, j + 1, true, by omega, rfl, by go_num, g⟩
              case measure => simp [intOf]; omega
            · have hq' : (!neqId s x.id) = false := by rw [hq0]; rfl
              have g := hide (show false = (x.pin || memId (keep.take (j + 1)) x.id) by rw [hmt.out, ← Bool.or_assoc, ← hkb.out, decide_eq_false (neqId_true hq0)]; rfl)
              clear hq0
              go_wp2
              (refine wp_region_wd (by kernel_rfl) (by kernel_rfl) ?_
               repeat (go_big_quiet_step ((fail)))
               refine wpQuiet_nil ?_
               intro w5 hw'
               obtain ⟨⟨wx, hb5⟩, hw''⟩ := hw'
               subst hw'')
              go_wp2
              go_roundw
              case rel => exact ⟨hbl2.trans hb5, j + 1, false, by omega, rfl, by go_num, g⟩
              case measure => simp [intOf]; omega
          · have g := hide (show true = (x.pin || memId (keep.take (j + 1)) x.id) by rw [hmt.out, ← Bool.or_assoc, ← hkb.out]; rfl)
            go_wp2
            (refine wp_region_wd (by kernel_rfl) (by kernel_rfl) ?_
             repeat (go_big_quiet_step ((fail)))
             refine wpQuiet_nil ?_
             intro w5 hw'
             obtain ⟨⟨wx, hb5⟩, hw''⟩ := hw'
             subst hw'')
            go_wp2
            go_roundw
            case rel => exact ⟨hbl2.trans hb5, j + 1, true, by omega, rfl, by go_num, g⟩
            case measure => simp [intOf]; omega
        · have hst : kb = staysE keep x := by
            have := hkb.out
            rwa [List.take_of_length_le (by omega)] at this
          have hV2 := hbV.trans hbl2
          have C0 := fun p : Wd wr => Wd.cell ((hbl2.cell hbb).trans c0) (by have := hbl2.size; omega) p
          have C1 := fun p : Wd wr => Wd.cell ((hbl2.cell hbb).trans c1) (by have := hbl2.size; omega) p
          have C4 := fun p : Wd wr => Wd.cell ((hbl2.cell hbb).trans c4) (by have := hbl2.size; omega) p
          have hatr := hatV.out.bl hV2
          have hz := hatr.lt
          have S0 := fun p : Wd wr => Wd.cell hatr.c0 hz p
          have S1 := fun p : Wd wr => Wd.cell hatr.c1 hz p
          have hz6 := (at6.out _ hV2).lt
          have U4 := fun p : Wd wr => Wd.cell (at6.out _ hV2).cells.2.2.2.2.1 hz6 p
          cases kb
          · have hlu : y.used ≤ x.used := hmx.out hst.symm
            have hlu' : decide (x.used < y.used) = false := decide_eq_false (by omega)
            clear hst
            cases hq0 : neqId x.id y.id
            · have hq' : (!neqId x.id y.id) = true := by rw [hq0]; rfl
              clear hq0
              go_wp2
              (refine wp_region_wd (by kernel_rfl) (by kernel_rfl) ?_
               repeat (go_big_quiet_step ((fail)))
               refine wpQuiet_nil ?_
               intro w5 hw'
               obtain ⟨⟨wx, hb5⟩, hw''⟩ := hw'
               subst hw'')
              go_wp2
              go_roundw
              case rel => exact ⟨hV2.trans hb5, k + 1, by omega, by go_num⟩
              case measure => simp [intOf]; omega
            · have hq' : (!neqId x.id y.id) = false := by rw [hq0]; rfl
              clear hq0
              go_wp2
              (refine wp_region_wd (by kernel_rfl) (by kernel_rfl) ?_
               repeat (go_big_quiet_step ((fail)))
               refine wpQuiet_nil ?_
               intro w5 hw'
               obtain ⟨⟨wx, hb5⟩, hw''⟩ := hw'
               subst hw'')
              go_wp2
              go_roundw
              case rel => exact ⟨hV2.trans hb5, k + 1, by omega, by go_num⟩
              case measure => simp [intOf]; omega
          · have hq' : (!neqId x.id y.id) = false := by rw [hnx.out hst.symm]; rfl
            clear hst
            go_wp2
            (refine wp_region_wd (by kernel_rfl) (by kernel_rfl) ?_
             repeat (go_big_quiet_step ((fail)))
             refine wpQuiet_nil ?_
             intro w5 hw'
             obtain ⟨⟨wx, hb5⟩, hw''⟩ := hw'
             subst hw'')
            go_wp2
            go_roundw
            case rel => exact ⟨hV2.trans hb5, k + 1, by omega, by go_num⟩
            case measure => simp [intOf]; omega
    · go_wp2
      go_ret
      exact ⟨rfl, hbwr⟩
end Go.Proofs.Ytegmddgbdjlidaa
