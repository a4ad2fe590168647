/-
  Plain: in which section a place stands, said of the set of live marks; what a mark, a join turns; sections, one behind the other. No program in sight.
-/
import Derived.Test.YtkolimhkfiebeaaMarkPlain
namespace Go.Proofs.Ytkolimhkfiebeaa
open Go.RowKit

/-! ### Of the set of live marks -/

/-- The section of a place: that of the last live mark that is not behind it. -/
def HomeIs (live : List Op) (p : List Run) (s : Id) : Prop := (s = ⟨0, 0⟩ ∧ ∀ x ∈ live, 0 < heldF x.pl p) ∨ ∃ x ∈ live, x.id = s ∧ heldF x.pl p ≤ 0 ∧ ∀ y ∈ live, heldF y.pl p ≤ 0 → y = x ∨ heldF y.pl x.pl < 0

theorem home_is {l : List Op} {p : List Run} (hm : ∀ x ∈ l, Mk x) (hs : SrtP l) (hp : posM p) : HomeIs l p (homeF l p) := by
  have hc := cutP_pos hm hs hp
  have hlt : ∀ {k j : Nat} {x y : Op}, l[k]? = some x → l[j]? = some y → k ≤ j → x = y ∨ heldF x.pl y.pl < 0 := fun {k j x y} hk hj hkj => by
    by_cases e : k = j
    · subst e
      rw [hk] at hj
      injection hj with hj
      exact .inl hj
    · exact .inr (hs.get hk hj (by omega))
  rcases home_at hm hs hp with ⟨x, hx, h0, -, he⟩ | ⟨his, ⟨h0, he⟩ | ⟨x, h1, hx, he⟩⟩
  · refine .inr ⟨x, List.mem_of_getElem? hx, he.symm, by omega, fun y hy hyp => ?_⟩
    obtain ⟨k, hk⟩ := List.getElem?_of_mem hy
    by_cases hkn : k ≤ posP l p
    · exact hlt hk hx hkn
    · have := held_tr2 (hm x (List.mem_of_getElem? hx)) (hm y hy) hp (hs.get hx hk (by omega)) (by omega)
      omega
  · refine .inl ⟨he, fun x hx => ?_⟩
    obtain ⟨k, hk⟩ := List.getElem?_of_mem hx
    have h2 := hc.hi k x (by omega) hk
    have h3 : heldF x.pl p ≠ 0 := fun e => by
      unfold isP at his
      rw [List.any_eq_false] at his
      exact his x hx (decide_eq_true e)
    omega
  · refine .inr ⟨x, List.mem_of_getElem? hx, he.symm, ?_, fun y hy hyp => ?_⟩
    · have := hc.lo _ x (by omega) hx
      omega
    · obtain ⟨k, hk⟩ := List.getElem?_of_mem hy
      by_cases hkn : k ≤ posP l p - 1
      · exact hlt hk hx hkn
      · have h2 := hc.hi k y (by omega) hk
        have h3 : heldF y.pl p ≠ 0 := fun e => by
          unfold isP at his
          rw [List.any_eq_false] at his
          exact his y hy (decide_eq_true e)
        omega

theorem HomeIs.one {l : List Op} {p : List Run} {s t : Id} (hm : ∀ x ∈ l, Mk x) (h : HomeIs l p s) (k : HomeIs l p t) : s = t := by
  rcases h with ⟨rfl, h⟩ | ⟨x, hx, rfl, h1, h2⟩
  · rcases k with ⟨rfl, -⟩ | ⟨y, hy, -, k1, -⟩
    · rfl
    · have := h y hy
      omega
  · rcases k with ⟨-, k⟩ | ⟨y, hy, rfl, k1, k2⟩
    · have := k x hx
      omega
    · rcases h2 y hy k1 with rfl | h3
      · rfl
      · rcases k2 x hx h1 with rfl | k3
        · rfl
        · have := (hm x hx).anti (hm y hy)
          omega

theorem HomeIs.congr {l m : List Op} {p : List Run} {s : Id} (h : HomeIs l p s) (e : ∀ x, x ∈ l ↔ x ∈ m) : HomeIs m p s := by
  rcases h with ⟨rfl, h⟩ | ⟨x, hx, rfl, h1, h2⟩
  · exact .inl ⟨rfl, fun x hx => h x ((e x).2 hx)⟩
  · exact .inr ⟨x, (e x).1 hx, rfl, h1, fun y hy => h2 y ((e y).2 hy)⟩

/-- The home, by its set. -/
theorem home_eq {l : List Op} {p : List Run} {s : Id} (hm : ∀ x ∈ l, Mk x) (hs : SrtP l) (hp : posM p) (h : HomeIs l p s) : homeF l p = s := (home_is hm hs hp).one hm h

theorem lives_home {l : List Op} {p : List Run} {s : Id} (h : bagMay l = true) (hp : posM p) (k : HomeIs (livesF l) p s) : homeF (livesF l) p = s := home_eq (lives_mk h) (lives_ok h).1 hp k

/-! ### Places -/

theorem held_le_tr {a b : Op} {p : List Run} (ha : Mk a) (hb : Mk b) (hp : posM p) (h : heldF a.pl b.pl ≤ 0) (k : heldF b.pl p ≤ 0) : heldF a.pl p ≤ 0 := by
  by_cases e : heldF a.pl b.pl = 0
  · rw [ha.cmp hb] at e
    have e2 := cmpIds_zero e
    rw [held_cmp ha.pos hp, e2, ← held_cmp hb.pos hp]
    exact k
  · have := held_tr ha hb hp (by omega) k
    omega

/-! ### What an operation turns -/

theorem ended_ins {l : List Op} {o : Op} {s : Id} {n : Nat} : endedF (l.take n ++ o :: l.drop n) s = (endedF l s || (decide (o.kind = 4) && decide (placeFin o.pl = s))) := by
  rw [Bool.eq_iff_iff]
  unfold endedF
  rw [Bool.or_eq_true, List.any_eq_true, List.any_eq_true]
  constructor
  · rintro ⟨x, hx, h⟩
    rcases (ins_mem n).1 hx with rfl | hx
    · exact .inr h
    · exact .inl ⟨x, hx, h⟩
  · rintro (⟨x, hx, h⟩ | h)
    · exact ⟨x, (ins_mem n).2 (.inr hx), h⟩
    · exact ⟨o, (ins_mem n).2 (.inl rfl), h⟩

/-- The bag with an operation that is new. -/
theorem addL_new {l : List Op} {o : Op} (h : addN l o = 0) (hno : hasId l o.id = false) : addL l o = l.take (posOf l o.id) ++ o :: l.drop (posOf l o.id) := by
  unfold addL
  rw [if_pos h, if_neg (by rw [hno]; decide)]

theorem addL_old {l : List Op} {o : Op} (h : addN l o = 0) (hno : hasId l o.id = true) : addL l o = l := by
  unfold addL
  rw [if_pos h, if_pos hno]

theorem addN_full {l : List Op} {o : Op} (h : addN l o = 0) (hno : hasId l o.id = false) : l.length < 1024 := by
  obtain ⟨p1, p2⟩ := addN_parts h
  have h1 := (bagMay_parts p1).1
  have h2 : l.length ≠ 1024 := fun e => by
    unfold addN at h
    rw [p1, p2] at h
    simp [hno, e] at h
  omega

theorem addL_may {l : List Op} {o : Op} (h : addN l o = 0) : bagMay (addL l o) = true := by
  have hp := addN_parts h
  cases hno : hasId l o.id
  · rw [addL_new h hno]
    refine bagMay_of ?_ (ins_srt (bagMay_parts hp.1).2.1 hno) fun x hx => ?_
    · have := addN_full h hno
      rw [List.length_append, List.length_cons, List.length_take, List.length_drop]
      omega
    · rcases (ins_mem _).1 hx with rfl | hx
      · exact hp.2
      · exact (bagMay_parts hp.1).2.2 x hx
  · rw [addL_old h hno]
    exact hp.1

theorem marked_mem {l : List Op} {x : Op} : x ∈ markedF l ↔ x ∈ l ∧ x.kind = 2 ∧ endedF l x.id = false := by
  unfold markedF markOf
  rw [List.mem_filter, Bool.and_eq_true, decide_eq_true_eq, Bool.not_eq_true']

theorem lives_mem {l : List Op} (h : bagMay l = true) {x : Op} : x ∈ livesF l ↔ x ∈ l ∧ x.kind = 2 ∧ endedF l x.id = false := ((lives_ok h).2 x).trans marked_mem

theorem srt_one {l : List Op} (h : Srt l) {x y : Op} (hx : x ∈ l) (hy : y ∈ l) (e : x.id = y.id) : x = y := by
  obtain ⟨i, hi⟩ := List.getElem?_of_mem hx
  obtain ⟨j, hj⟩ := List.getElem?_of_mem hy
  obtain ⟨hi', ei⟩ := List.getElem?_eq_some_iff.1 hi
  obtain ⟨hj', ej⟩ := List.getElem?_eq_some_iff.1 hj
  have hpw := List.pairwise_iff_getElem.1 h.ids
  rcases Nat.lt_trichotomy i j with hij | hij | hij
  · have := hpw i j hi' hj' hij
    rw [ei, ej] at this
    exact absurd e this
  · subst hij
    rw [hi] at hj
    injection hj
  · have := hpw j i hj' hi' hij
    rw [ei, ej] at this
    exact absurd e.symm this

/-- Live marks behind an operation that is new. -/
theorem lives_add {l : List Op} {o : Op} (h : addN l o = 0) (hno : hasId l o.id = false) {x : Op} :
    x ∈ livesF (addL l o) ↔ (x ∈ livesF l ∧ ¬ (o.kind = 4 ∧ placeFin o.pl = x.id)) ∨ (x = o ∧ o.kind = 2 ∧ endedF l o.id = false) := by
  have hp := addN_parts h
  rw [lives_mem (addL_may h), lives_mem hp.1, addL_new h hno, ins_mem, ended_ins]
  constructor
  · rintro ⟨rfl | hx, hk, he⟩
    · right
      simp only [Bool.or_eq_false_iff] at he
      exact ⟨rfl, hk, he.1⟩
    · left
      simp only [Bool.or_eq_false_iff] at he
      refine ⟨⟨hx, hk, he.1⟩, fun ⟨h4, hf⟩ => ?_⟩
      rw [decide_eq_true h4, decide_eq_true hf] at he
      cases he.2
  · rintro (⟨⟨hx, hk, he⟩, hn⟩ | ⟨rfl, hk, he⟩)
    · refine ⟨.inr hx, hk, ?_⟩
      simp only [Bool.or_eq_false_iff]
      refine ⟨he, ?_⟩
      by_cases h4 : o.kind = 4
      · by_cases hf : placeFin o.pl = x.id
        · exact absurd ⟨h4, hf⟩ hn
        · rw [decide_eq_false hf, Bool.and_false]
      · rw [decide_eq_false h4, Bool.false_and]
    · refine ⟨.inl rfl, hk, ?_⟩
      simp only [Bool.or_eq_false_iff]
      refine ⟨he, ?_⟩
      rw [decide_eq_false (by omega), Bool.false_and]

/-! ### HomeMark -/

theorem mark_home {l : List Op} {o : Op} {p : List Run} (h : addN l o = 0) (hno : hasId l o.id = false) (hp : posM p) (hk : o.kind = 2) (he : endedF l o.id = false) :
    homeF (livesF (addL l o)) p = if homeF (livesF l) p = homeF (livesF l) o.pl ∧ heldF o.pl p ≤ 0 then o.id else homeF (livesF l) p := by
  have hm := addN_parts h
  have ho : Mk o := mark_mk hm.2 hk
  have hl := lives_mk hm.1
  have hx : ∀ x, x ∈ livesF (addL l o) ↔ x ∈ livesF l ∨ x = o := fun x => by
    rw [lives_add h hno]
    constructor
    · rintro (⟨h1, -⟩ | ⟨h1, -⟩)
      · exact .inl h1
      · exact .inr h1
    · rintro (h1 | h1)
      · exact .inl ⟨h1, fun e => by omega⟩
      · exact .inr ⟨h1, hk, he⟩
  have h1 := home_is hl (lives_ok hm.1).1 hp
  have h2 := home_is hl (lives_ok hm.1).1 ho.pos
  refine lives_home (addL_may h) hp ?_
  by_cases hop : heldF o.pl p ≤ 0
  · by_cases hs : homeF (livesF l) p = homeF (livesF l) o.pl
    · rw [if_pos ⟨hs, hop⟩]
      refine .inr ⟨o, (hx o).2 (.inr rfl), rfl, hop, fun y hy hyp => ?_⟩
      rcases (hx y).1 hy with hy | rfl
      · right
        have hne : heldF y.pl o.pl ≠ 0 := fun e => hasId_false hno y ((lives_mem hm.1).1 hy).1 ((hl y hy).zero ho e)
        by_cases hyo : heldF y.pl o.pl < 0
        · exact hyo
        exfalso
        rw [← hs] at h2
        rcases h1 with ⟨-, h1⟩ | ⟨x, hxl, hxs, hxp, hxm⟩
        · have := h1 y hy
          omega
        · rcases h2 with ⟨h2, h2b⟩ | ⟨z, hz, hzs, hzo, hzm⟩
          · have h3 := (lives_mem hm.1).1 hxl
            have h4 := opMay_less ((bagMay_parts hm.1).2.2 x h3.1)
            rw [hxs, h2] at h4
            simp [idLess] at h4
          · have hxz : x = z := srt_one (bagMay_parts hm.1).2.1 ((lives_mem hm.1).1 hxl).1 ((lives_mem hm.1).1 hz).1 (hxs.trans hzs.symm)
            subst hxz
            rcases hxm y hy hyp with rfl | hyx
            · omega
            · have := (hl y hy).tr (hl x hxl) ho hyx (by
                have hne2 : heldF x.pl o.pl ≠ 0 := fun e => hasId_false hno x ((lives_mem hm.1).1 hxl).1 ((hl x hxl).zero ho e)
                omega)
              omega
      · exact .inl rfl
    · rw [if_neg (fun h => hs h.1)]
      rcases h1 with ⟨h1, h1b⟩ | ⟨x, hxl, hxs, hxp, hxm⟩
      · exfalso
        apply hs
        rw [h1]
        symm
        refine lives_home hm.1 ho.pos (.inl ⟨rfl, fun y hy => ?_⟩)
        have h3 := h1b y hy
        by_cases hyo : heldF y.pl o.pl ≤ 0
        · have := held_le_tr (hl y hy) ho hp hyo hop
          omega
        · omega
      · refine .inr ⟨x, (hx x).2 (.inl hxl), hxs, hxp, fun y hy hyp => ?_⟩
        rcases (hx y).1 hy with hy | rfl
        · exact hxm y hy hyp
        · right
          by_cases hyx : heldF y.pl x.pl < 0
          · exact hyx
          exfalso
          apply hs
          rw [← hxs]
          symm
          have hxy : heldF x.pl y.pl ≤ 0 := by have := ho.anti (hl x hxl); omega
          refine lives_home hm.1 ho.pos (.inr ⟨x, hxl, rfl, hxy, fun z hz hzo => ?_⟩)
          exact hxm z hz (held_le_tr (hl z hz) ho hp hzo hop)
  · rw [if_neg (fun h => hop h.2)]
    rcases h1 with ⟨h1, h1b⟩ | ⟨x, hxl, hxs, hxp, hxm⟩
    · refine .inl ⟨h1, fun y hy => ?_⟩
      rcases (hx y).1 hy with hy | rfl
      · exact h1b y hy
      · omega
    · refine .inr ⟨x, (hx x).2 (.inl hxl), hxs, hxp, fun y hy hyp => ?_⟩
      rcases (hx y).1 hy with hy | rfl
      · exact hxm y hy hyp
      · omega

theorem other_home {l : List Op} {o : Op} {p : List Run} (h : addN l o = 0) (hno : hasId l o.id = false) (hp : posM p) (h4 : o.kind ≠ 4) (h2 : o.kind = 2 → endedF l o.id = true) : homeF (livesF (addL l o)) p = homeF (livesF l) p := by
  have hm := addN_parts h
  refine lives_home (addL_may h) hp ((home_is (lives_mk hm.1) (lives_ok hm.1).1 hp).congr fun x => ?_)
  rw [lives_add h hno]
  constructor
  · intro hx
    exact .inl ⟨hx, fun e => h4 e.1⟩
  · rintro (⟨hx, -⟩ | ⟨-, hk, he⟩)
    · exact hx
    · rw [h2 hk] at he
      cases he

/-- The sections' stamps are all unlike. -/
theorem sect_one {l : List Op} (h : bagMay l = true) {i j : Nat} {s : Id} (hi : (sectF (livesF l))[i]? = some s) (hj : (sectF (livesF l))[j]? = some s) : i = j := by
  have hz : ∀ (k : Nat) (s : Id), (sectF (livesF l))[k + 1]? = some s → ∃ x, (livesF l)[k]? = some x ∧ x.id = s := fun k s hk => by
    unfold sectF at hk
    rw [List.getElem?_cons_succ, List.getElem?_map] at hk
    cases hx : (livesF l)[k]? with
    | none => rw [hx] at hk; cases hk
    | some x => rw [hx] at hk; exact ⟨x, rfl, by simpa using hk⟩
  have hne : ∀ (k : Nat) (x : Op), (livesF l)[k]? = some x → x.id ≠ ⟨0, 0⟩ := fun k x hx e => by
    have h4 := opMay_less ((bagMay_parts h).2.2 x ((lives_mem h).1 (List.mem_of_getElem? hx)).1)
    rw [e] at h4
    simp [idLess] at h4
  have h0 : ∀ s, (sectF (livesF l))[0]? = some s → s = ⟨0, 0⟩ := fun s h => by
    unfold sectF at h
    simpa using h.symm
  match i, j with
  | 0, 0 => rfl
  | 0, j + 1 =>
    obtain ⟨x, hx, e⟩ := hz j s hj
    exact absurd (e.trans (h0 s hi)) (hne j x hx)
  | i + 1, 0 =>
    obtain ⟨x, hx, e⟩ := hz i s hi
    exact absurd (e.trans (h0 s hj)) (hne i x hx)
  | i + 1, j + 1 =>
    obtain ⟨x, hx, ex⟩ := hz i s hi
    obtain ⟨y, hy, ey⟩ := hz j s hj
    have hxy : x = y := srt_one (bagMay_parts h).2.1 ((lives_mem h).1 (List.mem_of_getElem? hx)).1 ((lives_mem h).1 (List.mem_of_getElem? hy)).1 (ex.trans ey.symm)
    subst hxy
    rcases Nat.lt_trichotomy i j with hij | hij | hij
    · exact absurd ((lives_ok h).1.get hx hy hij) (lives_mk h x (List.mem_of_getElem? hx)).irr
    · rw [hij]
    · exact absurd ((lives_ok h).1.get hy hx hij) (lives_mk h x (List.mem_of_getElem? hx)).irr

/-- A join homes what stood in its mark's section in the section ahead; nothing else. -/
theorem join_home {l : List Op} {o : Op} {p : List Run} (h : addN l o = 0) (hno : hasId l o.id = false) (hp : posM p) (hk : o.kind = 4) :
    (homeF (livesF l) p ≠ placeFin o.pl → homeF (livesF (addL l o)) p = homeF (livesF l) p) ∧
    (homeF (livesF l) p = placeFin o.pl → ∃ i : Nat, (sectF (livesF l))[i + 1]? = some (placeFin o.pl) ∧ (sectF (livesF l))[i]? = some (homeF (livesF (addL l o)) p)) := by
  have hm := addN_parts h
  have hl := lives_mk hm.1
  have hso := (lives_ok hm.1).1
  have hx : ∀ x, x ∈ livesF (addL l o) ↔ x ∈ livesF l ∧ placeFin o.pl ≠ x.id := fun x => by
    rw [lives_add h hno]
    constructor
    · rintro (⟨h1, h2⟩ | ⟨-, h1, -⟩)
      · exact ⟨h1, fun e => h2 ⟨hk, e⟩⟩
      · omega
    · rintro ⟨h1, h2⟩
      exact .inl ⟨h1, fun e => h2 e.2⟩
  have h1 := home_is hl hso hp
  constructor
  · intro hs
    refine lives_home (addL_may h) hp ?_
    rcases h1 with ⟨h1, h1b⟩ | ⟨x, hxl, hxs, hxp, hxm⟩
    · exact .inl ⟨h1, fun y hy => h1b y ((hx y).1 hy).1⟩
    · exact .inr ⟨x, (hx x).2 ⟨hxl, fun e => hs (by rw [← hxs, e])⟩, hxs, hxp, fun y hy => hxm y ((hx y).1 hy).1⟩
  · intro hs
    rcases h1 with ⟨h1, h1b⟩ | ⟨x, hxl, hxs, hxp, hxm⟩
    · exfalso
      rw [hs] at h1
      have hmay : placeMay o.pl = true := by
        have h4 := hm.2
        unfold opMay at h4
        simp only [Bool.and_eq_true] at h4
        exact h4.1.2
      obtain ⟨z, hz, hf, z0, z1, z2, z3⟩ := placeFin_of hmay
      have hb := runOne_bd (runsFrom_all o.pl _ _ (placeMay_parts hmay).2.2.1 z (List.mem_of_getElem? hz))
      rw [hf] at h1
      have := congrArg Id.t h1
      dsimp only at this
      omega
    · obtain ⟨i, hi⟩ := List.getElem?_of_mem hxl
      refine ⟨i, ?_, ?_⟩
      · unfold sectF
        rw [List.getElem?_cons_succ, List.getElem?_map, hi, ← hs, ← hxs]
        rfl
      have key : ∀ y ∈ livesF (addL l o), heldF y.pl p ≤ 0 → heldF y.pl x.pl < 0 := fun y hy hyp => by
        obtain ⟨hy1, hy2⟩ := (hx y).1 hy
        rcases hxm y hy1 hyp with rfl | h3
        · exact absurd (by rw [← hs, ← hxs]) hy2
        · exact h3
      match i, hi with
      | 0, hi =>
        have e : homeF (livesF (addL l o)) p = ⟨0, 0⟩ := lives_home (addL_may h) hp (.inl ⟨rfl, fun y hy => by
          by_cases hyp : heldF y.pl p ≤ 0
          · exfalso
            have h3 := key y hy hyp
            obtain ⟨j, hj⟩ := List.getElem?_of_mem ((hx y).1 hy).1
            by_cases hj0 : j = 0
            · subst hj0
              rw [hi] at hj
              injection hj with hj
              subst hj
              exact (hl x hxl).irr h3
            · have h5 := hso.get hi hj (by omega)
              have := (hl x hxl).anti (hl y ((hx y).1 hy).1)
              omega
          · omega⟩)
        rw [e]
        rfl
      | i + 1, hi =>
        obtain ⟨z, hz⟩ := get_lt (show i < (livesF l).length by have := (List.getElem?_eq_some_iff.1 hi).1; omega)
        have hzl := List.mem_of_getElem? hz
        have hzx := hso.get hz hi (Nat.lt_succ_self _)
        have e : homeF (livesF (addL l o)) p = z.id := lives_home (addL_may h) hp (.inr ⟨z, (hx z).2 ⟨hzl, fun e => by
            have hxz : x = z := srt_one (bagMay_parts hm.1).2.1 ((lives_mem hm.1).1 hxl).1 ((lives_mem hm.1).1 hzl).1 (by rw [hxs, hs, e])
            subst hxz
            exact (hl x hxl).irr hzx⟩, rfl, held_le_tr (hl z hzl) (hl x hxl) hp (by omega) hxp, fun y hy hyp => by
            have h3 := key y hy hyp
            obtain ⟨j, hj⟩ := List.getElem?_of_mem ((hx y).1 hy).1
            rcases Nat.lt_trichotomy j i with hji | hji | hji
            · exact .inr (hso.get hj hz hji)
            · subst hji
              rw [hz] at hj
              injection hj with hj
              exact .inl hj.symm
            · by_cases hj1 : j = i + 1
              · subst hj1
                rw [hi] at hj
                injection hj with hj
                subst hj
                exact absurd h3 (hl x hxl).irr
              · have h5 := hso.get hi hj (by omega)
                have := (hl x hxl).anti (hl y ((hx y).1 hy).1)
                omega⟩)
        rw [e]
        unfold sectF
        rw [List.getElem?_cons_succ, List.getElem?_map, hz]
        rfl

/-! ### HomeOne: one home each -/

def beginF (live : List Op) (i : Nat) : List Run := match i with
  | 0 => []
  | i + 1 => match live[i]? with
    | some x => x.pl
    | none => []

/-- Does a place stand in the span of section i? -/
def inF (live : List Op) (p : List Run) (i : Nat) : Bool := decide (plCmp (beginF live i) p ≤ 0) && (decide ((beginF live (i + 1)).length = 0) || decide (plCmp p (beginF live (i + 1)) < 0))

theorem mk_len {x : Op} (h : Mk x) : 1 ≤ x.pl.length := (placeMay_parts h.may).1

theorem mk_any {x : Op} (h : Mk x) : plAny x.pl = true := by unfold plAny; rw [h.may, Bool.or_true]

theorem begin_len {l : List Op} (h : bagMay l = true) (i : Nat) : (beginF (livesF l) i).length = 0 ↔ i = 0 ∨ (livesF l).length < i := by
  unfold beginF
  match i with
  | 0 => simp
  | i + 1 =>
    dsimp only
    cases hx : (livesF l)[i]? with
    | none =>
      rw [List.getElem?_eq_none_iff] at hx
      simp
      omega
    | some x =>
      have h1 := mk_len (lives_mk h x (List.mem_of_getElem? hx))
      have h2 := (List.getElem?_eq_some_iff.1 hx).1
      dsimp only
      omega

theorem cmp_nil {p : List Run} (hp : plAny p = true) : plCmp [] p ≤ 0 := by
  rw [plCmp_ids (by rfl) hp]
  show cmpIds [] (plAll p) ≤ 0
  cases plAll p with
  | nil => exact Int.le_refl _
  | cons x l => unfold cmpIds; decide

theorem mk_cmpL {x : Op} {p : List Run} (hx : Mk x) (hp : plAny p = true) : plCmp x.pl p = heldF x.pl p := by
  unfold plCmp
  rw [mk_any hx, hp]
  rfl

theorem mk_cmpR {x : Op} {p : List Run} (hx : Mk x) (hp : plAny p = true) : plCmp p x.pl = - heldF x.pl p := by
  rw [plCmp_ids hp (mk_any hx), held_cmp hx.pos (any_pos hp)]
  exact cmpIds_anti _ _

/-- A place stands in the span of its home, and of no other section. -/
theorem in_home {l : List Op} {p : List Run} {i : Nat} {s : Id} (h : bagMay l = true) (hp : plAny p = true) (hi : (sectF (livesF l))[i]? = some s) : inF (livesF l) p i = decide (s = homeF (livesF l) p) := by
  have hl := lives_mk h
  have hso := (lives_ok h).1
  have hps := any_pos hp
  have his := home_is hl hso hps
  have hlen : i ≤ (livesF l).length := by
    have := (List.getElem?_eq_some_iff.1 hi).1
    unfold sectF at this
    rw [List.length_cons, List.length_map] at this
    omega
  rw [Bool.eq_iff_iff, decide_eq_true_eq]
  unfold inF
  rw [Bool.and_eq_true, Bool.or_eq_true, decide_eq_true_eq, decide_eq_true_eq, decide_eq_true_eq, begin_len h]
  have hnext : (i + 1 = 0 ∨ (livesF l).length < i + 1) ∨ plCmp p (beginF (livesF l) (i + 1)) < 0 ↔ ∀ (k : Nat) (y : Op), i ≤ k → (livesF l)[k]? = some y → 0 < heldF y.pl p := by
    by_cases hil : i < (livesF l).length
    · obtain ⟨y, hy⟩ := get_lt hil
      have e : beginF (livesF l) (i + 1) = y.pl := by
        unfold beginF
        dsimp only
        rw [hy]
      rw [e, mk_cmpR (hl y (List.mem_of_getElem? hy)) hp]
      constructor
      · rintro ((h0 | h0) | h0) k z hk hz
        · omega
        · omega
        · by_cases hki : k = i
          · subst hki
            rw [hy] at hz
            injection hz with hz
            subst hz
            omega
          · exact held_tr2 (hl y (List.mem_of_getElem? hy)) (hl z (List.mem_of_getElem? hz)) hps (hso.get hy hz (by omega)) (by omega)
      · intro hk
        have := hk i y (Nat.le_refl _) hy
        exact .inr (by omega)
    · constructor
      · intro _ k z hk hz
        have := (List.getElem?_eq_some_iff.1 hz).1
        omega
      · intro _
        exact .inl (.inr (by omega))
  rw [hnext]
  match i, hi, hlen with
  | 0, hi, _ =>
    have hs0 : s = ⟨0, 0⟩ := by
      unfold sectF at hi
      simpa using hi.symm
    subst hs0
    constructor
    · rintro ⟨-, hk⟩
      exact (home_eq hl hso hps (.inl ⟨rfl, fun x hx => by
        obtain ⟨k, hkx⟩ := List.getElem?_of_mem hx
        exact hk k x (Nat.zero_le _) hkx⟩)).symm
    · intro e
      refine ⟨cmp_nil hp, fun k y _ hy => ?_⟩
      rcases his with ⟨-, h1⟩ | ⟨x, hx, hxs, -⟩
      · exact h1 y (List.mem_of_getElem? hy)
      · exfalso
        have h4 := opMay_less ((bagMay_parts h).2.2 x ((lives_mem h).1 hx).1)
        rw [hxs, ← e] at h4
        simp [idLess] at h4
  | i + 1, hi, hlen =>
    obtain ⟨x, hx⟩ := get_lt (show i < (livesF l).length by omega)
    have hxl := List.mem_of_getElem? hx
    have hsx : s = x.id := by
      unfold sectF at hi
      rw [List.getElem?_cons_succ, List.getElem?_map, hx] at hi
      simpa using hi.symm
    subst hsx
    have e : beginF (livesF l) (i + 1) = x.pl := by
      unfold beginF
      dsimp only
      rw [hx]
    rw [e, mk_cmpL (hl x hxl) hp]
    constructor
    · rintro ⟨hxp, hk⟩
      refine (home_eq hl hso hps (.inr ⟨x, hxl, rfl, hxp, fun y hy hyp => ?_⟩)).symm
      obtain ⟨k, hky⟩ := List.getElem?_of_mem hy
      rcases Nat.lt_trichotomy k i with hki | hki | hki
      · exact .inr (hso.get hky hx hki)
      · subst hki
        rw [hx] at hky
        injection hky with hky
        exact .inl hky.symm
      · have := hk k y hki hky
        omega
    · intro e2
      rcases his with ⟨h0, -⟩ | ⟨z, hz, hzs, hzp, hzm⟩
      · exfalso
        have h4 := opMay_less ((bagMay_parts h).2.2 x ((lives_mem h).1 hxl).1)
        rw [e2, h0] at h4
        simp [idLess] at h4
      · have hxz : x = z := srt_one (bagMay_parts h).2.1 ((lives_mem h).1 hxl).1 ((lives_mem h).1 hz).1 (e2.trans hzs.symm)
        subst hxz
        refine ⟨hzp, fun k y hk hy => ?_⟩
        have hxy := hso.get hx hy (by omega)
        by_cases hyp : heldF y.pl p ≤ 0
        · exfalso
          rcases hzm y (List.mem_of_getElem? hy) hyp with rfl | h3
          · exact (hl y hxl).irr hxy
          · have := (hl x hxl).anti (hl y (List.mem_of_getElem? hy))
            omega
        · omega

theorem home_some {l : List Op} {p : List Run} (h : bagMay l = true) (hp : plAny p = true) : ∃ i : Nat, (sectF (livesF l))[i]? = some (homeF (livesF l) p) := by
  rcases home_is (lives_mk h) (lives_ok h).1 (any_pos hp) with ⟨h0, -⟩ | ⟨x, hx, hxs, -⟩
  · exact ⟨0, by rw [h0]; rfl⟩
  · obtain ⟨i, hi⟩ := List.getElem?_of_mem hx
    exact ⟨i + 1, by unfold sectF; rw [List.getElem?_cons_succ, List.getElem?_map, hi, ← hxs]; rfl⟩

/-! ### What home's functions answer -/

def ofN (l : List Op) (p : List Run) : Int := okOr 8 (bagMay l && plAny p)

def ofS (l : List Op) (p : List Run) : Id := if bagMay l && plAny p then homeF (livesF l) p else ⟨0, 0⟩

def allL (l : List Op) : List Id := if bagMay l then sectF (livesF l) else []

def whereN (l : List Op) (s : Id) (least : Int) : Int := if bagMay l then (if idxOf (sectF (livesF l)) s < least then 130 else 0) else 8

def aheadS (l : List Op) (s : Id) : Id := if whereN l s 1 = 0 then ((sectF (livesF l))[(idxOf (sectF (livesF l)) s).toNat - 1]?).getD ⟨0, 0⟩ else ⟨0, 0⟩

def spanA (l : List Op) (s : Id) : List Run := if whereN l s 0 = 0 then beginF (livesF l) (idxOf (sectF (livesF l)) s).toNat else []

def spanB (l : List Op) (s : Id) : List Run := if whereN l s 0 = 0 then beginF (livesF l) ((idxOf (sectF (livesF l)) s).toNat + 1) else []

theorem idx_le : ∀ (l : List Id) (s : Id), idxOf l s < (l.length : Int)
  | [], s => by unfold idxOf; simp
  | x :: l, s => by
    have h := idx_le l s
    unfold idxOf
    rw [List.length_cons]
    split
    · omega
    · split <;> omega

theorem ins_len (out : List Op) (o : Op) : (insP out o).length = out.length + 1 := by
  unfold insP
  have h := congrArg List.length (List.takeWhile_append_dropWhile (p := fun x : Op => decide (heldF x.pl o.pl < 0)) (l := out))
  rw [List.length_append] at h
  rw [List.length_append, List.length_cons]
  omega

theorem foldl_len : ∀ (l out : List Op), (l.foldl insP out).length = out.length + l.length
  | [], out => by simp
  | x :: l, out => by
    rw [List.foldl_cons, foldl_len l, ins_len, List.length_cons]
    omega

theorem lives_len (l : List Op) : (livesF l).length ≤ l.length := by
  unfold livesF
  rw [foldl_len, List.length_nil, Nat.zero_add]
  exact List.length_filter_le _ _

theorem lives_small {l : List Op} (h : bagMay l = true) : (livesF l).length ≤ 1024 := Nat.le_trans (lives_len l) (bagMay_parts h).1

theorem bag_places {l : List Op} (h : bagMay l = true) : ∀ x ∈ l, placeMay x.pl = true := fun x hx => by
  have h4 := (bagMay_parts h).2.2 x hx
  unfold opMay at h4
  simp only [Bool.and_eq_true] at h4
  exact h4.1.2

theorem lives_places {l : List Op} (h : bagMay l = true) : ∀ x ∈ livesF l, placeMay x.pl = true := fun x hx => (lives_mk h x hx).may

theorem sect_length (l : List Op) : (sectF l).length = l.length + 1 := by
  unfold sectF
  rw [List.length_cons, List.length_map]
end Go.Proofs.Ytkolimhkfiebeaa
