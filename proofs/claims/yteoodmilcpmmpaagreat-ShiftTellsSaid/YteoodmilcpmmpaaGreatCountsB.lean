/-
  The walks of cover.of's closure, of a section's method in, of cover.parent and op.Content.
  The walk of cover.parent.
  The walk of a section's method counts.
-/
import Derived.Test.YteoodmilcpmmpaaGreatIdInt
import Derived.Test.YteoodmilcpmmpaaGreatPart
import Derived.Test.YteoodmilcpmmpaaGreatCoverPlain
import Derived.Test.YteoodmilcpmmpaaGreatBagOrder
import Derived.Test.YteoodmilcpmmpaaGreatMarked
namespace Go.Proofs.YteoodmilcpmmpaaGreat

open Go.RowKit

structure SectAt (w : World) (fr tu : List Run) (f : Id → Int) (F : Option Addr) (cf : Nat) (T : Option Addr) (ct Y : Nat) : Prop where
  f1 : fr.length ≤ cf
  f2 : cf ≤ maxLen
  t1 : tu.length ≤ ct
  t2 : ct ≤ maxLen
  hF : R cRun 0 w F fr
  hT : R cRun 0 w T tu
  hY : ∃ mb n, w.cell? ⟨Y, 0, none⟩ = some (.map (some mb)) ∧ IdInt w mb n f

theorem SectAt.bl {w w' : World} {fr tu : List Run} {f : Id → Int} {F : Option Addr} {cf : Nat} {T : Option Addr} {ct Y : Nat} (h : SectAt w fr tu f F cf T ct Y) (hb : Bl w w') : SectAt w' fr tu f F cf T ct Y :=
  ⟨h.f1, h.f2, h.t1, h.t2, h.hF.bl hb, h.hT.bl hb, let ⟨mb, n, h1, h2⟩ := h.hY; ⟨mb, n, (hb.cell (World.block_lt_of_cell? _ _ h1)).trans h1, h2.bl hb⟩⟩

set_option maxRecDepth 100000 in
set_option maxHeartbeats 1000000 in
theorem coverHas (s : Id) (Y mb n : Nat) (f : Id → Int) (w : World) (hs : s.ok) (hY : w.cell? ⟨Y, 0, none⟩ = some (.map (some mb))) (hm : IdInt w mb n f) :
    Calls Tryz.prog 202 #[.agg #[.int .u32 s.t, .int .u8 s.r], .pointer (some ⟨Y, 0, none⟩)] w fun e w' => e = .returned (.bool (decide (0 < f s))) ∧ Bl w w' := by
  have hYl : Y < w.heap.size := World.block_lt_of_cell? _ _ hY
  have hb : Bl w (w.alloc (.cells #[.int .u32 s.t, .int .u8 s.r] 25)) := (Bl.refl _).alloc _
  have hlk := hm.look hs _ hb
  have hne : Y ≠ w.heap.size := by omega
  go_enter Tryz.func202, Tryz.ntmps202
  go_wp2_with fail
  go_ret
  exact ⟨rfl, hb⟩

/-- Does a place stand from one on, and ahead of the other? -/
def inB (fr tu p : List Run) : Bool := decide (plCmp fr p ≤ 0) && (decide (tu.length = 0) || decide (plCmp p tu < 0))

set_option maxRecDepth 100000 in
set_option maxHeartbeats 2000000 in
theorem sectIn (fr tu p : List Run) (F T P : Option Addr) (cf ct cp : Nat) (fv : Value) (w : World) (hf : fr.length ≤ maxLen) (ht : tu.length ≤ maxLen) (hp : p.length ≤ maxLen) (hF : R cRun 0 w F fr) (hT : R cRun 0 w T tu) (hP : R cRun 0 w P p) :
    Calls Tryz.prog 167 #[.agg #[.slice F fr.length cf, .slice T tu.length ct, fv], .slice P p.length cp] w fun e w' => e = .returned (.bool (inB fr tu p)) ∧ Bl w w' := by
  have hc1 := fun V (hv : Bl w V) => placeCompareD F P cf cp fr p V hf hp (hF.bl hv) (hP.bl hv)
  have hc2 := fun V (hv : Bl w V) => placeCompareD P T cp ct p tu V hp ht (hP.bl hv) (hT.bl hv)
  obtain ⟨W, hW⟩ : ∃ W, W = w.alloc (.cells #[.slice F fr.length cf, .slice T tu.length ct, fv] 148) := ⟨_, rfl⟩
  have hbW : Bl w W := by rw [hW]; exact (Bl.refl _).alloc _
  have at0 : At W w.heap.size 0 [.slice F fr.length cf, .slice T tu.length ct, fv] := by rw [hW]; exact At.new w _ _
  obtain ⟨B, hB⟩ : ∃ B, B = inB fr tu p := ⟨_, rfl⟩
  rw [← hB]
  unfold inB at hB
  have hl0 := at0.lt (by simp)
  have x0 := (at0 0 _ rfl).1
  have x1 := (at0 1 _ rfl).1
  simp only [Nat.zero_add] at x0 x1
  generalize plCmp fr p = N1 at *
  generalize plCmp p tu = N2 at *
  generalize hnt : tu.length = nt at *
  replace hnt := hide hnt
  replace hc1 := hide hc1
  replace hc2 := hide hc2
  by_cases h1 : N1 ≤ 0
  · rw [decide_eq_true h1, Bool.true_and] at hB
    by_cases h2 : nt = 0
    · rw [decide_eq_true h2, Bool.true_or] at hB
      subst hB
      have hz : ((nt : Int) == 0) = true := by simp [h2]
      replace h2 := hide h2
      go_enter Tryz.func167, Tryz.ntmps167
      go_wp2_with fail
      rw [← hW]
      clear hW
      refine (hc1.out _ hbW).mono ?_
      rintro e w1 ⟨rfl, hb1⟩
      have y0 := (hb1.bl.cell hl0).trans x0
      have y1 := (hb1.bl.cell hl0).trans x1
      clear x0 x1
      go_wp2_with fail
      go_ret
      exact ⟨rfl, hbW.trans hb1.bl⟩
    · rw [decide_eq_false h2, Bool.false_or] at hB
      have hz : ((nt : Int) == 0) = false := by simp [h2]
      replace h2 := hide h2
      replace hB := hide hB
      go_enter Tryz.func167, Tryz.ntmps167
      go_wp2_with fail
      rw [← hW]
      clear hW
      refine (hc1.out _ hbW).mono ?_
      rintro e w1 ⟨rfl, hb1⟩
      have y0 := (hb1.bl.cell hl0).trans x0
      have y1 := (hb1.bl.cell hl0).trans x1
      clear x0 x1
      go_wp2_with fail
      refine (hc2.out _ (hbW.trans hb1.bl)).mono ?_
      rintro e w2 ⟨rfl, hb2⟩
      go_wp2_with fail
      go_ret
      exact ⟨ret_bool hB.out.symm, hbW.trans (hb1.bl.trans hb2.bl)⟩
  · rw [decide_eq_false h1, Bool.false_and] at hB
    subst hB
    have h1d : decide (N1 ≤ 0) = false := decide_eq_false h1
    go_enter Tryz.func167, Tryz.ntmps167
    go_wp2_with fail
    rw [← hW]
    clear hW
    refine (hc1.out _ hbW).mono ?_
    rintro e w1 ⟨rfl, hb1⟩
    go_wp2_with fail
    go_ret
    exact ⟨rfl, hbW.trans hb1.bl⟩

set_option maxRecDepth 100000 in
set_option maxHeartbeats 1000000 in
theorem opContent (x : Op) (A : Option Addr) (c : Nat) (w : World) :
    Calls Tryz.prog 166 #[.agg #[.int .u8 x.kind, .int .u32 x.id.t, .int .u8 x.id.r, .slice A x.pl.length c, .int .i64 x.pt]] w fun e w' => e = .returned (.bool (contentO x)) ∧ Bl w w' := by
  have hb : Bl w (w.alloc (.cells #[Value.int IntKind.u8 x.kind, Value.int IntKind.u32 x.id.t, Value.int IntKind.u8 x.id.r, Value.slice A x.pl.length c, Value.int IntKind.i64 x.pt] 47)) := (Bl.refl _).alloc _
  obtain ⟨B, hB⟩ : ∃ B, B = contentO x := ⟨_, rfl⟩
  rw [← hB]
  unfold contentO at hB
  by_cases h1 : x.kind = 1
  · rw [decide_eq_true h1, Bool.true_or] at hB
    subst hB
    go_enter Tryz.func166, Tryz.ntmps166
    go_wp2
    go_ret
    exact ⟨rfl, by simpa [h1] using hb⟩
  · rw [decide_eq_false h1, Bool.false_or] at hB
    have e1 : (x.kind == 1) = false := by simp [h1]
    obtain ⟨v, hv⟩ : ∃ v, (x.kind == 3) = v := ⟨_, rfl⟩
    have e2 : B = v := by rw [hB, ← hv]; by_cases h3 : x.kind = 3 <;> simp [h3]
    subst e2
    replace hB := hide hB
    replace h1 := hide h1
    go_enter Tryz.func166, Tryz.ntmps166
    go_wp2
    go_ret
    exact ⟨rfl, hb⟩

end Go.Proofs.YteoodmilcpmmpaaGreat

namespace Go.Proofs.YteoodmilcpmmpaaGreat

open Go.RowKit

def parF : List Run → List Run
  | [] => []
  | [x] => if x.m = 1 then [] else [⟨x.t, x.r, x.m - 1⟩]
  | x :: y :: l => x :: parF (y :: l)

theorem par_cut : ∀ {p : List Run}, posM p → p ≠ [] → parF p = cutN p (runsDeep p - 1)
  | [], _, h => absurd rfl h
  | [x], h, _ => by
    have h1 := h x (List.mem_cons_self ..)
    have e : runsDeep [x] = x.m := by show x.m + 0 = x.m; omega
    rw [e]
    unfold parF cutN
    by_cases hm : x.m = 1
    · rw [if_pos hm, if_pos (by omega)]
    · rw [if_neg hm, if_neg (by omega), if_pos (by omega)]
  | x :: y :: l, h, _ => by
    have h1 := h x (List.mem_cons_self ..)
    have hl : posM (y :: l) := fun z hz => h z (List.mem_cons_of_mem _ hz)
    have h2 := hl y (List.mem_cons_self ..)
    have h3 := posM_deep (p := l) fun z hz => hl z (List.mem_cons_of_mem _ hz)
    have h4 : runsDeep (y :: l) = y.m + runsDeep l := rfl
    rw [deep_cons]
    conv => rhs; unfold cutN
    rw [if_neg (by omega), if_neg (by omega), show x.m + runsDeep (y :: l) - 1 - x.m = runsDeep (y :: l) - 1 by omega, ← par_cut hl (by simp)]
    rfl

theorem par_last : ∀ {p : List Run} {x : Run}, p[p.length - 1]? = some x → parF p = if x.m = 1 then p.take (p.length - 1) else p.set (p.length - 1) ⟨x.t, x.r, x.m - 1⟩
  | [], x, h => by simp at h
  | [y], x, h => by
    have e : y = x := by simpa using h
    subst e
    unfold parF
    split <;> simp
  | z :: y :: l, x, h => by
    have e : (z :: y :: l).length - 1 = (y :: l).length - 1 + 1 := by simp
    rw [e, List.getElem?_cons_succ] at h
    rw [e, parF, par_last h, List.take_succ_cons, List.set_cons_succ]
    split <;> rfl

theorem R.setM {lo : Nat} {w : World} {b off k : Nat} {l : List Run} {x : Run} {m : Int} (h : R cRun lo w (some ⟨b, off, none⟩) l) (hk : l[k]? = some x) (hm : i64ok m) :
    R cRun lo (w.setCell ⟨b, off + k * 3 + 2, none⟩ (.int .i64 m)) (some ⟨b, off, none⟩) (l.set k ⟨x.t, x.r, m⟩) := by
  obtain ⟨cells, hr, hs⟩ := h
  have hkl := (List.getElem?_eq_some_iff.1 hk).1
  have hl : l = l.take k ++ ([x] ++ l.drop (k + 1)) := by
    conv => lhs; rw [← List.take_append_drop k l, drop_cons hk]
    rfl
  have hset : l.set k ⟨x.t, x.r, m⟩ = l.take k ++ ([⟨x.t, x.r, m⟩] ++ l.drop (k + 1)) := by
    rw [List.set_eq_take_append_cons_drop, if_pos hkl]
    rfl
  rw [hl] at hr
  obtain ⟨ca, cb, rfl, ra, rb⟩ := RdL.split hr
  obtain ⟨cx, cd, rfl, rx, rd⟩ := RdL.split rb
  obtain ⟨a, b', rfl, ⟨ho, rfl⟩, hb0⟩ := rx
  obtain rfl : b' = [] := hb0
  have hca : ca.length = k * 3 := by
    have h1 := ra.length
    rw [List.length_take, Nat.min_eq_left (by omega)] at h1
    exact h1
  rw [hset]
  obtain ⟨b2, off2, e, hb, ha⟩ := hs (by simp)
  cases e
  have hnew : Run.ok ⟨x.t, x.r, m⟩ := by
    unfold Run.ok at ho ⊢
    exact ⟨ho.1, ho.2.1, ho.2.2.1, ho.2.2.2.1, hm⟩
  refine ⟨ca ++ ([.int .u32 x.t, .int .u8 x.r, .int .i64 m] ++ cd), RdL.append (rdl_run _ _ ra) (RdL.append (RdL.one1 ⟨hnew, rfl⟩) (rdl_run _ _ rd)), fun _ => ⟨b, off, rfl, ⟨hb.1, by simpa [World.setCell] using hb.2⟩, fun j u hu => ?_⟩⟩
  rw [World.frozen?_setCell]
  have hold : ∀ (j : Nat) (v : Value), (ca ++ ([.int .u32 x.t, .int .u8 x.r, .int .i64 x.m] ++ [] ++ cd))[j]? = some v → w.cell? ⟨b, off + j, none⟩ = some v ∧ w.frozen? ⟨b, off + j, none⟩ = false := fun j v hv => ha j v hv
  by_cases hj : j = k * 3 + 2
  · subst hj
    have h1 : (ca ++ ([Value.int .u32 x.t, .int .u8 x.r, .int .i64 m] ++ cd))[k * 3 + 2]? = some (.int .i64 m) := by
      rw [List.getElem?_append_right (by omega), hca, Nat.add_sub_cancel_left]
      rfl
    rw [h1] at hu
    injection hu with hu
    subst hu
    have h2 := hold (k * 3 + 2) (.int .i64 x.m) (by
      rw [List.getElem?_append_right (by omega), hca, Nat.add_sub_cancel_left]
      rfl)
    rw [← Nat.add_assoc] at h2 ⊢
    exact ⟨box_set_same h2.1, h2.2⟩
  · have h1 : (ca ++ ([.int .u32 x.t, .int .u8 x.r, .int .i64 x.m] ++ [] ++ cd))[j]? = some u := by
      by_cases hja : j < ca.length
      · rw [List.getElem?_append_left hja] at hu ⊢
        exact hu
      · rw [List.getElem?_append_right (by omega)] at hu ⊢
        obtain ⟨i, hi⟩ : ∃ i, i = j - ca.length := ⟨_, rfl⟩
        rw [← hi] at hu ⊢
        match i, hi with
        | 0, _ => exact hu
        | 1, _ => exact hu
        | 2, hi => omega
        | i + 3, _ => exact hu
    have h2 := hold j u h1
    exact ⟨box_set_other (by intro e; injection e with _ e; omega) h2.1, h2.2⟩

theorem R.runFz {lo : Nat} {w : World} {b off k : Nat} {l : List Run} {x : Run} (h : R cRun lo w (some ⟨b, off, none⟩) l) (hk : l[k]? = some x) : w.frozen? ⟨b, off + k * 3 + 2, none⟩ = false := by
  obtain ⟨h1, m, ⟨ho, rfl⟩, ha⟩ := R.get h hk
  exact (ha 2 _ rfl).2

theorem R.headR {lo n : Nat} {w : World} {blk off : Nat} {l : List Run} (h : R cRun lo w (some ⟨blk, off, none⟩) l) : R cRun lo w (some ⟨blk, off, none⟩) (l.take n) := by
  obtain ⟨cells, hr, hs⟩ := h
  rw [← List.take_append_drop n l] at hr
  obtain ⟨ca, cb, rfl, ra, rb⟩ := RdL.split hr
  refine ⟨ca, ra, fun hn => ?_⟩
  obtain ⟨b, o, e, h1, ha⟩ := hs (by simp [hn])
  exact ⟨b, o, e, h1, ha.left⟩

set_option maxRecDepth 100000 in
set_option maxHeartbeats 1000000 in
theorem coverParent (A : Option Addr) (c : Nat) (p : List Run) (w : World) (hp : placeMay p = true) (hA : R cRun 0 w A p) :
    Calls Tryz.prog 168 #[.slice A p.length c] w (New cRun (cutN p (runsDeep p - 1)) w) := by
  have hne : p ≠ [] := fun e => by rw [e] at hp; cases hp
  rw [← par_cut (may_pos hp) hne]
  have hpl := placeMay_parts hp
  obtain ⟨x, hx, hf, h0, h1, h2, h3⟩ := placeFin_of hp
  rw [par_last hx]
  have htw := hide (placeTwin A c p w (by omega) hA)
  obtain ⟨j, hj⟩ : ∃ j, j = p.length - 1 := ⟨_, rfl⟩
  rw [← hj] at hx ⊢
  have hjl : j < p.length := by omega
  have hkj : (p.length : Int) - 1 = (j : Int) := by omega
  have hji : (j : Int) < (p.length : Int) := by omega
  have hp64 : p.length ≤ 64 := hpl.2.1
  replace hj := hide hj
  clear hpl hf hp hne
  by_cases hm1 : x.m = 1
  · rw [if_pos hm1]
    go_enter Tryz.func168, Tryz.ntmps168
    go_wp2_with fail
    refine htw.out.mono ?_
    rintro e w1 ⟨B, d, rfl, d1, d2, hB, hb1⟩
    obtain ⟨b, off, rfl, hbw, hbl⟩ := hB.addr (by omega)
    obtain ⟨_, ho, c0, c1, c2⟩ := hB.run hx
    have rf0 := hB.runFz hx
    have hB2 := hB.setM hx (m := x.m - 1) (by unfold i64ok; omega)
    have hb2 : Bl w (w1.setCell ⟨b, off + j * 3 + 2, none⟩ (.int .i64 (x.m - 1))) := hb1.setCell hbw _
    have hjd : j ≤ d := by omega
    have hlen2 : (p.set j ⟨x.t, x.r, x.m - 1⟩).length = p.length := List.length_set ..
    have hlen3 : (p.take j).length = j := by rw [List.length_take]; omega
    have hB3 := hB2.headR (n := j)
    rw [show (p.set j ⟨x.t, x.r, x.m - 1⟩).take j = p.take j from List.take_set_of_le (Nat.le_refl _)] at hB3
    have hfin := hide (show New cRun (p.take j) w (.returned (.slice (some ⟨b, off, none⟩) j d)) (w1.setCell ⟨b, off + j * 3 + 2, none⟩ (.int .i64 (x.m - 1))) from ⟨_, d, by rw [hlen3], by omega, d2, hB3, hb2⟩)
    have hz : x.m - 1 = 0 := by omega
    rw [hz] at hfin
    replace hm1 := hide hm1
    clear hB2 hB3 hb2 hx
    go_wp2_with fail
    go_ret
    exact hfin.out
  · rw [if_neg hm1]
    go_enter Tryz.func168, Tryz.ntmps168
    go_wp2_with fail
    refine htw.out.mono ?_
    rintro e w1 ⟨B, d, rfl, d1, d2, hB, hb1⟩
    obtain ⟨b, off, rfl, hbw, hbl⟩ := hB.addr (by omega)
    obtain ⟨_, ho, c0, c1, c2⟩ := hB.run hx
    have rf0 := hB.runFz hx
    have hB2 := hB.setM hx (m := x.m - 1) (by unfold i64ok; omega)
    have hb2 : Bl w (w1.setCell ⟨b, off + j * 3 + 2, none⟩ (.int .i64 (x.m - 1))) := hb1.setCell hbw _
    have hjd : j ≤ d := by omega
    have hlen2 : (p.set j ⟨x.t, x.r, x.m - 1⟩).length = p.length := List.length_set ..
    have hlen3 : (p.take j).length = j := by rw [List.length_take]; omega
    have hB3 := hB2.headR (n := j)
    rw [show (p.set j ⟨x.t, x.r, x.m - 1⟩).take j = p.take j from List.take_set_of_le (Nat.le_refl _)] at hB3
    have hfin := hide (show New cRun (p.set j ⟨x.t, x.r, x.m - 1⟩) w (.returned (.slice (some ⟨b, off, none⟩) p.length d)) (w1.setCell ⟨b, off + j * 3 + 2, none⟩ (.int .i64 (x.m - 1))) from ⟨_, d, by rw [hlen2], by omega, d2, hB2, hb2⟩)
    have hz : ((x.m - 1) == 0) = false := by rw [beq_eq_false_iff_ne]; omega
    replace hm1 := hide hm1
    clear hB2 hB3 hb2 hx
    go_wp2_with fail
    go_ret
    exact hfin.out

end Go.Proofs.YteoodmilcpmmpaaGreat

namespace Go.Proofs.YteoodmilcpmmpaaGreat

open Go.RowKit

theorem R.uniq {lo lo' : Nat} {w : World} {A : Option Addr} {p q : List Run} (h : R cRun lo w A p) (k : R cRun lo' w A q) (hl : p.length = q.length) : p = q := by
  apply List.ext_getElem? 
  intro i
  by_cases hi : i < p.length
  · obtain ⟨b, off, rfl, _, _⟩ := h.addr (by omega)
    obtain ⟨x, hx⟩ := get_lt hi
    obtain ⟨y, hy⟩ := get_lt (show i < q.length by omega)
    obtain ⟨_, _, c0, c1, c2⟩ := h.run hx
    obtain ⟨_, _, d0, d1, d2⟩ := k.run hy
    rw [c0] at d0
    rw [c1] at d1
    rw [c2] at d2
    injection d0 with d0
    injection d0 with _ d0
    injection d1 with d1
    injection d1 with _ d1
    injection d2 with d2
    injection d2 with _ d2
    rw [hx, hy, Run.ext' d0 d1 d2]
  · rw [List.getElem?_eq_none (by omega), List.getElem?_eq_none (by omega)]

/-- How many stamps a place in memory has: a measure. -/
theorem deep_meas : ∃ μ : Value → World → Nat, ∀ (w : World) (P : Option Addr) (q : List Run) (c : Nat), R cRun 0 w P q → μ (.slice P q.length c) w = (runsDeep q).toNat := by
  have h : ∀ (v : Value) (w : World), ∃ n : Nat, ∀ (P : Option Addr) (q : List Run) (c : Nat), v = .slice P q.length c → R cRun 0 w P q → n = (runsDeep q).toNat := by
    intro v w
    by_cases h : ∃ (P : Option Addr) (q : List Run) (c : Nat), v = .slice P q.length c ∧ R cRun 0 w P q
    · obtain ⟨P, q, c, rfl, hq⟩ := h
      refine ⟨(runsDeep q).toNat, fun P' q' c' e h' => ?_⟩
      injection e with e1 e2 e3
      subst e1
      rw [hq.uniq h' e2]
    · exact ⟨0, fun P q c e hq => absurd ⟨P, q, c, e, hq⟩ h⟩
  exact ⟨fun v w => Classical.choose (h v w), fun w P q c hq => Classical.choose_spec (h (.slice P q.length c) w) P q c rfl hq⟩

theorem back_zero (l : List Op) (s : Id) (p : List Run) : backF l s p 0 = true := rfl

theorem back_step (l : List Op) (s : Id) (p : List Run) (k : Nat) : backF l s p (k + 1) = if homeF (livesF l) (cutN p ((k + 1 : Nat) : Int)) = s then (if hasId l (placeFin (cutN p ((k + 1 : Nat) : Int))) then backF l s p k else false) else true := rfl

/-- What a section knows of a bag: where places are homed, which stamps are held. -/
structure Knows (l : List Op) (s : Id) (fr tu : List Run) (f : Id → Int) : Prop where
  hin : ∀ q, plAny q = true → inB fr tu q = decide (homeF (livesF l) q = s)
  has : ∀ id, decide (0 < f id) = hasId l id

theorem may_any {p : List Run} (h : placeMay p = true) : plAny p = true := by unfold plAny; rw [h, Bool.or_true]

set_option maxRecDepth 100000 in
set_option maxHeartbeats 4000000 in
theorem sectCounts (l : List Op) (s : Id) (x : Op) (A F T : Option Addr) (c cf ct Y : Nat) (fr tu : List Run) (f : Id → Int) (w : World) (hk : Knows l s fr tu f) (hx : OpIn w x A c) (hm : placeMay x.pl = true) (hc : contentO x = true) (hs : SectAt w fr tu f F cf T ct Y) :
    Calls Tryz.prog 116 #[.agg #[.slice F fr.length cf, .slice T tu.length ct, .func (.func 202) #[] #[.pointer (some ⟨Y, 0, none⟩)]], .agg #[.int .u8 x.kind, .int .u32 x.id.t, .int .u8 x.id.r, .slice A x.pl.length c, .int .i64 x.pt]] w fun e w' => e = .returned (.bool (backF l s x.pl (manyO x).toNat)) ∧ Bl w w' := by
  obtain ⟨μ, hμ⟩ := deep_meas
  obtain ⟨W, hW⟩ : ∃ W, W = (w.alloc (.cells #[.slice F fr.length cf, .slice T tu.length ct, .func (.func 202) #[] #[.pointer (some ⟨Y, 0, none⟩)]] 148)).alloc (.cells #[Value.int IntKind.u8 x.kind, Value.int IntKind.u32 x.id.t, Value.int IntKind.u8 x.id.r, Value.slice A x.pl.length c, Value.int IntKind.i64 x.pt] 47) := ⟨_, rfl⟩
  have hbW : Bl w W := by rw [hW]; exact ((Bl.refl _).alloc _).alloc _
  have at0 : At W w.heap.size 0 [.slice F fr.length cf, .slice T tu.length ct, .func (.func 202) #[] #[.pointer (some ⟨Y, 0, none⟩)]] := by
    rw [hW]
    exact (At.new w _ _).bl ((Bl.refl _).alloc _) (by simp)
  have at1 : OpBox W (w.heap.size + 1) x A c := by
    have h := OpBox.new (w.alloc (.cells #[.slice F fr.length cf, .slice T tu.length ct, .func (.func 202) #[] #[.pointer (some ⟨Y, 0, none⟩)]] 148)) x A c 47
    rw [World.size_alloc w] at h
    rw [hW]
    exact h
  obtain ⟨x0, x1, x2, x3, x4⟩ := at1.cells
  have hl0 := at0.lt (by simp)
  have hsW := hs.bl hbW
  have hxW := hx.hR.bl hbW
  have hdeep : 1 ≤ runsDeep x.pl := by
    have h1 := runsDeep_bd x.pl _ _ (placeMay_parts hm).2.2.1
    have h2 := (placeMay_parts hm).1
    omega
  have hd4 : runsDeep x.pl ≤ 4096 := (placeMay_parts hm).2.2.2
  obtain ⟨D, hD⟩ : ∃ D : Nat, (D : Int) = runsDeep x.pl := ⟨(runsDeep x.pl).toNat, by omega⟩
  obtain ⟨R0, hR0⟩ : ∃ R0, R0 = backF l s x.pl (manyO x).toNat := ⟨_, rfl⟩
  rw [← hR0]
  have hpar := hide (coverParent A c x.pl W hm hxW)
  have hcut := hide fun (k : Nat) (h0 : 1 ≤ k) (h1 : k ≤ D) => (show placeMay (cutN x.pl (k : Int)) = true ∧ runsDeep (cutN x.pl (k : Int)) = (k : Int) from ⟨may_cut hm (by omega) (by omega), deep_cut (may_pos hm) (by omega) (by omega)⟩)
  have hcc := hide fun (k : Nat) => (show cutN (cutN x.pl ((k + 1 : Nat) : Int)) (k : Int) = cutN x.pl (k : Int) from cutN_cut (may_pos hm) (by omega))
  have hall := hide (show cutN x.pl (D : Int) = x.pl from cutN_all (may_pos hm) (by omega))
  have hzero := hide (show cutN x.pl 0 = [] from cutN_zero _ (by omega))
  have hbs := hide fun (k : Nat) => back_step l s x.pl k
  have hbz := hide (back_zero l s x.pl)
  replace hk := hide hk
  replace hm := hide hm
  obtain ⟨mb, mn, hY, hmap⟩ := hsW.hY
  have hF := hsW.hF
  have hT := hsW.hT
  have hf1 := Nat.le_trans hs.f1 hs.f2
  have ht1 := Nat.le_trans hs.t1 hs.t2
  -- the loop, from k stamps on
  have hkind : (x.kind = 1 ∧ manyO x = (D : Int) - 1) ∨ (x.kind = 3 ∧ manyO x = (D : Int)) := by
    unfold contentO at hc
    rw [Bool.or_eq_true, decide_eq_true_eq, decide_eq_true_eq] at hc
    unfold manyO
    rcases hc with h | h
    · left
      rw [if_pos (.inl h)]
      exact ⟨h, by omega⟩
    · right
      rw [if_neg (by omega)]
      exact ⟨h, by omega⟩
  rcases hkind with ⟨h1, h2⟩ | ⟨h1, h2⟩
  · have hK : (manyO x).toNat = D - 1 := by omega
    rw [hK] at hR0
    rw [show runsDeep x.pl - 1 = ((D - 1 : Nat) : Int) by omega] at hpar
    have hK0 : D - 1 ≤ D := Nat.sub_le _ _
    generalize D - 1 = K at *
    have e1 : (x.kind == 1) = true := by simp [h1]
    replace h1 := hide h1
    replace hR0 := hide hR0
    clear h2 hK hc
    go_enter Tryz.func116, Tryz.ntmps116
    go_wp2_with fail
    go_step3
    go_wp2_with fail
    rw [← hW]
    clear hW
    refine hpar.out.mono ?_
    rintro e w1 ⟨P, pc, rfl, p1, p2, hP, hb1⟩
    replace hP := hP.zero
    clear hxW hsW x0 x1 x2 x3 x4 at1
    go_wp2_with fail
    go_step3
    go_wp2_with fail
    go_loopw [5] (fun v wr => Bl W wr ∧ ∃ (k : Nat) (P : Option Addr) (pc : Nat), k ≤ D ∧ v = .slice P (cutN x.pl (k : Int)).length pc ∧ (cutN x.pl (k : Int)).length ≤ pc ∧ pc ≤ maxLen ∧ R cRun 0 wr P (cutN x.pl (k : Int)) ∧ Hid (R0 = backF l s x.pl k)) (fun v wr => μ v wr)
    case atStart => exact ⟨hb1, K, _, _, hK0, rfl, p1, p2, hP, hR0.out⟩
    case round =>
      clear hP p1 p2 hb1 hR0 hK0
      obtain ⟨hbl, k, P, pc, hkD, rfl, p1, p2, hP, hR⟩ := hrel
      match k, hkD with
      | 0, hkD =>
        have hz : cutN x.pl ((0 : Nat) : Int) = [] := hzero.out
        rw [hz]
        have g := hide (show true = R0 by rw [hR.out]; exact hbz.out.symm)
        clear hcut hcc hbs hR hP hz
        go_wp2_with fail
        (try rw [Exit.noGoto_ret])
        go_ret
        exact ⟨ret_bool g.out, hbW.trans hbl⟩
      | k + 1, hkD =>
        obtain ⟨hqm, hqd⟩ := hcut.out (k + 1) (by omega) hkD
        have hstep := hbs.out k
        rw [← hR.out] at hstep
        have hcck := hcc.out k
        have hmeas := hμ wr P (cutN x.pl ((k + 1 : Nat) : Int)) pc hP
        rw [hqd] at hmeas
        have hmeas2 : ∀ (W2 : World) (P2 : Option Addr) (pc2 : Nat), R cRun 0 W2 P2 (cutN x.pl (k : Int)) → μ (.slice P2 (cutN x.pl (k : Int)).length pc2) W2 < μ (.slice P (cutN x.pl ((k + 1 : Nat) : Int)).length pc) wr := fun W2 P2 pc2 h2 => by
          rw [hμ W2 P2 _ pc2 h2, hmeas]
          have : (runsDeep (cutN x.pl (k : Int))).toNat = k := by
            by_cases h0 : k = 0
            · subst h0
              rw [show cutN x.pl ((0 : Nat) : Int) = [] from hzero.out]
              rfl
            · rw [(hcut.out k (by omega) (by omega)).2]
              omega
          omega
        replace hmeas2 := hide hmeas2
        obtain ⟨q, hq⟩ : ∃ q, q = cutN x.pl ((k + 1 : Nat) : Int) := ⟨_, rfl⟩
        rw [← hq] at hP p1 hqm hqd hstep hcck hmeas2 ⊢
        have hql : 1 ≤ q.length := (placeMay_parts hqm).1
        have hqs : q.length ≤ maxLen := Nat.le_trans p1 p2
        have hlaV := fun V (hv : Bl wr V) => placeLast P pc q V hqs (hP.bl hv)
        have hprV := fun V (hv : Bl wr V) => coverParent P pc q V hqm (hP.bl hv)
        rw [hqd, show ((k + 1 : Nat) : Int) - 1 = (k : Int) by omega, hcck] at hprV
        have hinq := hk.out.hin q (may_any hqm)
        have hci := sectIn fr tu q F T P cf ct pc (.func (.func 202) #[] #[.pointer (some ⟨Y, 0, none⟩)]) wr hf1 ht1 hqs (hF.bl hbl) (hT.bl hbl) hP
        rw [hinq] at hci
        obtain ⟨z0, z1, z2⟩ : wr.cell? ⟨w.heap.size, 0, none⟩ = some (.slice F fr.length cf) ∧ wr.cell? ⟨w.heap.size, 1, none⟩ = some (.slice T tu.length ct) ∧ wr.cell? ⟨w.heap.size, 2, none⟩ = some (.func (.func 202) #[] #[.pointer (some ⟨Y, 0, none⟩)]) := by
          have h := at0.bl hbl (by simp)
          exact ⟨by simpa using (h 0 _ rfl).1, by simpa using (h 1 _ rfl).1, by simpa using (h 2 _ rfl).1⟩
        generalize q.length = nq at *
        have hqi : ((nq : Int) == 0) = false := by rw [beq_eq_false_iff_ne]; omega
        replace hlaV := hide hlaV
        replace hprV := hide hprV
        by_cases hh : homeF (livesF l) q = s
        · rw [decide_eq_true hh] at hci
          rw [if_pos hh] at hstep
          replace hci := hide hci
          replace hh := hide hh
          go_wp2_with fail
          refine hci.out.mono ?_
          rintro e w2 ⟨rfl, hb2⟩
          have hb02 := hbl.trans hb2
          have hla := hide fun p : Wd w2 => hlaV.out p.v (hb2.trans p.h)
          have hfo := fin_ok hP
          have hhas := fun p : Wd w2 => coverHas (placeFin q) Y mb mn f p.v hfo ((hb02.trans p.h).cell (World.block_lt_of_cell? _ _ hY) |>.trans hY) (hmap.bl (hb02.trans p.h))
          rw [hk.out.has (placeFin q)] at hhas
          have hl2 := Nat.lt_of_lt_of_le hl0 hb02.size
          have Z2 := fun p : Wd w2 => Wd.cell ((hb2.cell (Nat.lt_of_lt_of_le hl0 hbl.size)).trans z2) hl2 p
          clear z0 z1 z2 hci
          generalize placeFin q = fq at *
          cases hv : hasId l fq
          · rw [hv] at hhas hstep
            have g := hide (show false = R0 from hstep.symm)
            replace hhas := hide hhas
            clear hstep hv hcut hcc hbs hR
            go_wp2_with fail
            (refine wp_region_wd (by kernel_rfl) (by kernel_rfl) ?_
             repeat (go_big_quiet_step ((first | (go_at_call 61; exact Calls.wd (hla.out _)) | (go_at_call 202; exact Calls.wd (hhas.out _)))))
             refine wpQuiet_nil ?_
             intro w3 hw'
             obtain ⟨⟨wx, hb3⟩, hw''⟩ := hw'
             subst hw'')
            go_wp2_with fail
            (try rw [Exit.noGoto_ret])
            go_ret
            exact ⟨ret_bool g.out, hbW.trans (hb02.trans hb3)⟩
          · rw [hv] at hhas hstep
            have g := hide (show R0 = backF l s x.pl k from hstep)
            replace hhas := hide hhas
            have hpr := hprV
            clear hstep hv hbs hR
            go_wp2_with fail
            (refine wp_region_wd (by kernel_rfl) (by kernel_rfl) ?_
             repeat (go_big_quiet_step ((first | (go_at_call 61; exact Calls.wd (hla.out _)) | (go_at_call 202; exact Calls.wd (hhas.out _)))))
             refine wpQuiet_nil ?_
             intro w3 hw'
             obtain ⟨⟨wx, hb3⟩, hw''⟩ := hw'
             subst hw'')
            go_wp2_with fail
            refine (hpr.out _ (hb2.trans hb3)).mono ?_
            rintro e w4 ⟨P4, c4, rfl, q1, q2, hP4, hb4⟩
            have hfin := hide (hb02.trans (hb3.trans hb4))
            have hm4 := hide (hmeas2.out w4 P4 c4 hP4.zero)
            go_wp2_with fail
            go_roundw
            case rel => exact ⟨hfin.out, k, P4, c4, by omega, rfl, q1, q2, hP4.zero, g⟩
            case measure => exact hm4.out
        · rw [decide_eq_false hh] at hci
          rw [if_neg hh] at hstep
          have g := hide (show true = R0 from hstep.symm)
          replace hci := hide hci
          replace hh := hide hh
          clear hstep hcut hcc hbs hR
          go_wp2_with fail
          refine hci.out.mono ?_
          rintro e w2 ⟨rfl, hb2⟩
          go_wp2_with fail
          (try rw [Exit.noGoto_ret])
          go_ret
          exact ⟨ret_bool g.out, hbW.trans (hbl.trans hb2)⟩
  · have hK : (manyO x).toNat = D := by omega
    rw [hK] at hR0
    have e1 : (x.kind == 1) = false := by simp [h1]
    have e1' : ¬ x.kind = 1 := by omega
    replace h1 := hide h1
    obtain ⟨K, hKD⟩ : ∃ K, K = D := ⟨_, rfl⟩
    rw [← hKD] at hR0
    have hK0 : K ≤ D := by omega
    have hP : R cRun 0 W A (cutN x.pl (K : Int)) := by rw [hKD, hall.out]; exact hxW
    have hle : (cutN x.pl (K : Int)).length = x.pl.length := by rw [hKD, hall.out]
    have p1 : (cutN x.pl (K : Int)).length ≤ c := by rw [hle]; exact hx.h1
    have p2 := hx.h2
    have hb1 := Bl.refl W
    replace hR0 := hide hR0
    replace hKD := hide hKD
    replace hle := hide hle
    clear h2 hK hc hpar
    go_enter Tryz.func116, Tryz.ntmps116
    go_wp2_with fail
    go_step3
    go_wp2_with fail
    rw [← hW]
    clear hW
    rw [← hle.out]
    clear hxW hsW x0 x1 x2 x3 x4 at1
    go_wp2_with fail
    go_step3
    go_wp2_with fail
    go_loopw [5] (fun v wr => Bl W wr ∧ ∃ (k : Nat) (P : Option Addr) (pc : Nat), k ≤ D ∧ v = .slice P (cutN x.pl (k : Int)).length pc ∧ (cutN x.pl (k : Int)).length ≤ pc ∧ pc ≤ maxLen ∧ R cRun 0 wr P (cutN x.pl (k : Int)) ∧ Hid (R0 = backF l s x.pl k)) (fun v wr => μ v wr)
    case atStart => exact ⟨hb1, K, _, _, hK0, rfl, p1, p2, hP, hR0.out⟩
    case round =>
      clear hP p1 p2 hb1 hR0 hK0
      obtain ⟨hbl, k, P, pc, hkD, rfl, p1, p2, hP, hR⟩ := hrel
      match k, hkD with
      | 0, hkD =>
        have hz : cutN x.pl ((0 : Nat) : Int) = [] := hzero.out
        rw [hz]
        have g := hide (show true = R0 by rw [hR.out]; exact hbz.out.symm)
        clear hcut hcc hbs hR hP hz
        go_wp2_with fail
        (try rw [Exit.noGoto_ret])
        go_ret
        exact ⟨ret_bool g.out, hbW.trans hbl⟩
      | k + 1, hkD =>
        obtain ⟨hqm, hqd⟩ := hcut.out (k + 1) (by omega) hkD
        have hstep := hbs.out k
        rw [← hR.out] at hstep
        have hcck := hcc.out k
        have hmeas := hμ wr P (cutN x.pl ((k + 1 : Nat) : Int)) pc hP
        rw [hqd] at hmeas
        have hmeas2 : ∀ (W2 : World) (P2 : Option Addr) (pc2 : Nat), R cRun 0 W2 P2 (cutN x.pl (k : Int)) → μ (.slice P2 (cutN x.pl (k : Int)).length pc2) W2 < μ (.slice P (cutN x.pl ((k + 1 : Nat) : Int)).length pc) wr := fun W2 P2 pc2 h2 => by
          rw [hμ W2 P2 _ pc2 h2, hmeas]
          have : (runsDeep (cutN x.pl (k : Int))).toNat = k := by
            by_cases h0 : k = 0
            · subst h0
              rw [show cutN x.pl ((0 : Nat) : Int) = [] from hzero.out]
              rfl
            · rw [(hcut.out k (by omega) (by omega)).2]
              omega
          omega
        replace hmeas2 := hide hmeas2
        obtain ⟨q, hq⟩ : ∃ q, q = cutN x.pl ((k + 1 : Nat) : Int) := ⟨_, rfl⟩
        rw [← hq] at hP p1 hqm hqd hstep hcck hmeas2 ⊢
        have hql : 1 ≤ q.length := (placeMay_parts hqm).1
        have hqs : q.length ≤ maxLen := Nat.le_trans p1 p2
        have hlaV := fun V (hv : Bl wr V) => placeLast P pc q V hqs (hP.bl hv)
        have hprV := fun V (hv : Bl wr V) => coverParent P pc q V hqm (hP.bl hv)
        rw [hqd, show ((k + 1 : Nat) : Int) - 1 = (k : Int) by omega, hcck] at hprV
        have hinq := hk.out.hin q (may_any hqm)
        have hci := sectIn fr tu q F T P cf ct pc (.func (.func 202) #[] #[.pointer (some ⟨Y, 0, none⟩)]) wr hf1 ht1 hqs (hF.bl hbl) (hT.bl hbl) hP
        rw [hinq] at hci
        obtain ⟨z0, z1, z2⟩ : wr.cell? ⟨w.heap.size, 0, none⟩ = some (.slice F fr.length cf) ∧ wr.cell? ⟨w.heap.size, 1, none⟩ = some (.slice T tu.length ct) ∧ wr.cell? ⟨w.heap.size, 2, none⟩ = some (.func (.func 202) #[] #[.pointer (some ⟨Y, 0, none⟩)]) := by
          have h := at0.bl hbl (by simp)
          exact ⟨by simpa using (h 0 _ rfl).1, by simpa using (h 1 _ rfl).1, by simpa using (h 2 _ rfl).1⟩
        generalize q.length = nq at *
        have hqi : ((nq : Int) == 0) = false := by rw [beq_eq_false_iff_ne]; omega
        replace hlaV := hide hlaV
        replace hprV := hide hprV
        by_cases hh : homeF (livesF l) q = s
        · rw [decide_eq_true hh] at hci
          rw [if_pos hh] at hstep
          replace hci := hide hci
          replace hh := hide hh
          go_wp2_with fail
          refine hci.out.mono ?_
          rintro e w2 ⟨rfl, hb2⟩
          have hb02 := hbl.trans hb2
          have hla := hide fun p : Wd w2 => hlaV.out p.v (hb2.trans p.h)
          have hfo := fin_ok hP
          have hhas := fun p : Wd w2 => coverHas (placeFin q) Y mb mn f p.v hfo ((hb02.trans p.h).cell (World.block_lt_of_cell? _ _ hY) |>.trans hY) (hmap.bl (hb02.trans p.h))
          rw [hk.out.has (placeFin q)] at hhas
          have hl2 := Nat.lt_of_lt_of_le hl0 hb02.size
          have Z2 := fun p : Wd w2 => Wd.cell ((hb2.cell (Nat.lt_of_lt_of_le hl0 hbl.size)).trans z2) hl2 p
          clear z0 z1 z2 hci
          generalize placeFin q = fq at *
          cases hv : hasId l fq
          · rw [hv] at hhas hstep
            have g := hide (show false = R0 from hstep.symm)
            replace hhas := hide hhas
            clear hstep hv hcut hcc hbs hR
            go_wp2_with fail
            (refine wp_region_wd (by kernel_rfl) (by kernel_rfl) ?_
             repeat (go_big_quiet_step ((first | (go_at_call 61; exact Calls.wd (hla.out _)) | (go_at_call 202; exact Calls.wd (hhas.out _)))))
             refine wpQuiet_nil ?_
             intro w3 hw'
             obtain ⟨⟨wx, hb3⟩, hw''⟩ := hw'
             subst hw'')
            go_wp2_with fail
            (try rw [Exit.noGoto_ret])
            go_ret
            exact ⟨ret_bool g.out, hbW.trans (hb02.trans hb3)⟩
          · rw [hv] at hhas hstep
            have g := hide (show R0 = backF l s x.pl k from hstep)
            replace hhas := hide hhas
            have hpr := hprV
            clear hstep hv hbs hR
            go_wp2_with fail
            (refine wp_region_wd (by kernel_rfl) (by kernel_rfl) ?_
             repeat (go_big_quiet_step ((first | (go_at_call 61; exact Calls.wd (hla.out _)) | (go_at_call 202; exact Calls.wd (hhas.out _)))))
             refine wpQuiet_nil ?_
             intro w3 hw'
             obtain ⟨⟨wx, hb3⟩, hw''⟩ := hw'
             subst hw'')
            go_wp2_with fail
            refine (hpr.out _ (hb2.trans hb3)).mono ?_
            rintro e w4 ⟨P4, c4, rfl, q1, q2, hP4, hb4⟩
            have hfin := hide (hb02.trans (hb3.trans hb4))
            have hm4 := hide (hmeas2.out w4 P4 c4 hP4.zero)
            go_wp2_with fail
            go_roundw
            case rel => exact ⟨hfin.out, k, P4, c4, by omega, rfl, q1, q2, hP4.zero, g⟩
            case measure => exact hm4.out
        · rw [decide_eq_false hh] at hci
          rw [if_neg hh] at hstep
          have g := hide (show true = R0 from hstep.symm)
          replace hci := hide hci
          replace hh := hide hh
          clear hstep hcut hcc hbs hR
          go_wp2_with fail
          refine hci.out.mono ?_
          rintro e w2 ⟨rfl, hb2⟩
          go_wp2_with fail
          (try rw [Exit.noGoto_ret])
          go_ret
          exact ⟨ret_bool g.out, hbW.trans (hbl.trans hb2)⟩

end Go.Proofs.YteoodmilcpmmpaaGreat
