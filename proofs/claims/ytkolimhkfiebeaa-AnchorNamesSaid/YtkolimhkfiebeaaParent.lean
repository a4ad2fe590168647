/-
  The walk of cover.parent.
-/
import Derived.Test.YtkolimhkfiebeaaSect
import Derived.Test.YtkolimhkfiebeaaBagOrder
namespace Go.Proofs.Ytkolimhkfiebeaa
open Go.RowKit

/-! ### A place without its last stamp -/
def parF : List Run → List Run
  | [] => []
  | [x] => if x.m = 1 then [] else [⟨x.t, x.r, x.m - 1⟩]
  | x :: y :: l => x :: parF (y :: l)

theorem par_cut : ∀ {p : List Run}, posM p → p ≠ [] → parF p = cutN p (runsDeep p - 1)
  | [], _, h => absurd rfl h
  | [x], h, _ => by
    have h1 := h x (List.mem_cons_self ..)
    have e : runsDeep [x] = x.m := by show x.m + 0 = x.m; omega
    rw [e]
    unfold parF cutN
    by_cases hm : x.m = 1
    · rw [if_pos hm, if_pos (by omega)]
    · rw [if_neg hm, if_neg (by omega), if_pos (by omega)]
  | x :: y :: l, h, _ => by
    have h1 := h x (List.mem_cons_self ..)
    have hl : posM (y :: l) := fun z hz => h z (List.mem_cons_of_mem _ hz)
    have h2 := hl y (List.mem_cons_self ..)
    have h3 := posM_deep (p := l) fun z hz => hl z (List.mem_cons_of_mem _ hz)
    have h4 : runsDeep (y :: l) = y.m + runsDeep l := rfl
    rw [deep_cons]
    conv => rhs; unfold cutN
    rw [if_neg (by omega), if_neg (by omega), show x.m + runsDeep (y :: l) - 1 - x.m = runsDeep (y :: l) - 1 by omega, ← par_cut hl (by simp)]
    rfl

theorem par_last : ∀ {p : List Run} {x : Run}, p[p.length - 1]? = some x → parF p = if x.m = 1 then p.take (p.length - 1) else p.set (p.length - 1) ⟨x.t, x.r, x.m - 1⟩
  | [], x, h => by simp at h
  | [y], x, h => by
    have e : y = x := by simpa using h
    subst e
    unfold parF
    split <;> simp
  | z :: y :: l, x, h => by
    have e : (z :: y :: l).length - 1 = (y :: l).length - 1 + 1 := by simp
    rw [e, List.getElem?_cons_succ] at h
    rw [e, parF, par_last h, List.take_succ_cons, List.set_cons_succ]
    split <;> rfl

theorem R.setM {lo : Nat} {w : World} {b off k : Nat} {l : List Run} {x : Run} {m : Int} (h : R cRun lo w (some ⟨b, off, none⟩) l) (hk : l[k]? = some x) (hm : i64ok m) :
    R cRun lo (w.setCell ⟨b, off + k * 3 + 2, none⟩ (.int .i64 m)) (some ⟨b, off, none⟩) (l.set k ⟨x.t, x.r, m⟩) := by
  obtain ⟨cells, hr, hs⟩ := h
  have hkl := (List.getElem?_eq_some_iff.1 hk).1
  have hl : l = l.take k ++ ([x] ++ l.drop (k + 1)) := by
    conv => lhs; rw [← List.take_append_drop k l, drop_cons hk]
    rfl
  have hset : l.set k ⟨x.t, x.r, m⟩ = l.take k ++ ([⟨x.t, x.r, m⟩] ++ l.drop (k + 1)) := by
    rw [List.set_eq_take_append_cons_drop, if_pos hkl]
    rfl
  rw [hl] at hr
  obtain ⟨ca, cb, rfl, ra, rb⟩ := RdL.split hr
  obtain ⟨cx, cd, rfl, rx, rd⟩ := RdL.split rb
  obtain ⟨a, b', rfl, ⟨ho, rfl⟩, hb0⟩ := rx
  obtain rfl : b' = [] := hb0
  have hca : ca.length = k * 3 := by
    have h1 := ra.length
    rw [List.length_take, Nat.min_eq_left (by omega)] at h1
    exact h1
  rw [hset]
  obtain ⟨b2, off2, e, hb, ha⟩ := hs (by simp)
  cases e
  have hnew : Run.ok ⟨x.t, x.r, m⟩ := by
    unfold Run.ok at ho ⊢
    exact ⟨ho.1, ho.2.1, ho.2.2.1, ho.2.2.2.1, hm⟩
  refine ⟨ca ++ ([.int .u32 x.t, .int .u8 x.r, .int .i64 m] ++ cd), RdL.append (rdl_run _ _ ra) (RdL.append (RdL.one1 ⟨hnew, rfl⟩) (rdl_run _ _ rd)), fun _ => ⟨b, off, rfl, ⟨hb.1, by simpa [World.setCell] using hb.2⟩, fun j u hu => ?_⟩⟩
  rw [World.frozen?_setCell]
  have hold : ∀ (j : Nat) (v : Value), (ca ++ ([.int .u32 x.t, .int .u8 x.r, .int .i64 x.m] ++ [] ++ cd))[j]? = some v → w.cell? ⟨b, off + j, none⟩ = some v ∧ w.frozen? ⟨b, off + j, none⟩ = false := fun j v hv => ha j v hv
  by_cases hj : j = k * 3 + 2
  · subst hj
    have h1 : (ca ++ ([Value.int .u32 x.t, .int .u8 x.r, .int .i64 m] ++ cd))[k * 3 + 2]? = some (.int .i64 m) := by
      rw [List.getElem?_append_right (by omega), hca, Nat.add_sub_cancel_left]
      rfl
    rw [h1] at hu
    injection hu with hu
    subst hu
    have h2 := hold (k * 3 + 2) (.int .i64 x.m) (by
      rw [List.getElem?_append_right (by omega), hca, Nat.add_sub_cancel_left]
      rfl)
    rw [← Nat.add_assoc] at h2 ⊢
    exact ⟨box_set_same h2.1, h2.2⟩
  · have h1 : (ca ++ ([.int .u32 x.t, .int .u8 x.r, .int .i64 x.m] ++ [] ++ cd))[j]? = some u := by
      by_cases hja : j < ca.length
      · rw [List.getElem?_append_left hja] at hu ⊢
        exact hu
      · rw [List.getElem?_append_right (by omega)] at hu ⊢
        obtain ⟨i, hi⟩ : ∃ i, i = j - ca.length := ⟨_, rfl⟩
        rw [← hi] at hu ⊢
        match i, hi with
        | 0, _ => exact hu
        | 1, _ => exact hu
        | 2, hi => omega
        | i + 3, _ => exact hu
    have h2 := hold j u h1
    exact ⟨box_set_other (by intro e; injection e with _ e; omega) h2.1, h2.2⟩

theorem R.runFz {lo : Nat} {w : World} {b off k : Nat} {l : List Run} {x : Run} (h : R cRun lo w (some ⟨b, off, none⟩) l) (hk : l[k]? = some x) : w.frozen? ⟨b, off + k * 3 + 2, none⟩ = false := by
  obtain ⟨h1, m, ⟨ho, rfl⟩, ha⟩ := R.get h hk
  exact (ha 2 _ rfl).2

theorem R.headR {lo n : Nat} {w : World} {blk off : Nat} {l : List Run} (h : R cRun lo w (some ⟨blk, off, none⟩) l) : R cRun lo w (some ⟨blk, off, none⟩) (l.take n) := by
  obtain ⟨cells, hr, hs⟩ := h
  rw [← List.take_append_drop n l] at hr
  obtain ⟨ca, cb, rfl, ra, rb⟩ := RdL.split hr
  refine ⟨ca, ra, fun hn => ?_⟩
  obtain ⟨b, o, e, h1, ha⟩ := hs (by simp [hn])
  exact ⟨b, o, e, h1, ha.left⟩

set_option maxRecDepth 100000 in
set_option maxHeartbeats 1000000 in
theorem coverParent (A : Option Addr) (c : Nat) (p : List Run) (w : World) (hp : placeMay p = true) (hA : R cRun 0 w A p) :
    Calls Try.prog 224 #[.slice A p.length c] w (New cRun (cutN p (runsDeep p - 1)) w) := by
  have hne : p ≠ [] := fun e => by rw [e] at hp; cases hp
  rw [← par_cut (may_pos hp) hne]
  have hpl := placeMay_parts hp
  obtain ⟨x, hx, hf, h0, h1, h2, h3⟩ := placeFin_of hp
  rw [par_last hx]
  have htw := hide (placeTwin A c p w (by omega) hA)
  obtain ⟨j, hj⟩ : ∃ j, j = p.length - 1 := ⟨_, rfl⟩
  rw [← hj] at hx ⊢
  have hjl : j < p.length := by omega
  have hkj : (p.length : Int) - 1 = (j : Int) := by omega
  have hji : (j : Int) < (p.length : Int) := by omega
  have hp64 : p.length ≤ 64 := hpl.2.1
  replace hj := hide hj
  clear hpl hf hp hne
  by_cases hm1 : x.m = 1
  · rw [if_pos hm1]
    go_enter Try.func224, Try.ntmps224
    go_wp2_with fail
    refine htw.out.mono ?_
    rintro e w1 ⟨B, d, rfl, d1, d2, hB, hb1⟩
    obtain ⟨b, off, rfl, hbw, hbl⟩ := hB.addr (by omega)
    obtain ⟨_, ho, c0, c1, c2⟩ := hB.run hx
    have rf0 := hB.runFz hx
    have hB2 := hB.setM hx (m := x.m - 1) (by unfold i64ok; omega)
    have hb2 : Bl w (w1.setCell ⟨b, off + j * 3 + 2, none⟩ (.int .i64 (x.m - 1))) := hb1.setCell hbw _
    have hjd : j ≤ d := by omega
    have hlen2 : (p.set j ⟨x.t, x.r, x.m - 1⟩).length = p.length := List.length_set ..
    have hlen3 : (p.take j).length = j := by rw [List.length_take]; omega
    have hB3 := hB2.headR (n := j)
    rw [show (p.set j ⟨x.t, x.r, x.m - 1⟩).take j = p.take j from List.take_set_of_le (Nat.le_refl _)] at hB3
    have hfin := hide (show New cRun (p.take j) w (.returned (.slice (some ⟨b, off, none⟩) j d)) (w1.setCell ⟨b, off + j * 3 + 2, none⟩ (.int .i64 (x.m - 1))) from ⟨_, d, by rw [hlen3], by omega, d2, hB3, hb2⟩)
    have hz : x.m - 1 = 0 := by omega
    rw [hz] at hfin
    replace hm1 := hide hm1
    clear hB2 hB3 hb2 hx
    go_wp2_with fail
    go_ret
    exact hfin.out
  · rw [if_neg hm1]
    go_enter Try.func224, Try.ntmps224
    go_wp2_with fail
    refine htw.out.mono ?_
    rintro e w1 ⟨B, d, rfl, d1, d2, hB, hb1⟩
    obtain ⟨b, off, rfl, hbw, hbl⟩ := hB.addr (by omega)
    obtain ⟨_, ho, c0, c1, c2⟩ := hB.run hx
    have rf0 := hB.runFz hx
    have hB2 := hB.setM hx (m := x.m - 1) (by unfold i64ok; omega)
    have hb2 : Bl w (w1.setCell ⟨b, off + j * 3 + 2, none⟩ (.int .i64 (x.m - 1))) := hb1.setCell hbw _
    have hjd : j ≤ d := by omega
    have hlen2 : (p.set j ⟨x.t, x.r, x.m - 1⟩).length = p.length := List.length_set ..
    have hlen3 : (p.take j).length = j := by rw [List.length_take]; omega
    have hB3 := hB2.headR (n := j)
    rw [show (p.set j ⟨x.t, x.r, x.m - 1⟩).take j = p.take j from List.take_set_of_le (Nat.le_refl _)] at hB3
    have hfin := hide (show New cRun (p.set j ⟨x.t, x.r, x.m - 1⟩) w (.returned (.slice (some ⟨b, off, none⟩) p.length d)) (w1.setCell ⟨b, off + j * 3 + 2, none⟩ (.int .i64 (x.m - 1))) from ⟨_, d, by rw [hlen2], by omega, d2, hB2, hb2⟩)
    have hz : ((x.m - 1) == 0) = false := by rw [beq_eq_false_iff_ne]; omega
    replace hm1 := hide hm1
    clear hB2 hB3 hb2 hx
    go_wp2_with fail
    go_ret
    exact hfin.out
end Go.Proofs.Ytkolimhkfiebeaa
