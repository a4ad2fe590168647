/-
  slices.Delete at entries: one entry, taken out of a slice of the call's own.
-/
import Derived.Test.YtegmddgbdjlidaaVict19
namespace Go.Proofs.Ytegmddgbdjlidaa
open Go.RowKit Go.Shelf Go.Lib

theorem run_clear_one (w : World) (ty : TypeId) (b o c : Nat) (hc : ∀ j, j < 8 → (w.cell? ⟨b, o + j, none⟩).isSome = true) (hf : ∀ j, j < 8 → w.frozen? ⟨b, o + j, none⟩ = false) :
    (Builtin.clear_ #[22] ty #[.slice (some ⟨b, o, none⟩) 1 c]).run Try.prog w = .ok (.tuple #[]) (w.setCells b o zeroV.cells.toList) := by
  obtain ⟨i0, hi0, hz0, hzs, hzb⟩ := info_parts infoEntry
  have hzc : (Builtin.zeroCells zeroV.cells 1).toList = zeroV.cells.toList := by kernel_rfl
  have hst := run_storeCells_cells (P := Try.prog) b o zeroV.cells.toList 0 w (by intro j hj; rw [Nat.add_zero]; exact hc j hj) (by intro j hj; rw [Nat.add_zero]; exact hf j hj) (by decide)
  simp only [Nat.add_zero] at hst
  simp [Builtin.clear_, run_underlying Try.underlying22, zeroValue, typeInfo, hi0, hz0, hzc, hst]
theorem wpList_clear_runI (w : World) {ops : Array Oper} {rest : List Oper} {o : Oper} {a : Act} {Q : Exit → Act → World → Prop} (hgd : o.guard = none) (d : Operand) (t : TypeId)
    (ho : o.op = .call { callee := .builtin .clear, args := #[d], argTypes := #[t] }) (v : Value) (hd : a.eval d = v) {v' : Value} {w' : World}
    (hr : (Builtin.clear_ #[t] o.type #[v]).run Try.prog w = .ok v' w') (h : wpList Try.prog ops Q rest (a.put o.dst v') w') : wpList Try.prog ops Q (o :: rest) a w :=
  wpList_plain hgd fun _ hK => by
    unfold Oper.wp
    simp [execOp, ho, resolve, invoke, builtin, hd, hr, Result.andThen]
    exact hK _ _ h

set_option maxHeartbeats 4000000 in
set_option maxRecDepth 100000 in
theorem delete_cells (b m c k : Nat) (cs : List Value) (w : World) (hk : k ≤ m) (hnc : m + 1 ≤ c) (hc63 : c ≤ 9223372036854775807)
    (hcl : cs.length = (m + 1) * 8) (hcs : ∀ (j : Nat) v, cs[j]? = some v → w.cell? ⟨b, j, none⟩ = some v) (hfz : ∀ j, j < (m + 1) * 8 → w.frozen? ⟨b, j, none⟩ = false) (h1c : ∀ v ∈ cs, v.oneCell' = true) :
    Calls Try.prog 74 #[.slice (some ⟨b, 0, none⟩) (m + 1) c, .int .i64 k, .int .i64 ((k : Int) + 1)] w fun e w' =>
      e = .returned (.slice (some ⟨b, 0, none⟩) m c) ∧ w' = (w.drew.setCells b (k * 8) (cs.drop ((k + 1) * 8))).setCells b (m * 8) zeroV.cells.toList := by
  obtain ⟨i0, hi0, hz0, hzs, hzb⟩ := info_parts infoEntry
  have hsp : ∀ j, j < (m + 1) * 8 → (w.cell? ⟨b, j, none⟩).isSome = true := fun j hj => by rw [hcs j _ (List.getElem?_eq_getElem (by omega))]; rfl
  have hdl : (cs.drop ((k + 1) * 8)).length = (m - k) * 8 := by rw [List.length_drop, hcl]; omega
  have hne : ((k : Int) == (k : Int) + 1) = false := beq_eq_false_iff_ne.2 (by omega)
  have hw1 : IntKind.i64.wrap ((k : Int) + 1) = (k : Int) + 1 := by rw [IntKind.wrap_i64]; omega
  have hb1 : (0 : Int) ≤ (k : Int) + 1 := by omega
  have htn : ((k : Int) + 1).toNat = k + 1 := by omega
  have hb3 : (k : Int) + 1 ≤ (m : Int) + 1 := by omega
  have hb4 : (k : Int) ≤ (k : Int) + 1 := by omega
  have hkc : k ≤ c := by omega
  have hm1 : (m : Int) ≤ (m : Int) + 1 := by omega
  have hm0 : (0 : Int) ≤ (m : Int) := by omega
  have hmc : m + 1 ≤ c := hnc
  have hm2 : ¬ (c = m) := by omega
  have hkm : k + (m - k) = m := by omega
  have hclr : ∀ ty cc, (Builtin.clear_ #[22] ty #[.slice (some ⟨b, m * 8, none⟩) 1 cc]).run Try.prog (w.drew.setCells b (k * 8) (cs.drop ((k + 1) * 8))) = .ok (.tuple #[]) ((w.drew.setCells b (k * 8) (cs.drop ((k + 1) * 8))).setCells b (m * 8) zeroV.cells.toList) := fun ty cc =>
    run_clear_one _ ty b (m * 8) cc (fun j hj => isSome_setCells b (cs.drop ((k + 1) * 8)) (k * 8) w.drew (fun i hi => hsp _ (by rw [hdl] at hi; omega)) _ (hsp _ (by omega))) (fun j hj => by rw [World.frozen?_setCells]; exact hfz _ (by omega))
  generalize zeroV.cells.toList = zc at hclr ⊢
  obtain ⟨W1, hW1⟩ : ∃ W1, W1 = w.drew.setCells b (k * 8) (cs.drop ((k + 1) * 8)) := ⟨_, rfl⟩
  rw [← hW1] at hclr ⊢
  generalize W1.setCells b (m * 8) zc = W2 at hclr ⊢
  replace hW1 := hide hW1
  by_cases hce : c = k + 1
  · obtain rfl : m = k := by omega
    have hd0 : cs.drop ((m + 1) * 8) = [] := List.drop_of_length_le (by omega)
    subst hce
    replace hW1 : Hid (W1 = w.drew.setCells b (m * 8) []) := by rw [Hid, hW1.out, hd0]
    go_enter Try.func74, Try.ntmps74
    go_upto_region 5 with fail
    go_region_law (refine step_append_room rfl _ _ 22 rfl 31 i0 8 Try.underlying22 hi0 hzs b 0 m (m + 1) (by simp [Act.eval, Act.put]) ⟨b, 0, none⟩ 0 0 [] (by simp [Act.eval, Act.put]) rfl (by intro j u hu; simp at hu) (by intro u hu; cases hu) (by omega) (by intro j hj; simp at hj) ?_)
    rw [← hW1.out]
    go_wp2_with (at_builtin; refine wpList_clear_runI _ rfl _ _ rfl _ rfl (hclr _ _) ?_)
    go_ret
    exact ⟨rfl, rfl⟩
  · go_enter Try.func74, Try.ntmps74
    go_upto_region 5 with fail
    go_region_law (refine step_append_room rfl _ _ 22 rfl 31 i0 8 Try.underlying22 hi0 hzs b 0 k c (by simp [Act.eval, Act.put]) ⟨b, (k + 1) * 8, none⟩ (m - k) (c - (k + 1)) (cs.drop ((k + 1) * 8)) (by simp [Act.eval, Act.put]) hdl (fun j u hj => by rw [Addr.add_lit]; rw [List.getElem?_drop] at hj; exact hcs _ u hj) (fun u hu => h1c u (List.mem_of_mem_drop hu)) (by omega) (fun j hj => ⟨hsp _ (by omega), hfz _ (by omega)⟩) ?_)
    rw [← hW1.out]
    go_wp2_with (at_builtin; refine wpList_clear_runI _ rfl _ _ rfl _ rfl (hclr _ _) ?_)
    go_ret
    exact ⟨rfl, rfl⟩
/-- One entry taken out of a slice of the call's own. -/
theorem deleteC (base : Nat) (v : Value) (xs : List Entry) (k : Nat) (w : World) (hown : Own cEntry 31 base w v xs) (hk : k < xs.length) :
    Calls Try.prog 74 #[v, .int .i64 k, .int .i64 ((k : Int) + 1)] w (NewFrom cEntry base (xs.take k ++ xs.drop (k + 1)) w) := by
  obtain ⟨cells, ho, hr⟩ := hown
  obtain ⟨hcl, hnl | ⟨g, cap, cur, hv, hbg, hgc, hnc, hcm, hsz, htk⟩⟩ := ho
  · obtain ⟨_, hx0⟩ := hnl
    omega
  subst hv
  obtain ⟨m, hm⟩ : ∃ m, xs.length = m + 1 := ⟨xs.length - 1, by omega⟩
  have hcl8 : cells.length = xs.length * 8 := hcl
  have h8 : cEntry.size = 8 := rfl
  rw [hm] at hcl8
  have hcs : ∀ (j : Nat) u, cells[j]? = some u → w.cell? ⟨g, j, none⟩ = some u := fun j u hu => by
    rw [cell_of_row w g j cur _ (0, 0) hgc]
    rw [← htk, List.getElem?_take] at hu
    split at hu
    · simpa using hu
    · cases hu
  have hfr : ∀ o, w.frozen? ⟨g, o, none⟩ = false := fun o => by simp [World.frozen?, hgc]
  have hg1 : g < w.heap.size := (Array.getElem?_eq_some_iff.1 hgc).1
  have h1c := hr.one
  have hxs : xs = xs.take k ++ xs.drop k := (List.take_append_drop k xs).symm
  have hr2 := hr
  rw [hxs] at hr2
  obtain ⟨ca, cb, hcc, hra, hrb⟩ := hr2.split
  have hcal : ca.length = k * 8 := by
    have := hra.length
    rw [List.length_take, Nat.min_eq_left (by omega)] at this
    exact this
  obtain ⟨x, hx⟩ := get_lt hk
  rw [show xs.drop k = [x] ++ xs.drop (k + 1) from drop_cons hx] at hrb
  obtain ⟨cx, cd, hcb, hrx, hrd⟩ := hrb.split
  have hcxl : cx.length = 8 := by
    have := hrx.length
    simpa [h8] using this
  have hcat : cells.drop ((k + 1) * 8) = cd := by
    rw [hcc, hcb, ← List.append_assoc, List.drop_append_of_le_length (by rw [List.length_append]; omega), List.drop_of_length_le (by rw [List.length_append]; omega)]
    rfl
  have hcdl : cd.length = (m - k) * 8 := by
    have := congrArg List.length hcat
    rw [List.length_drop, hcl8] at this
    omega
  have hrall : RdL cEntry w (fun b => (base ≤ b ∧ b < w.heap.size) ∧ (Value.slice (some ⟨g, 0, none⟩) xs.length cap).ownBlock ≠ some b) (xs.take k ++ xs.drop (k + 1)) (ca ++ cd) := hra.append hrd
  have hylen : (xs.take k ++ xs.drop (k + 1)).length = m := by simp; omega
  have hob : ∀ b, ((base ≤ b ∧ b < w.heap.size) ∧ (Value.slice (some ⟨g, 0, none⟩) xs.length cap).ownBlock ≠ some b) → b ≠ g := fun b hb e => hb.2 (by rw [e]; rfl)
  have hcm' := hcm
  unfold maxLen at hcm'
  have hpos : ∀ j, j < cells.length → (w.cell? ⟨g, j, none⟩).isSome = true := fun j hj => by rw [hcs j _ (List.getElem?_eq_getElem hj)]; rfl
  have hzl : zeroV.cells.toList.length = 8 := rfl
  rw [hm]
  refine (delete_cells g m cap k cells w (by omega) (by omega) (by omega) hcl8 hcs (fun j _ => hfr j) h1c).mono ?_
  rintro e w' ⟨rfl, rfl⟩
  rw [hcat]
  refine ⟨some ⟨g, 0, none⟩, cap, by rw [hylen], by rw [hylen]; omega, hcm, ⟨_, hrall.keep (fun b hb => ?_) (fun b hb => ⟨hb.1.1, ?_⟩), fun _ => ⟨g, 0, rfl, ⟨hbg, ?_⟩, fun j u hu => ⟨?_, ?_⟩⟩⟩, ?_⟩
  · exact (((Keeps.drew _ _).trans (keeps_setCells hob _ _ _)).trans (keeps_setCells hob _ _ _)) b hb
  · rw [size_setCells, size_setCells]; exact hb.1.2
  · rw [size_setCells, size_setCells]; exact hg1
  · rw [Nat.zero_add]
    have hlen := (List.getElem?_eq_some_iff.1 hu).1
    rw [List.length_append] at hlen
    rw [World.cell?_setCells_out g _ (m * 8) _ ⟨g, j, none⟩ (fun _ _ => .inl (by show j < m * 8; omega))]
    by_cases h1 : j < k * 8
    · rw [World.cell?_setCells_out g cd (k * 8) _ ⟨g, j, none⟩ (fun _ _ => .inl h1)]
      rw [List.getElem?_append_left (by omega)] at hu
      exact hcs j u (by rw [hcc, List.getElem?_append_left (by omega)]; exact hu)
    · rw [List.getElem?_append_right (by omega), hcal] at hu
      have hj : j - k * 8 < cd.length := by omega
      have := World.cell?_setCells_in g cd (k * 8) w.drew (fun t ht => hpos _ (by omega)) (j - k * 8) hj
      rw [show k * 8 + (j - k * 8) = j by omega] at this
      rw [this, ← List.getElem?_eq_getElem hj]
      exact hu
  · rw [World.frozen?_setCells, World.frozen?_setCells]; exact hfr _
  · exact below_setCells hbg _ _ (below_setCells hbg _ _ (Below.refl _ _).drew)
end Go.Proofs.Ytegmddgbdjlidaa
