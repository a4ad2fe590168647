/-
  slices.Insert at operations: one, put into a slice of the call's own.
-/
import Derived.Test.YtedcopjpgijpjaaBag3
namespace Go.Proofs.Ytedcopjpgijpjaa
open Go.RowKit Go.Shelf Go.Lib

set_option maxHeartbeats 4000000 in
set_option maxRecDepth 100000 in
/-- There is room, i < len(s): in place. -/
theorem opInsertShift (b n c i vb vc : Nat) (cs vs : List Value) (w : World) (hi : i < n) (hroom : n + 1 ≤ c) (hc63 : c ≤ 9223372036854775807) (hvb : vb ≠ b)
    (hcl : cs.length = n * 5) (hvl : vs.length = 5)
    (hcs : ∀ (j : Nat) v, cs[j]? = some v → w.cell? ⟨b, j, none⟩ = some v) (hsp : ∀ j, j < (n + 1) * 5 → (w.cell? ⟨b, j, none⟩).isSome = true) (hfz : ∀ j, j < (n + 1) * 5 → w.frozen? ⟨b, j, none⟩ = false)
    (hvs : ∀ (j : Nat) v, vs[j]? = some v → w.cell? ⟨vb, j, none⟩ = some v) (h1c : ∀ v ∈ cs, v.oneCell' = true) (h1v : ∀ v ∈ vs, v.oneCell' = true)
    (tA tB : TypeId) (kA kB : Nat) (hsa : w.shape? vb = some (tA, kA)) (hsb : w.shape? b = some (tB, kB)) (hkB : kB ≠ 0) (hfa : w.frozen? ⟨vb, 0, none⟩ = false) (hfe : w.frozen? ⟨vb, kA, none⟩ = false) :
    Calls Try.prog 50 #[.slice (some ⟨b, 0, none⟩) n c, .int .i64 i, .slice (some ⟨vb, 0, none⟩) 1 vc] w fun e w' =>
      e = .returned (.slice (some ⟨b, 0, none⟩) (n + 1) c) ∧ w' = (w.drew.setCells b ((i + 1) * 5) (cs.drop (i * 5))).setCells b (i * 5) vs := by
  have hz2 : ((i : Int) == (n : Int)) = false := beq_eq_false_iff_ne.2 (by omega)
  have hsz : (Try.prog.info? 33).map (·.size) = some 5 := by
    obtain ⟨i0, hi0, h0, h1, h2⟩ := info_parts Try.infoOp
    rw [hi0]; simp [h1]
  have hov : ∀ lb cb, (callFunc 77 #[.slice (some ⟨vb, 0, none⟩) 1 vc, .slice (some ⟨b, (i + 1) * 5, none⟩) lb cb]).run Try.prog w = .ok (.value (.bool false)) w := fun lb cb => by
    rw [run_callFunc_extern Try.func77 (by kernel_rfl) (by kernel_rfl) (by kernel_rfl) (e := Extern.SlicesOverlaps.overlaps #[22, 22] #[4]) (by kernel_rfl),
      Lib.run_overlaps_apart w 22 4 33 Try.underlying22 5 Try.sizeOf33 ⟨vb, 0, none⟩ ⟨b, (i + 1) * 5, none⟩ 1 vc lb cb hvb tA tB kA kB hsa hsb hkB hfa hfe]
    rfl
  have hdl : (cs.drop (i * 5)).length = (n - i) * 5 := by rw [List.length_drop, hcl]; omega
  have hw1 : IntKind.i64.wrap ((i : Int) + 1) = (i : Int) + 1 := by rw [IntKind.wrap_i64]; omega
  have hb1 : (0 : Int) ≤ (i : Int) + 1 := by omega
  have hin : i ≤ n := by omega
  have htn : ((i : Int) + 1).toNat = i + 1 := by omega
  have hb2 : ¬ (c = i + 1) := by omega
  have hb3 : (i : Int) ≤ (n : Int) + 1 := by omega
  have hb4 : ¬ (c = i) := by omega
  have hcp1 : ∀ ty dc sc, (Builtin.copy_ #[22, 22] ty #[.slice (some ⟨b, (i + 1) * 5, none⟩) (n - i) dc, .slice (some ⟨b, i * 5, none⟩) (n + 1 - i) sc]).run Try.prog w.drew = .ok (goInt ((n - i : Nat) : Int)) (w.drew.setCells b ((i + 1) * 5) (cs.drop (i * 5))) := fun ty dc sc =>
    run_copy_cellsK w.drew _ _ ty 33 5 b ((i + 1) * 5) (n - i) dc ⟨b, i * 5, none⟩ (n + 1 - i) sc (cs.drop (i * 5)) Try.underlying22 hsz (n - i) (by simp only [Nat.min_def]; split <;> omega) hdl
      (fun j v hj => by rw [Addr.add_lit]; exact hcs (i * 5 + j) v (by rwa [List.getElem?_drop] at hj))
      (fun j hj => hsp _ (by omega)) (fun j hj => hfz _ (by omega)) (fun v hv => h1c v (List.mem_of_mem_drop hv))
  obtain ⟨W1, hW1⟩ : ∃ W1, W1 = w.drew.setCells b ((i + 1) * 5) (cs.drop (i * 5)) := ⟨_, rfl⟩
  have hsp1 : ∀ k, k < (n + 1) * 5 → (W1.cell? ⟨b, k, none⟩).isSome = true := fun k hk => by
    rw [hW1]
    exact isSome_setCells b (cs.drop (i * 5)) ((i + 1) * 5) w.drew (fun j hj => hsp _ (by rw [hdl] at hj; omega)) _ (hsp k hk)
  have hcp2 : ∀ (W : World), (∀ x, W.cell? x = W1.cell? x) → (∀ x, W.frozen? x = W1.frozen? x) → ∀ ty dc, (Builtin.copy_ #[22, 22] ty #[.slice (some ⟨b, i * 5, none⟩) (n + 1 - i) dc, .slice (some ⟨vb, 0, none⟩) 1 vc]).run Try.prog W = .ok (goInt 1) (W.setCells b (i * 5) vs) := fun W hWc hWf ty dc =>
    run_copy_cellsK W _ _ ty 33 5 b (i * 5) (n + 1 - i) dc ⟨vb, 0, none⟩ 1 vc vs Try.underlying22 hsz 1 (by simp only [Nat.min_def]; split <;> omega) hvl
      (fun j v hj => by
        rw [Addr.add_lit, hWc, hW1, World.cell?_setCells_out b _ _ _ _ (fun h _ => absurd h hvb), Nat.zero_add]
        exact hvs j v hj)
      (fun j hj => by rw [hWc]; exact hsp1 _ (by omega)) (fun j hj => by rw [hWf, hW1, World.frozen?_setCells]; exact hfz _ (by omega)) h1v
  rw [← hW1] at hcp1
  go_enter Try.func50, Try.ntmps50
  go_wp2_with (simp only [hov])
  go_region_law (refine step_copy_runI rfl _ _ 22 22 rfl _ _ (by simp [Act.eval, Act.put]) (by simp [Act.eval, Act.put]) (hcp1 _ _ _) ?_)
  go_wp2_with (at_builtin; refine wpList_copy_runI _ rfl _ _ 22 22 rfl _ _ rfl rfl (hcp2 _ (fun _ => rfl) (fun _ => rfl) _ _) ?_)
  go_ret
  exact ⟨rfl, rfl⟩

def zeroO : Value := .agg #[.int .u8 0, .int .u32 0, .int .u8 0, .slice none 0 0, .int .i64 0]
theorem zeroO_size : zeroO.cells.size = 5 := rfl
theorem opInfo : (Try.prog.info? 33).map (fun i => (i.zero, i.size, i.bytes)) = some (some zeroO, 5, 48) := Try.infoOp

set_option maxHeartbeats 4000000 in
set_option maxRecDepth 100000 in
/-- There is no room, i < len(s): a new row. -/
theorem opInsertGrow (b n c i vb vc : Nat) (cs vs : List Value) (w : World) (hi : i < n) (hnc : n ≤ c) (hroom : c < n + 1) (hbig : (n + 1) * 48 ≤ 140737488355328)
    (hcl : cs.length = n * 5) (hvl : vs.length = 5)
    (hcs : ∀ (j : Nat) v, cs[j]? = some v → w.cell? ⟨b, j, none⟩ = some v)
    (hvs : ∀ (j : Nat) v, vs[j]? = some v → w.cell? ⟨vb, j, none⟩ = some v) (h1c : ∀ v ∈ cs, v.oneCell' = true) (h1v : ∀ v ∈ vs, v.oneCell' = true) :
    Calls Try.prog 50 #[.slice (some ⟨b, 0, none⟩) n c, .int .i64 i, .slice (some ⟨vb, 0, none⟩) 1 vc] w fun e w' => ∃ (G : Nat) (ROW : Array Value), n + 1 ≤ G ∧ G ≤ maxLen ∧ ROW.size = G * 5 ∧ ROW.toList.take (i * 5) = cs.take (i * 5) ∧
      e = .returned (.slice (some ⟨w.heap.size, 0, none⟩) (n + 1) G) ∧
      w' = (((w.alloc (.cells ROW 33)).drew.setCells w.heap.size (i * 5) vs).drew).setCells w.heap.size ((i + 1) * 5) (cs.drop (i * 5)) := by
  obtain ⟨i0, hi0, hz0, hzs, hzb⟩ := info_parts opInfo
  have hz2 : ((i : Int) == (n : Int)) = false := beq_eq_false_iff_ne.2 (by omega)
  have hz3 : decide ((c : Int) < (n : Int) + 1) = true := by simp; omega
  have hsz : (Try.prog.info? 33).map (·.size) = some 5 := by rw [hi0]; simp [hzs]
  have hbw : b < w.heap.size := block_lt_of_cell (hcs 0 _ (List.getElem?_eq_getElem (by omega)))
  have hvw : vb < w.heap.size := block_lt_of_cell (hvs 0 _ (List.getElem?_eq_getElem (by omega)))
  have hkk : (n : Int) + 1 - (i : Int) = ((n + 1 - i : Nat) : Int) := by omega
  have hik : i + (n + 1 - i) = n + 1 := by omega
  have hold : (Builtin.firstCells i0.size i (.slice (some ⟨b, 0, none⟩) i c)).run Try.prog w.drew = .ok (cs.take (i * 5)).toArray w.drew := by
    rw [hzs]
    exact run_firstCells_some w.drew 5 i ⟨b, 0, none⟩ i c (cs.take (i * 5)) (by rw [List.length_take]; omega) (fun j v hj => by
      rw [Addr.add_lit, Nat.zero_add]
      rw [List.getElem?_take] at hj
      split at hj
      · exact hcs j v hj
      · cases hj)
  have hrz : ∀ ty, (Builtin.append_ #[22, 3] ty #[.slice (some ⟨b, 0, none⟩) i c, .int .i64 ((n : Int) + 1 - (i : Int))]).run Try.prog w =
      .ok (.slice (some ⟨w.heap.size, 0, none⟩) (n + 1) (grownCap w (n + 1) c 33)) (w.drew.alloc (.cells ((cs.take (i * 5)).toArray ++ Builtin.zeroCells zeroO.cells (n + 1 - i) ++ Builtin.zeroCells zeroO.cells (grownCap w (n + 1) c 33 - (n + 1))) 33)) := fun ty => by
    have h := Lib.run_append_grow_zeros w 22 3 ty 33 i0 _ .i64 .i64 Try.underlying22 Try.underlying3 hi0 hz0 (some ⟨b, 0, none⟩) i c (cs.take (i * 5)) hold (n + 1 - i) (by omega) (by omega) (by omega) (by omega) (by rw [hzb]; omega) (by rw [hzb, hik]; exact growslice_fits hroom hbig)
    rw [hik] at h
    rw [hkk]
    exact h
  have hGn : n + 1 ≤ grownCap w (n + 1) c 33 := grownCap_ge w _ _ _
  have hGm := grownCap_le_maxLen w (n + 1) c 33 (by unfold maxLen; omega)
  obtain ⟨G, hG⟩ : ∃ G, G = grownCap w (n + 1) c 33 := ⟨_, rfl⟩
  obtain ⟨ROW, hROW⟩ : ∃ ROW : Array Value, ROW = (cs.take (i * 5)).toArray ++ Builtin.zeroCells zeroO.cells (n + 1 - i) ++ Builtin.zeroCells zeroO.cells (G - (n + 1)) := ⟨_, rfl⟩
  rw [← hG] at hrz hGn hGm
  rw [← hROW] at hrz
  have hzc : ∀ k, (Builtin.zeroCells zeroO.cells k).size = k * 5 := fun k => by
    unfold Builtin.zeroCells
    rw [zeroO_size]
    simp
  have hRl : ROW.size = G * 5 := by
    rw [hROW]
    simp only [Array.size_append, hzc, List.size_toArray, List.length_take, hcl]
    omega
  have hRt : ROW.toList.take (i * 5) = cs.take (i * 5) := by
    rw [hROW]
    simp only [Array.toList_append]
    rw [List.append_assoc, List.take_append_of_le_length (by simp [hcl]; omega)]
    exact List.take_of_length_le (by simp; omega)
  have hGmx := hGm
  obtain ⟨W1, hW1⟩ : ∃ W1, W1 = w.drew.alloc (.cells ROW 33) := ⟨_, rfl⟩
  rw [← hW1] at hrz
  have hN : ∀ j, j < (n + 1) * 5 → (W1.cell? ⟨w.heap.size, j, none⟩).isSome = true := fun j hj => by
    rw [hW1, World.cell?_alloc_at (w := w.drew) ROW _ w.heap.size j rfl, Array.getElem?_eq_getElem (by omega)]; rfl
  have hNf : ∀ j, W1.frozen? ⟨w.heap.size, j, none⟩ = false := fun j => by rw [hW1]; exact World.frozen?_alloc_at (w := w.drew) ROW _ w.heap.size j rfl
  have hOb : ∀ j v, w.cell? ⟨b, j, none⟩ = some v → W1.cell? ⟨b, j, none⟩ = some v := fun j v h => by rw [hW1, World.cell?_alloc_past (w := w.drew) _ b j hbw]; exact h
  have hOv : ∀ j v, w.cell? ⟨vb, j, none⟩ = some v → W1.cell? ⟨vb, j, none⟩ = some v := fun j v h => by rw [hW1, World.cell?_alloc_past (w := w.drew) _ vb j hvw]; exact h
  have hcpA : ∀ (W : World), (∀ x, W.cell? x = W1.cell? x) → (∀ x, W.frozen? x = W1.frozen? x) → ∀ ty dc, (Builtin.copy_ #[22, 22] ty #[.slice (some ⟨w.heap.size, i * 5, none⟩) (n + 1 - i) dc, .slice (some ⟨vb, 0, none⟩) 1 vc]).run Try.prog W = .ok (goInt 1) (W.setCells w.heap.size (i * 5) vs) := fun W hWc hWf ty dc =>
    run_copy_cellsK W _ _ ty 33 5 w.heap.size (i * 5) (n + 1 - i) dc ⟨vb, 0, none⟩ 1 vc vs Try.underlying22 hsz 1 (by simp only [Nat.min_def]; split <;> omega) hvl
      (fun j v hj => by rw [Addr.add_lit, hWc, Nat.zero_add]; exact hOv _ v (hvs j v hj))
      (fun j hj => by rw [hWc]; exact hN _ (by omega)) (fun j hj => by rw [hWf]; exact hNf _) h1v
  have hG63 : G ≤ 9223372036854775807 := by unfold maxLen at hGm; omega
  have hGi : ¬ (G = i) := by omega
  have hGim : ¬ (G = i + 1) := by omega
  have hci : ¬ (c = i) := by omega
  have hbN : b ≠ w.heap.size := by omega
  have hdl : (cs.drop (i * 5)).length = (n - i) * 5 := by rw [List.length_drop, hcl]; omega
  have hcpB : ∀ (W : World), (∀ x, W.cell? x = (W1.setCells w.heap.size (i * 5) vs).cell? x) → (∀ x, W.frozen? x = (W1.setCells w.heap.size (i * 5) vs).frozen? x) → ∀ ty dc sc, (Builtin.copy_ #[22, 22] ty #[.slice (some ⟨w.heap.size, (i + 1) * 5, none⟩) (n - i) dc, .slice (some ⟨b, i * 5, none⟩) (n - i) sc]).run Try.prog W = .ok (goInt ((n - i : Nat) : Int)) (W.setCells w.heap.size ((i + 1) * 5) (cs.drop (i * 5))) := fun W hWc hWf ty dc sc =>
    run_copy_cellsK W _ _ ty 33 5 w.heap.size ((i + 1) * 5) (n - i) dc ⟨b, i * 5, none⟩ (n - i) sc (cs.drop (i * 5)) Try.underlying22 hsz (n - i) (by simp only [Nat.min_def]; split <;> omega) hdl
      (fun j v hj => by
        rw [Addr.add_lit, hWc, World.cell?_setCells_out _ _ _ _ _ (fun h _ => absurd h hbN)]
        exact hOb _ v (hcs (i * 5 + j) v (by rwa [List.getElem?_drop] at hj)))
      (fun j hj => by rw [hWc]; exact isSome_setCells w.heap.size vs (i * 5) W1 (fun t ht => hN _ (by omega)) _ (hN _ (by rw [hdl] at hj; omega)))
      (fun j hj => by rw [hWf, World.frozen?_setCells]; exact hNf _) (fun v hv => h1c v (List.mem_of_mem_drop hv))
  subst hW1
  have hE1 : ∀ x, ((w.alloc (.cells ROW 33)).drew).cell? x = (w.drew.alloc (.cells ROW 33)).cell? x := fun x => rfl
  have hE2 : ∀ x, ((w.alloc (.cells ROW 33)).drew).frozen? x = (w.drew.alloc (.cells ROW 33)).frozen? x := fun x => rfl
  have hF1 : ∀ x, (((w.alloc (.cells ROW 33)).drew.setCells w.heap.size (i * 5) vs).drew).cell? x = ((w.drew.alloc (.cells ROW 33)).setCells w.heap.size (i * 5) vs).cell? x := fun x => rfl
  have hF2 : ∀ x, (((w.alloc (.cells ROW 33)).drew.setCells w.heap.size (i * 5) vs).drew).frozen? x = ((w.drew.alloc (.cells ROW 33)).setCells w.heap.size (i * 5) vs).frozen? x := fun x => rfl
  have hw1 : IntKind.i64.wrap ((i : Int) + 1) = (i : Int) + 1 := by rw [IntKind.wrap_i64]; omega
  have hb1 : (0 : Int) ≤ (i : Int) + 1 := by omega
  have hin : i ≤ n := by omega
  have htn : ((i : Int) + 1).toNat = i + 1 := by omega
  have hb3 : (i : Int) ≤ (n : Int) := by omega
  have hRR := hide (And.intro hRl hRt)
  clear hkk hik hold hROW hG hRl hRt hzc hi0 hz0 hzs hzb hsz hN hNf hOb hOv
  go_enter Try.func50, Try.ntmps50
  go_wp2_with (first
    | (at_builtin; refine Lib.wpList_append_run _ rfl _ _ _ _ rfl _ _ rfl rfl _ _ (hrz _) ?_)
    | (at_builtin; refine wpList_copy_runI _ rfl _ _ 22 22 rfl _ _ rfl rfl (hcpA _ hE1 hE2 _ _) ?_))
  go_region_law (refine step_copy_runI rfl _ _ 22 22 rfl (.slice (some ⟨w.heap.size, (i + 1) * 5, none⟩) (n - i) (G - (i + 1))) (.slice (some ⟨b, i * 5, none⟩) (n - i) (c - i)) (by simp [Act.eval, Act.put]) (by simp [Act.eval, Act.put]) (hcpB _ hF1 hF2 3 (G - (i + 1)) (c - i)) ?_)
  go_wp2
  go_ret
  exact ⟨G, ROW, hGn, hGm, hRR.out.1, hRR.out.2, rfl, rfl⟩

set_option maxRecDepth 100000 in
set_option maxHeartbeats 2000000 in
theorem opInsertC (base : Nat) (v : Value) (xs : List Op) (i : Nat) (y : Op) (A : Option Addr) (c : Nat) (w1 : World) (hown : Own cOp 33 base w1 v xs) (hbase : base ≤ w1.heap.size) (hi : i ≤ xs.length) (hl : xs.length ≤ 1048576)
    (hy : cOp.rd w1 (fun b => (base ≤ b ∧ b < w1.heap.size) ∧ v.ownBlock ≠ some b) y (opCells y A c)) :
    Calls Try.prog 50 #[v, .int .i64 i, .slice (some ⟨w1.heap.size, 0, none⟩) 1 1] (w1.alloc (.cells (opCells y A c).toArray 33)) (NewFrom cOp base (xs.take i ++ y :: xs.drop i) w1) := by
  obtain ⟨w, hw⟩ : ∃ w, w = w1.alloc (.cells (opCells y A c).toArray 33) := ⟨_, rfl⟩
  have hbw : Bl w1 w := by rw [hw]; exact (Bl.refl _).alloc _
  have hzw : w.heap.size = w1.heap.size + 1 := by rw [hw, World.size_alloc]
  have hnew := heap_alloc_new w1 (.cells (opCells y A c).toArray 33)
  rw [← hw] at hnew ⊢
  have hvs : ∀ (j : Nat) u, (opCells y A c)[j]? = some u → w.cell? ⟨w1.heap.size, j, none⟩ = some u := fun j u hu => by
    rw [cell_of_row w w1.heap.size j _ _ (0, 0) hnew]; simpa using hu
  have hvf : ∀ o, w.frozen? ⟨w1.heap.size, o, none⟩ = false := fun o => by rw [hw]; exact frozen_new w1 _ _ o
  have h1v := cOp.one hy
  have hvl : (opCells y A c).length = 5 := rfl
  obtain ⟨i0, hi0, hz0, hz1, hz2⟩ := info_parts Try.infoOp
  have hown2 := hown.bl hbw
  have hfn : ∀ v2 w2, Own cOp 33 base w2 v2 (xs ++ [y]) → w.grownBy w2 v.ownBlock → NewFrom cOp base (xs ++ [y]) w1 (.returned v2) w2 := fun v2 w2 ho hg => by
    obtain ⟨A', c', rfl, hr, k1, k2⟩ := ho.reads
    exact ⟨A', c', rfl, k1, k2, hr, Below.grown (Below.mono hbw hbase) hg (by omega) (fun k hk => (hown2.lt hk).1)⟩
  have hsrc : ∃ news, RdL cOp w (fun b => (base ≤ b ∧ b < w.heap.size) ∧ v.ownBlock ≠ some b) [y] news ∧ (∀ ad, some (⟨w1.heap.size, 0, none⟩ : Addr) = some ad → ∀ (j : Nat) (u : Value), news[j]? = some u → w.cell? (ad.add j) = some u) ∧ (some (⟨w1.heap.size, 0, none⟩ : Addr) = none → [y] = []) :=
    ⟨opCells y A c, RdL.one1 (cOp.keep (hbw.keeps fun b hb => hb.1.2) (fun b hb => ⟨⟨hb.1.1, by have := hb.1.2; omega⟩, hb.2⟩) hy), fun ad e j u hu => by
      cases e
      rw [add_plain', Nat.zero_add]
      exact hvs j u hu, fun e => by cases e⟩
  have hlx : xs.length ≤ 9223372036854775807 := by omega
  replace hfn := hide hfn
  clear hw
  obtain ⟨cells, ho, hr⟩ := hown
  obtain ⟨hcl, hnl | ⟨g, cap, cur, hv, hbg, hgc, hnc, hcm, hsz, htk⟩⟩ := ho
  · obtain ⟨rfl, hx0⟩ := hnl
    obtain rfl := List.eq_nil_of_length_eq_zero hx0
    obtain rfl : i = 0 := by simpa using hi
    clear hr hcl hnew hvs hvf hx0
    go_enter Try.func50, Try.ntmps50
    go_wp2_with (at_builtin
                 (refine wpList_append_any2 (C := cOp) (xs := []) (ys := [y]) rfl (.tmp 23) (.tmp 24) _ rfl 33 i0 _ 48 Try.underlying22 hi0 hz0 hz1 hz2 rfl _ base rfl hown2 (some ⟨w1.heap.size, 0, none⟩) 1 1 rfl rfl hsrc ?c1 ?c2 ?c3 ?_)
                 case c1 => simp [maxLen]
                 case c2 => simp
                 case c3 => omega
                 intro v2 w2 hown3 hg2 _)
    go_ret
    exact hfn.out _ _ hown3 hg2
  have hcm' := hcm
  unfold maxLen at hcm'
  by_cases hin : i = xs.length
  · subst hin
    have hE := hide (show xs.take xs.length ++ y :: xs.drop xs.length = xs ++ [y] by rw [List.take_length, List.drop_length])
    have hee : ((xs.length : Int) == (xs.length : Int)) = true := by simp
    subst hv
    clear hr hcl hnew hvs hvf hgc htk
    by_cases hce : cap = xs.length
    · subst hce
      go_enter Try.func50, Try.ntmps50
      go_wp2_with (at_builtin
                   (refine wpList_append_any2 (C := cOp) (xs := xs) (ys := [y]) rfl (.tmp 23) (.tmp 24) _ rfl 33 i0 _ 48 Try.underlying22 hi0 hz0 hz1 hz2 rfl _ base rfl hown2 (some ⟨w1.heap.size, 0, none⟩) 1 1 rfl rfl hsrc ?c1 ?c2 ?c3 ?_)
                   case c1 => simp [maxLen]; omega
                   case c2 => simp; omega
                   case c3 => omega
                   intro v2 w2 hown3 hg2 _)
      go_ret
      rw [hE.out]
      exact hfn.out _ _ hown3 hg2
    · go_enter Try.func50, Try.ntmps50
      go_wp2_with (at_builtin
                   (refine wpList_append_any2 (C := cOp) (xs := xs) (ys := [y]) rfl (.tmp 23) (.tmp 24) _ rfl 33 i0 _ 48 Try.underlying22 hi0 hz0 hz1 hz2 rfl _ base rfl hown2 (some ⟨w1.heap.size, 0, none⟩) 1 1 rfl rfl hsrc ?c1 ?c2 ?c3 ?_)
                   case c1 => simp [maxLen]; omega
                   case c2 => simp; omega
                   case c3 => omega
                   intro v2 w2 hown3 hg2 _)
      go_ret
      rw [hE.out]
      exact hfn.out _ _ hown3 hg2
  -- in the midst
  have hin' : i < xs.length := by omega
  subst hv
  have hg1 : g < w1.heap.size := (Array.getElem?_eq_some_iff.1 hgc).1
  have hgc2 : w.heap[g]? = some (.cells cur 33 (0, 0)) := (hbw.block g hg1).trans hgc
  have hne : w1.heap.size ≠ g := by omega
  have hcs : ∀ (j : Nat) u, cells[j]? = some u → w.cell? ⟨g, j, none⟩ = some u := fun j u hu => by
    rw [cell_of_row w g j cur _ (0, 0) hgc2]
    rw [← htk, List.getElem?_take] at hu
    split at hu
    · simpa using hu
    · cases hu
  have h1c := hr.one
  have hfr : ∀ o, w.frozen? ⟨g, o, none⟩ = false := fun o => by simp [World.frozen?, hgc2]
  -- the pieces
  have hxs : xs = xs.take i ++ xs.drop i := (List.take_append_drop i xs).symm
  have hr2 := hr
  rw [hxs] at hr2
  obtain ⟨ca, cb, hcc, hra, hrb⟩ := hr2.split
  have hcal : ca.length = i * 5 := by
    have := hra.length
    rw [List.length_take, Nat.min_eq_left (by omega)] at this
    exact this
  have hcat : cells.take (i * 5) = ca := by rw [hcc, List.take_append_of_le_length (by omega), List.take_of_length_le (by omega)]
  have hcad : cells.drop (i * 5) = cb := by rw [hcc, List.drop_append_of_le_length (by omega), List.drop_of_length_le (by omega)]; rfl
  have hcbl : cb.length = (xs.length - i) * 5 := by
    have := congrArg List.length hcc
    rw [List.length_append, hcl, hcal] at this
    have h8 : cOp.size = 5 := rfl
    rw [h8] at this
    omega
  have hcl8 : cells.length = xs.length * 5 := hcl
  have hrall : RdL cOp w1 (fun b => (base ≤ b ∧ b < w1.heap.size) ∧ (Value.slice (some ⟨g, 0, none⟩) xs.length cap).ownBlock ≠ some b) (xs.take i ++ y :: xs.drop i) (ca ++ (opCells y A c ++ cb)) := hra.append ((RdL.one1 hy).append hrb)
  have hylen : (xs.take i ++ y :: xs.drop i).length = xs.length + 1 := by simp; omega
  have hob : ∀ b, ((base ≤ b ∧ b < w1.heap.size) ∧ (Value.slice (some ⟨g, 0, none⟩) xs.length cap).ownBlock ≠ some b) → b ≠ g := fun b hb e => hb.2 (by rw [e]; rfl)
  by_cases hroom : xs.length + 1 ≤ cap
  · have hsp : ∀ j, j < (xs.length + 1) * 5 → (w.cell? ⟨g, j, none⟩).isSome = true := fun j hj => by
      rw [cell_of_row w g j cur _ (0, 0) hgc2, Array.getElem?_eq_getElem (by have h8 : cOp.size = 5 := rfl; rw [h8] at hsz; omega)]
      rfl
    have hins := (ins_cells (W := w.drew) (g := g) (p := i * 5) (q := 5) (a := ca) (vs := opCells y A c) (b := cb) hcal hvl (fun j hj => hsp j (by omega)) (fun j u hu => hcs j u (by rw [hcc, List.getElem?_append_left (by exact (List.getElem?_eq_some_iff.1 hu).1)]; exact hu))).1
    refine (opInsertShift g xs.length cap i w1.heap.size 1 cells (opCells y A c) w hin' hroom hcm' hne hcl8 hvl hcs hsp (fun j _ => hfr j) hvs h1c h1v 33 33 5 cur.size ?_ ?_ ?_ (hvf 0) (hvf 5)).mono ?_
    · simp [World.shape?, hnew, hvl]
    · simp [World.shape?, hgc2]
    · have h8 : cOp.size = 5 := rfl
      rw [h8] at hsz
      omega
    rintro e w' ⟨rfl, rfl⟩
    rw [hcad, show (i + 1) * 5 = i * 5 + 5 by omega]
    refine ⟨some ⟨g, 0, none⟩, cap, by rw [hylen], by rw [hylen]; exact hroom, hcm, ⟨_, hrall.keep (fun b hb => ?_) (fun b hb => ⟨hb.1.1, ?_⟩), fun _ => ⟨g, 0, rfl, ⟨hbg, ?_⟩, fun j u hu => ⟨?_, ?_⟩⟩⟩, ?_⟩
    · exact ((((hbw.keeps fun _ h => h.1.2).trans (Keeps.drew _ _)).trans (keeps_setCells hob _ _ _)).trans (keeps_setCells hob _ _ _)) b hb
    · rw [size_setCells, size_setCells]; show b < w.heap.size; have := hb.1.2; omega
    · rw [size_setCells, size_setCells]; show g < w.heap.size; omega
    · rw [Nat.zero_add]; exact hins j u hu
    · rw [World.frozen?_setCells, World.frozen?_setCells]; exact hfr _
    · exact below_setCells hbg _ _ (below_setCells hbg _ _ (Below.mono hbw.drew hbase))
  · refine (opInsertGrow g xs.length cap i w1.heap.size 1 cells (opCells y A c) w hin' hnc (by omega) (by omega) hcl8 hvl hcs hvs h1c h1v).mono ?_
    rintro e w' ⟨G, ROW, hG1, hG2, hRs, hRt, rfl, rfl⟩
    rw [hcad, show (i + 1) * 5 = i * 5 + 5 by omega]
    have hH : w.heap.size = w1.heap.size + 1 := hzw
    have hal := heap_alloc_new w (.cells ROW 33)
    have hins := (ins_cells (W := (w.alloc (.cells ROW 33)).drew.drew) (g := w.heap.size) (p := i * 5) (q := 5) (a := ca) (vs := opCells y A c) (b := cb) hcal hvl (fun j hj => by
        show ((w.alloc (.cells ROW 33)).cell? ⟨w.heap.size, j, none⟩).isSome = true
        rw [cell_of_row _ w.heap.size j ROW _ (0, 0) hal, Array.getElem?_eq_getElem (by omega)]; rfl) (fun j u hu => by
        show (w.alloc (.cells ROW 33)).cell? ⟨w.heap.size, j, none⟩ = some u
        rw [cell_of_row _ w.heap.size j ROW _ (0, 0) hal]
        rw [← hcat, ← hRt, List.getElem?_take] at hu
        split at hu
        · simpa using hu
        · cases hu)).2
    have hob2 : ∀ b, ((base ≤ b ∧ b < w1.heap.size) ∧ (Value.slice (some ⟨g, 0, none⟩) xs.length cap).ownBlock ≠ some b) → b ≠ w.heap.size := fun b hb e => by have := hb.1.2; omega
    refine ⟨some ⟨w.heap.size, 0, none⟩, G, by rw [hylen], by rw [hylen]; exact hG1, hG2, ⟨_, hrall.keep (fun b hb => ?_) (fun b hb => ⟨hb.1.1, ?_⟩), fun _ => ⟨w.heap.size, 0, rfl, ⟨by omega, ?_⟩, fun j u hu => ⟨?_, ?_⟩⟩⟩, ?_⟩
    · exact (((((((hbw.alloc _).keeps fun _ h => h.1.2).trans (Keeps.drew _ _)).trans (keeps_setCells hob2 _ _ _)).trans (Keeps.drew _ _)).trans (keeps_setCells hob2 _ _ _))) b hb
    · simp only [size_setCells, drew_heap, World.size_alloc]
      have := hb.1.2
      omega
    · simp only [size_setCells, drew_heap, World.size_alloc]
      omega
    · rw [Nat.zero_add, drew_setCells]
      exact hins j u hu
    · rw [World.frozen?_setCells, drew_frozen, World.frozen?_setCells, drew_frozen]
      exact frozen_new w ROW _ _
    · exact below_setCells (by omega) _ _ (Below.drew (below_setCells (g := w.heap.size) (by omega) _ _ (Below.drew (Below.mono (hbw.alloc (.cells ROW 33)) hbase))))
end Go.Proofs.Ytedcopjpgijpjaa
