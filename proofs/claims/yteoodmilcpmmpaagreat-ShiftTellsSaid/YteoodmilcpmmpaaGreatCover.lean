/-
  The walk of cover.of.
-/
import Derived.Test.YteoodmilcpmmpaaGreatCountsB
import Derived.Test.YteoodmilcpmmpaaGreatHome
namespace Go.Proofs.YteoodmilcpmmpaaGreat

open Go.RowKit

/-- Which stamps are held. -/
def heldN (l : List Op) (s : Id) : Int := if hasId l s then 1 else 0

theorem held_take {l : List Op} {k : Nat} {x : Op} (h : l[k]? = some x) (s : Id) : heldN (l.take (k + 1)) s = if s = x.id then 1 else heldN (l.take k) s := by
  unfold heldN hasId
  rw [take_snoc h, List.any_append]
  by_cases e : s = x.id
  · subst e
    simp
  · have e2 : ¬ x.id = s := fun h => e h.symm
    simp [e, e2]

theorem held_has (l : List Op) (s : Id) : decide (0 < heldN l s) = hasId l s := by
  unfold heldN
  cases hasId l s <;> rfl

def MapBox (w : World) (Y mb : Nat) : Prop := w.cell? ⟨Y, 0, none⟩ = some (.map (some mb))

set_option maxRecDepth 100000 in
set_option maxHeartbeats 4000000 in
theorem coverOf (A : Option Addr) (c : Nat) (l : List Op) (s : Id) (w : World) (hl : l.length ≤ 1048576) (hA : R cOp 0 w A l) :
    Calls Tryz.prog 163 #[.slice A l.length c, .agg #[.int .u32 s.t, .int .u8 s.r]] w fun e w' => ∃ F cf T ct Y, e = .returned (.tuple #[.agg #[.slice F (spanA l s).length cf, .slice T (spanB l s).length ct, .func (.func 202) #[] #[.pointer (some ⟨Y, 0, none⟩)]], .int .i64 (whereN l s 0)]) ∧ SectAt w' (spanA l s) (spanB l s) (heldN l) F cf T ct Y ∧ Bl w w' := by
  have hmk : ∀ V : World, (Instr.makeMap 100 none).run Tryz.prog V = .ok (.map (some V.heap.size)) (V.alloc (.map #[] 0)) := fun _ => rfl
  obtain ⟨W, hW⟩ : ∃ W, W = (w.alloc (.cells #[Value.int IntKind.u32 s.t, Value.int IntKind.u8 s.r] 25)).alloc (.cells #[Value.slice none 0 0, Value.slice none 0 0, Value.nilFunc] 148) := ⟨_, rfl⟩
  have hbW : Bl w W := by rw [hW]; exact ((Bl.refl _).alloc _).alloc _
  have hsW : W.heap.size = w.heap.size + 2 := by rw [hW, World.size_alloc, World.size_alloc]
  have at0 : IdBox W w.heap.size s := by rw [hW]; exact (IdBox.new w s _).bl ((Bl.refl _).alloc _)
  have at1 : At W (w.heap.size + 1) 0 [Value.slice none 0 0, Value.slice none 0 0, Value.nilFunc] := by
    have h := At.new (w.alloc (.cells #[Value.int IntKind.u32 s.t, Value.int IntKind.u8 s.r] 25)) [Value.slice none 0 0, Value.slice none 0 0, Value.nilFunc] 148
    rw [World.size_alloc w] at h
    rw [hW]
    exact h
  have hsp := homeSpan A c l s W (by unfold maxLen; omega) (hA.bl hbW)
  unfold SpanP at hsp
  obtain ⟨fr, hfr⟩ : ∃ q, q = spanA l s := ⟨_, rfl⟩
  obtain ⟨tu, htu⟩ : ∃ q, q = spanB l s := ⟨_, rfl⟩
  obtain ⟨N, hN⟩ : ∃ q, q = whereN l s 0 := ⟨_, rfl⟩
  rw [← hfr, ← htu, ← hN] at hsp ⊢
  obtain ⟨x0, x1, -, -⟩ := at0
  have hl1 := at1.lt (by simp)
  replace hsp := hide hsp
  clear hfr htu hN
  go_enter Tryz.func163, Tryz.ntmps163
  go_wp2_with fail
  rw [← hW]
  clear hW
  refine hsp.out.mono ?_
  rintro e w1 ⟨F, T, cf, ct, rfl, f1, f2, t1, t2, hF, hT, hb1⟩
  rw [hsW] at hF hT
  have at1b := at1.bl hb1 (by simp)
  have y0 := (at1b 0 _ rfl).1
  have y1 := (at1b 1 _ rfl).1
  have y2 := (at1b 2 _ rfl).1
  have g0 := (at1b 0 _ rfl).2
  have g1 := (at1b 1 _ rfl).2
  have g2 := (at1b 2 _ rfl).2
  simp only [Nat.zero_add] at y0 y1 y2 g0 g1 g2
  have hl2 := Nat.lt_of_lt_of_le hl1 hb1.size
  have hb01 := hbW.trans hb1
  obtain ⟨W2, hW2⟩ : ∃ W2, W2 = (w1.setCell ⟨w.heap.size + 1, 0, none⟩ (.slice F fr.length cf)).setCell ⟨w.heap.size + 1, 1, none⟩ (.slice T tu.length ct) := ⟨_, rfl⟩
  have hs2 : W2.heap.size = w1.heap.size := by rw [hW2]; simp [World.setCell]
  have hb2 : Bl w W2 := by rw [hW2]; exact (hb01.setCell (p := ⟨w.heap.size + 1, 0, none⟩) (Nat.le_succ _) _).setCell (p := ⟨w.heap.size + 1, 1, none⟩) (Nat.le_succ _) _
  have hF2 : R cRun (w.heap.size + 2) W2 F fr := by rw [hW2]; exact (hF.set (p := ⟨w.heap.size + 1, 0, none⟩) (by show w.heap.size + 1 < _; omega) _).set (p := ⟨w.heap.size + 1, 1, none⟩) (by show w.heap.size + 1 < _; omega) _
  have hT2 : R cRun (w.heap.size + 2) W2 T tu := by rw [hW2]; exact (hT.set (p := ⟨w.heap.size + 1, 0, none⟩) (by show w.heap.size + 1 < _; omega) _).set (p := ⟨w.heap.size + 1, 1, none⟩) (by show w.heap.size + 1 < _; omega) _
  have z0 : W2.cell? ⟨w.heap.size + 1, 0, none⟩ = some (.slice F fr.length cf) := by rw [hW2]; exact box_set_other (by simp) (box_set_same y0)
  have z1 : W2.cell? ⟨w.heap.size + 1, 1, none⟩ = some (.slice T tu.length ct) := by rw [hW2]; exact box_set_same (box_set_other (by simp) y1)
  have z2 : W2.cell? ⟨w.heap.size + 1, 2, none⟩ = some .nilFunc := by rw [hW2]; exact box_set_other (by simp) (box_set_other (by simp) y2)
  have hfz : ∀ o, W2.frozen? ⟨w.heap.size + 1, o, none⟩ = w1.frozen? ⟨w.heap.size + 1, o, none⟩ := fun o => by rw [hW2, World.frozen?_setCell, World.frozen?_setCell]
  have k0 := (hfz 0).trans g0
  have k1 := (hfz 1).trans g1
  have k2 := (hfz 2).trans g2
  have hm0 : IdInt ((W2.alloc (.map #[] 0)).alloc (.cells #[.map (some w1.heap.size)] 100)) w1.heap.size 0 (heldN (l.take 0)) := by
    have h := (IdInt.made W2).bl ((Bl.refl _).alloc (.cells #[.map (some w1.heap.size)] 100))
    rw [hs2] at h
    exact h
  have hy0 : ((W2.alloc (.map #[] 0)).alloc (.cells #[.map (some w1.heap.size)] 100)).cell? ⟨w1.heap.size + 1, 0, none⟩ = some (.map (some w1.heap.size)) := by
    have h := (At.new (W2.alloc (.map #[] 0)) [.map (some w1.heap.size)] 100 0 _ rfl).1
    rw [World.size_alloc, hs2] at h
    exact h
  have hb4 : Bl W2 ((W2.alloc (.map #[] 0)).alloc (.cells #[.map (some w1.heap.size)] 100)) := ((Bl.refl _).alloc _).alloc _
  have hst := hide (And.intro hm0 (And.intro hy0 hb4))
  have hz := hide (And.intro z0 (And.intro z1 (And.intro z2 (And.intro k0 (And.intro k1 k2)))))
  clear hm0 hy0 hb4
  go_upto_region 3 with fail
  clear z0 z1 z2 k0 k1 k2 y0 y1 y2
  rw [← hW2]
  clear hW2
  obtain ⟨W4, hW4⟩ : ∃ W4, W4 = (W2.alloc (.map #[] 0)).alloc (.cells #[.map (some w1.heap.size)] 100) := ⟨_, rfl⟩
  rw [← hW4] at hst ⊢
  clear hW4
  go_wp2_with fail
  go_loopw [21] (fun i wr => Bl W2 wr ∧ MapBox wr (w1.heap.size + 1) w1.heap.size ∧ ∃ k : Nat, k ≤ l.length ∧ i = .int .i64 k ∧ IdInt wr w1.heap.size k (heldN (l.take k))) (fun i _ => l.length - (intOf i).toNat)
  case atStart => exact ⟨hst.out.2.2, hst.out.2.1, 0, Nat.zero_le _, rfl, hst.out.1⟩
  case round =>
    clear hst
    obtain ⟨hbl, hy, k, hk, rfl, hset⟩ := hrel
    unfold MapBox at hy
    have hb0 := hb2.trans hbl
    have hy6 := World.block_lt_of_cell? _ _ hy
    by_cases hlt : k < l.length
    · have hR := hA.bl hb0
      obtain ⟨b, off, rfl, _, hb⟩ := hR.addr (by omega)
      obtain ⟨x, hx⟩ := get_lt hlt
      obtain ⟨_, ho, S, sc, s1, s2, hS, c0, c1, c2, c3, c4⟩ := hR.op hx
      have hki : (k : Int) < (l.length : Int) := by omega
      have hV : Bl wr (wr.alloc (.cells #[Value.int IntKind.u8 x.kind, Value.int IntKind.u32 x.id.t, Value.int IntKind.u8 x.id.r, Value.slice S x.pl.length sc, Value.int IntKind.i64 x.pt] 47)) := (Bl.refl _).alloc _
      have hm1 := hset.bl hV
      obtain ⟨w3, hup, hm3, hg3⟩ := hm1.put (g := heldN (l.take (k + 1))) ho.2.1 (by unfold maxLen; omega) (fun q => held_take hx q)
      have hb23 := hbl.trans hV
      have hb3 : Bl W2 w3 := Below.grown hb23 hg3 hb23.size (fun j hj => by cases hj; omega)
      have hy3 : w3.cell? ⟨w1.heap.size + 1, 0, none⟩ = some (.map (some w1.heap.size)) := by
        refine (World.cell?_of_block (a := ⟨w1.heap.size + 1, 0, none⟩) (hg3.block _ (Nat.lt_of_lt_of_le hy6 hV.size) (by simp))).trans ((hV.cell hy6).trans hy)
      have hfin := hide (And.intro hb3 (And.intro hy3 hm3))
      clear hm1 hm3 hg3 hb3 hy3 hset hx hb23 hV hS hR
      go_wp2
      go_roundw
      case rel => exact ⟨hfin.out.1, hfin.out.2.1, k + 1, by omega, by go_num, hfin.out.2.2⟩
      case measure => simp [intOf]; omega
    · have hkl : k = l.length := by omega
      rw [hkl, List.take_length] at hset
      have hset := hide hset
      replace hkl := hide hkl
      have hki : ¬ (k : Int) < (l.length : Int) := by omega
      obtain ⟨z0, z1, z2, k0, k1, k2⟩ := hz.out
      have hl3 : w.heap.size + 1 < W2.heap.size := by omega
      have y0 := (hbl.cell hl3).trans z0
      have y1 := (hbl.cell hl3).trans z1
      have y2 := (hbl.cell hl3).trans z2
      have g0 := (hbl.frozen hl3).trans k0
      have g1 := (hbl.frozen hl3).trans k1
      have g2 := (hbl.frozen hl3).trans k2
      clear z0 z1 z2 k0 k1 k2 hz
      go_wp2_with fail
      refine bodyPost_ret (v := .tuple #[.agg #[.slice F fr.length cf, .slice T tu.length ct, .func (.func 202) #[] #[.pointer (some ⟨w1.heap.size + 1, 0, none⟩)]], .int .i64 N]) (by simp [results, Tryz.results163, go_sem, y0, y1, y2]) rfl ?_
      have hFr := hF2.bl hbl
      have hTr := hT2.bl hbl
      refine ⟨F, cf, T, ct, _, rfl, ⟨f1, f2, t1, t2, ?_, ?_, ?_⟩, ?_⟩
      · exact ((((hFr.set (by show w.heap.size + 1 < _; omega) _).set (by show w.heap.size + 1 < _; omega) _).set (by show w.heap.size + 1 < _; omega) _).set (by show w.heap.size + 1 < _; omega) _).more (Nat.zero_le _)
      · exact ((((hTr.set (by show w.heap.size + 1 < _; omega) _).set (by show w.heap.size + 1 < _; omega) _).set (by show w.heap.size + 1 < _; omega) _).set (by show w.heap.size + 1 < _; omega) _).more (Nat.zero_le _)
      · have hne : ∀ o o' : Nat, (⟨w1.heap.size + 1, o', none⟩ : Addr) ≠ ⟨w.heap.size + 1, o, none⟩ := fun o o' h => by
          injection h with h
          omega
        have hnb : ∀ o : Nat, w1.heap.size ≠ (⟨w.heap.size + 1, o, none⟩ : Addr).block := fun o => by show w1.heap.size ≠ w.heap.size + 1; omega
        obtain ⟨D, hD, hf⟩ := hset.out
        exact ⟨w1.heap.size, _, box_set_other (hne _ _) (box_set_other (hne _ _) (box_set_other (hne _ _) (box_set_other (hne _ _) hy))), D, (((hD.setCell (hnb 2) _).setCell (hnb 0) _).setCell (hnb 1) _).setCell (hnb 2) _, hf⟩
      · exact (((hb0.setCell (p := ⟨w.heap.size + 1, 2, none⟩) (Nat.le_succ _) _).setCell (p := ⟨w.heap.size + 1, 0, none⟩) (Nat.le_succ _) _).setCell (p := ⟨w.heap.size + 1, 1, none⟩) (Nat.le_succ _) _).setCell (p := ⟨w.heap.size + 1, 2, none⟩) (Nat.le_succ _) _

end Go.Proofs.YteoodmilcpmmpaaGreat
