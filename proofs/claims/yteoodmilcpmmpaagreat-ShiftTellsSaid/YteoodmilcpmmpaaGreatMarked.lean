/-
  The walk of marks.marked: the stamps of the marks that are not joined.
-/
import Derived.Test.YteoodmilcpmmpaaGreatMarkSet
import Derived.Test.YteoodmilcpmmpaaGreatLiveP
import Derived.Test.YteoodmilcpmmpaaGreatBagA
namespace Go.Proofs.YteoodmilcpmmpaaGreat

open Go.RowKit

theorem fin_ok {w : World} {A : Option Addr} {p : List Run} (hA : R cRun 0 w A p) : (placeFin p).ok := by
  cases h : placeMay p
  · have e : placeFin p = ⟨0, 0⟩ := by unfold placeFin; rw [h]; rfl
    rw [e]
    unfold Id.ok
    decide
  · obtain ⟨x, hx, hf, h0, h1, h2, h3⟩ := placeFin_of h
    obtain ⟨cells, hr, _⟩ := hA
    obtain ⟨p', m, s, _, _, hm⟩ := hr.get hx
    have ho := hm.1
    have hb := runOne_bd (runsFrom_all p _ _ (placeMay_parts h).2.2.1 x (List.mem_of_getElem? hx))
    unfold Run.ok at ho
    rw [hf]
    unfold Id.ok
    dsimp only
    omega

set_option maxRecDepth 100000 in
set_option maxHeartbeats 2000000 in
theorem marksMarked (A : Option Addr) (c : Nat) (l : List Op) (w : World) (hl : l.length ≤ 1048576) (hA : R cOp 0 w A l) :
    Calls Tryz.prog 146 #[.slice A l.length c] w fun e w' => ∃ b, e = .returned (.map (some b)) ∧ IdSet w' b l.length (openMark l) ∧ Bl w w' ∧ w.heap.size ≤ b := by
  have hmk : ∀ V : World, (Instr.makeMap 178 none).run Tryz.prog V = .ok (.map (some V.heap.size)) (V.alloc (.map #[] 0)) := fun _ => rfl
  go_enter Tryz.func146, Tryz.ntmps146
  go_wp2_with fail
  go_loopw [11] (fun i wr => Bl w wr ∧ ∃ k : Nat, k ≤ l.length ∧ i = .int .i64 k ∧ IdSet wr w.heap.size k (hasMark (l.take k))) (fun i _ => l.length - (intOf i).toNat)
  case atStart => exact ⟨(Bl.refl _).alloc _, 0, Nat.zero_le _, rfl, IdSet.made w⟩
  case round =>
    obtain ⟨hbl, k, hk, rfl, hset⟩ := hrel
    by_cases hlt : k < l.length
    · have hR := hA.bl hbl
      obtain ⟨b, off, rfl, _, hb⟩ := hR.addr (by omega)
      obtain ⟨x, hx⟩ := get_lt hlt
      obtain ⟨_, ho, S, sc, s1, s2, hS, c0, c1, c2, c3, c4⟩ := hR.op hx
      have hki : (k : Int) < (l.length : Int) := by omega
      have htk := hide (fun s => hasMark_take hx s)
      clear hx
      by_cases hk2 : x.kind = 2
      · have hbl1 := hbl.alloc (.cells #[Value.int IntKind.u8 2, Value.int IntKind.u32 x.id.t, Value.int IntKind.u8 x.id.r, Value.slice S x.pl.length sc, Value.int IntKind.i64 x.pt] 47)
        have hm1 := hset.bl ((Bl.refl wr).alloc (.cells #[Value.int IntKind.u8 2, Value.int IntKind.u32 x.id.t, Value.int IntKind.u8 x.id.r, Value.slice S x.pl.length sc, Value.int IntKind.i64 x.pt] 47))
        obtain ⟨w2, hup, hm2, hg2⟩ := hm1.put (g := hasMark (l.take (k + 1))) (s := x.id) (a := 2) (e := x.id.t) (c := x.id.r) (A := S) (m := x.pl.length) (k := sc) (d := x.pt) ho.2.1 (by unfold maxLen; omega) (fun q => by
          rw [htk.out, decide_eq_true hk2, Bool.true_and, Bool.or_comm]
          congr 1
          rw [decide_eq_decide]
          exact eq_comm)
        have hbl2 : Bl w w2 := Below.grown hbl1 hg2 hbl1.size (fun j hj => by cases hj; exact Nat.le_refl _)
        have hfin := hide (And.intro hbl2 hm2)
        clear hm1 hm2 hg2 hbl1 hbl2 htk hset
        go_wp2
        go_roundw
        case rel => exact ⟨hfin.out.1, k + 1, by omega, by go_num, hfin.out.2⟩
        case measure => simp [intOf]; omega
      · have hfin := hide (show Bl w (wr.alloc (.cells #[Value.int IntKind.u8 x.kind, Value.int IntKind.u32 x.id.t, Value.int IntKind.u8 x.id.r, Value.slice S x.pl.length sc, Value.int IntKind.i64 x.pt] 47)) ∧ IdSet (wr.alloc (.cells #[Value.int IntKind.u8 x.kind, Value.int IntKind.u32 x.id.t, Value.int IntKind.u8 x.id.r, Value.slice S x.pl.length sc, Value.int IntKind.i64 x.pt] 47)) w.heap.size (k + 1) (hasMark (l.take (k + 1))) from ⟨hbl.alloc _, by
          have h1 := (hset.bl ((Bl.refl wr).alloc (.cells #[Value.int IntKind.u8 x.kind, Value.int IntKind.u32 x.id.t, Value.int IntKind.u8 x.id.r, Value.slice S x.pl.length sc, Value.int IntKind.i64 x.pt] 47))).mono (Nat.le_succ k)
          have e : hasMark (l.take (k + 1)) = hasMark (l.take k) := funext fun q => by rw [htk.out, decide_eq_false hk2, Bool.false_and, Bool.or_false]
          rw [e]
          exact h1⟩)
        clear htk hset
        go_wp2
        go_roundw
        case rel => exact ⟨hfin.out.1, k + 1, by omega, by go_num, hfin.out.2⟩
        case measure => simp [intOf]; omega
    · have hkl : k = l.length := by omega
      rw [hkl, List.take_length] at hset
      have hst := hide hset
      clear hset
      replace hkl := hide hkl
      have hki : ¬ (k : Int) < (l.length : Int) := by omega
      go_wp2_with fail
      go_loopw [25] (fun i w3 => Bl w w3 ∧ ∃ k : Nat, k ≤ l.length ∧ i = .int .i64 k ∧ IdSet w3 w.heap.size l.length (fun s => hasMark l s && !endedF (l.take k) s)) (fun i _ => l.length - (intOf i).toNat)
      case atStart => exact ⟨hbl, 0, Nat.zero_le _, rfl, by
        have h := hst.out
        have e : (fun s => hasMark l s && !endedF (l.take 0) s) = hasMark l := funext fun s => by simp [endedF]
        rw [e]
        exact h⟩
      case round =>
        clear hbl hst hkl hki hlt hk
        obtain ⟨hbl, j, hj, rfl, hset⟩ := hrel
        by_cases hlt : j < l.length
        · have hR := hA.bl hbl
          obtain ⟨b, off, rfl, _, hb⟩ := hR.addr (by omega)
          obtain ⟨x, hx⟩ := get_lt hlt
          obtain ⟨_, ho, S, sc, s1, s2, hS, c0, c1, c2, c3, c4⟩ := hR.op hx
          have hki : (j : Int) < (l.length : Int) := by omega
          have htk := hide (fun s => ended_take hx s)
          clear hx
          by_cases hk4 : x.kind = 4
          · have hV : Bl wr (wr.alloc (.cells #[Value.int IntKind.u8 4, Value.int IntKind.u32 x.id.t, Value.int IntKind.u8 x.id.r, Value.slice S x.pl.length sc, Value.int IntKind.i64 x.pt] 47)) := (Bl.refl _).alloc _
            have hla := hide (placeLast S sc x.pl _ (Nat.le_trans s1 s2) (hS.bl hV))
            have hfo := fin_ok hS
            have hm1 := hide (hset.bl hV)
            have hge := hide (fun q => show (hasMark l q && !endedF (l.take (j + 1)) q) = (!decide (q = placeFin x.pl) && (hasMark l q && !endedF (l.take j) q)) by
              rw [htk.out, decide_eq_true hk4, Bool.true_and, show decide (placeFin x.pl = q) = decide (q = placeFin x.pl) from by rw [decide_eq_decide]; exact eq_comm]
              cases hasMark l q <;> cases endedF (l.take j) q <;> cases decide (q = placeFin x.pl) <;> rfl)
            have hblV := hbl.trans hV
            clear htk hset
            generalize placeFin x.pl = f at *
            go_wp2_with fail
            refine hla.out.mono ?_
            rintro e w4 ⟨rfl, hb4⟩
            obtain ⟨w5, hdl, hm5, hg5⟩ := (hm1.out.bl hb4).del (g := fun s => hasMark l s && !endedF (l.take (j + 1)) s) hfo hge.out
            have hbl4 := hblV.trans hb4
            have hbl5 : Bl w w5 := Below.grown hbl4 hg5 hbl4.size (fun j hj => by cases hj; exact Nat.le_refl _)
            have hfin := hide (And.intro hbl5 hm5)
            clear hm5 hg5 hbl5 hm1 hge
            go_wp2
            go_roundw
            case rel => exact ⟨hfin.out.1, j + 1, by omega, by go_num, hfin.out.2⟩
            case measure => simp [intOf]; omega
          · have hfin := hide (show Bl w (wr.alloc (.cells #[Value.int IntKind.u8 x.kind, Value.int IntKind.u32 x.id.t, Value.int IntKind.u8 x.id.r, Value.slice S x.pl.length sc, Value.int IntKind.i64 x.pt] 47)) ∧ IdSet (wr.alloc (.cells #[Value.int IntKind.u8 x.kind, Value.int IntKind.u32 x.id.t, Value.int IntKind.u8 x.id.r, Value.slice S x.pl.length sc, Value.int IntKind.i64 x.pt] 47)) w.heap.size l.length (fun s => hasMark l s && !endedF (l.take (j + 1)) s) from ⟨hbl.alloc _, by
              have h1 := hset.bl ((Bl.refl wr).alloc (.cells #[Value.int IntKind.u8 x.kind, Value.int IntKind.u32 x.id.t, Value.int IntKind.u8 x.id.r, Value.slice S x.pl.length sc, Value.int IntKind.i64 x.pt] 47))
              have e : (fun s => hasMark l s && !endedF (l.take (j + 1)) s) = fun s => hasMark l s && !endedF (l.take j) s := funext fun q => by rw [htk.out, decide_eq_false hk4, Bool.false_and, Bool.or_false]
              rw [e]
              exact h1⟩)
            clear htk hset
            go_wp2
            go_roundw
            case rel => exact ⟨hfin.out.1, j + 1, by omega, by go_num, hfin.out.2⟩
            case measure => simp [intOf]; omega
        · have hkl : j = l.length := by omega
          rw [hkl, List.take_length] at hset
          have hst := hide hset
          clear hset
          replace hkl := hide hkl
          have hki : ¬ (j : Int) < (l.length : Int) := by omega
          go_wp2
          go_ret
          exact ⟨_, rfl, hst.out, hbl, Nat.le_refl _⟩

end Go.Proofs.YteoodmilcpmmpaaGreat
