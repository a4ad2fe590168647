/-
  The walk of view.Elements.
-/
import Derived.Test.YtkolimhkfiebeaaSome
import Derived.Test.YtkolimhkfiebeaaElem
import Derived.Test.YtkolimhkfiebeaaBagB
namespace Go.Proofs.Ytkolimhkfiebeaa
open Go.RowKit

/-- Which stamps are gone. -/
def goneN (c : List Op) (s : Id) : Int := if goneF c s then 1 else 0

theorem gone_take {c : List Op} {k : Nat} {x : Op} (h : c[k]? = some x) (s : Id) : goneF (c.take (k + 1)) s = (goneF (c.take k) s || (decide (x.kind = 3) && decide (placeFin x.pl = s))) := by
  unfold goneF
  rw [take_snoc h, List.any_append]
  simp

theorem gone_put {c : List Op} {k : Nat} {x : Op} (h : c[k]? = some x) (e : x.kind = 3) (s : Id) : goneN (c.take (k + 1)) s = if s = placeFin x.pl then 1 else goneN (c.take k) s := by
  unfold goneN
  rw [gone_take h, decide_eq_true e, Bool.true_and]
  by_cases e2 : s = placeFin x.pl
  · subst e2
    simp
  · have e3 : ¬ placeFin x.pl = s := fun h => e2 h.symm
    simp [e2, e3]

theorem gone_same {c : List Op} {k : Nat} {x : Op} (h : c[k]? = some x) (e : x.kind ≠ 3) : goneN (c.take (k + 1)) = goneN (c.take k) := funext fun s => by
  unfold goneN
  rw [gone_take h, decide_eq_false e, Bool.false_and, Bool.or_false]

/-- What is seen of a section; nothing, if it is none. -/
def viewL (l : List Op) (s : Id) : List Op := if whereN l s 0 = 0 then elemsL l s else []

theorem cnt_sub {l : List Op} {s : Id} {x : Op} (h : x ∈ cntL l s) : x ∈ l := by
  unfold cntL at h
  split at h
  · exact count_sub h
  · cases h

theorem cnt_len (l : List Op) (s : Id) : (cntL l s).length ≤ l.length := by
  unfold cntL
  split
  · exact Nat.le_trans (List.length_filter_le _ _) (List.length_filter_le _ _)
  · simp

theorem view_sorted {l : List Op} {s : Id} {ys : List Op} (h : whereN l s 0 = 0) (hp : ys.Perm (shownL (cntL l s))) (hs : ys.Pairwise fun a b => ¬ cmpIds (plAll b.pl) (plAll a.pl) < 0) : ys = viewL l s := by
  have hb := (where_zero h).1
  unfold viewL elemsL seenL
  unfold cntL at hp
  rw [if_pos h] at hp ⊢
  exact sorted_fold (shown_mk hb) (shown_ids hb) hp hs

/-- A row of the call's own, from base on, whose elements' lists stand from lo on. -/
def OwnC {α : Type} (C : Codec α) (e : TypeId) (lo base : Nat) (w : World) (v : Value) (xs : List α) : Prop := Own C e lo w v xs ∧ ∀ b, v.ownBlock = some b → base ≤ b

section

variable {α : Type} {C : Codec α} {e : TypeId} {lo base : Nat} {w w' : World} {v v' : Value} {xs ys : List α} {x : α}

theorem OwnC.nil : OwnC C e lo base w (.slice none 0 0) [] := ⟨Own.nil, fun b h => by cases h⟩

theorem OwnC.bl (h : OwnC C e lo base w v xs) (hb : Bl w w') : OwnC C e lo base w' v xs := ⟨h.1.bl hb, h.2⟩

theorem OwnC.app {a b c : World} (h : Bl a b) (ho : OwnC C e lo base b v xs) (hb : a.heap.size ≤ base) (hg : b.grownBy c v.ownBlock) : Bl a c := Below.grown h hg h.size (fun k hk => Nat.le_trans hb (ho.2 k hk))

theorem OwnC.next (ho : OwnC C e lo base w v xs) (hb : base ≤ w.heap.size) (h2 : Own C e lo w' v' ys) (hf : Far w v w' v') : OwnC C e lo base w' v' ys :=
  ⟨h2, fun b hb2 => Nat.le_of_not_lt fun hlt => (hf.2 b (Nat.lt_of_lt_of_le hlt hb) (fun e => by have := ho.2 b e; omega)).2 hb2⟩

theorem OwnC.src {w0 : World} {cs : List Value} {t : TypeId} (ho : OwnC C e lo base w v xs) (hb : Bl w0 w) (hbase : w0.heap.size ≤ base) (h : C.rd w0 (Fresh lo w0) x cs) :
    ∃ news, RdL C (w.alloc (.cells cs.toArray t)) (fun b => (lo ≤ b ∧ b < (w.alloc (.cells cs.toArray t)).heap.size) ∧ v.ownBlock ≠ some b) [x] news ∧ (∀ ad, some (⟨w.heap.size, 0, none⟩ : Addr) = some ad → ∀ (j : Nat) (u : Value), news[j]? = some u → (w.alloc (.cells cs.toArray t)).cell? (ad.add j) = some u) ∧ (some (⟨w.heap.size, 0, none⟩ : Addr) = none → [x] = []) := by
  refine ⟨cs, RdL.one1 (C.keep (((hb.alloc _)).keeps fun b h => h.2) (fun b h => ⟨⟨h.1, Nat.lt_of_lt_of_le h.2 (hb.alloc _).size⟩, fun e => ?_⟩) h), fun ad e j u hu => ?_, fun e => by cases e⟩
  · have := ho.2 b e
    have := h.2
    omega
  cases e
  have hadd : (⟨w.heap.size, 0, none⟩ : Addr).add j = ⟨w.heap.size, j, none⟩ := by
    unfold Addr.add
    split
    · rename_i h0; subst h0; rfl
    · simp
  rw [hadd, cell_of_row _ w.heap.size j cs.toArray t (0, 0) (heap_alloc_new w _)]
  simpa using hu

end

set_option maxRecDepth 100000 in
set_option maxHeartbeats 8000000 in
theorem viewElements (A : Option Addr) (c : Nat) (l : List Op) (s : Id) (w : World) (hl : l.length ≤ 1048576) (hA : R cOp 0 w A l) :
    Calls Try.prog 153 #[.slice A l.length c, .agg #[.int .u32 s.t, .int .u8 s.r]] w (New2 cEl (viewL l s) (whereN l s 0) w) := by
  have hmkm : ∀ V : World, (Instr.makeMap 214 none).run Try.prog V = .ok (.map (some V.heap.size)) (V.alloc (.map #[] 0)) := fun _ => rfl
  have hb0 : Bl w (w.alloc (.cells #[Value.int IntKind.u32 s.t, Value.int IntKind.u8 s.r] 36)) := (Bl.refl _).alloc _
  have hco := hide (coverCounts A c l s _ hl (hA.bl hb0))
  obtain ⟨L, hL⟩ : ∃ L, L = viewL l s := ⟨_, rfl⟩
  rw [← hL]
  by_cases hN : whereN l s 0 = 0
  rotate_left
  · have e1 : L = [] := by rw [hL]; unfold viewL; rw [if_neg hN]
    subst e1
    have hNz : (whereN l s 0 == 0) = false := by rw [beq_eq_false_iff_ne]; exact hN
    generalize whereN l s 0 = N at *
    generalize cntL l s = C at *
    clear hL
    go_enter Try.func153, Try.ntmps153
    go_wp2_with fail
    refine hco.out.mono ?_
    rintro e w1 ⟨B, d, rfl, q1, q2, hB, hb1⟩
    go_wp2_with fail
    go_ret2
    exact ⟨none, 0, rfl, Nat.le_refl _, Nat.zero_le _, R.nil, hb0.trans hb1⟩
  have hbm := (where_zero hN).1
  have hsrt := hide fun (ys : List Op) (hp : ys.Perm (shownL (cntL l s))) (hs : ys.Pairwise fun a b => ¬ cmpIds (plAll b.pl) (plAll a.pl) < 0) => (view_sorted hN hp hs).trans hL.symm
  have hmk := hide (show ∀ x ∈ shownL (cntL l s), Mk x by unfold cntL; rw [if_pos hN]; exact shown_mk hbm)
  have hcl : (cntL l s).length ≤ 1048576 := Nat.le_trans (cnt_len l s) hl
  rw [hN] at hco ⊢
  clear hN hbm hL
  generalize cntL l s = C at *
  obtain ⟨i0, hi, hz0, hz1, hz2⟩ := info_parts Try.infoEl
  go_enter Try.func153, Try.ntmps153
  go_wp2_with fail
  refine hco.out.mono ?_
  rintro e w1 ⟨B, d, rfl, d1, d2, hB, hb1⟩
  clear hco
  have hB0 := hB
  replace hB := hB.zero
  have hbw1 := hb0.trans hb1
  go_wp2_with fail
  go_loopw [24] (fun i wr => Bl w1 wr ∧ ∃ k : Nat, k ≤ C.length ∧ i = .int .i64 k ∧ IdInt wr w1.heap.size k (goneN (C.take k))) (fun i _ => C.length - (intOf i).toNat)
  case atStart => exact ⟨(Bl.refl _).alloc _, 0, Nat.zero_le _, rfl, IdInt.made w1⟩
  case round =>
    obtain ⟨hbl, k, hk, rfl, hset⟩ := hrel
    by_cases hlt : k < C.length
    · have hR := hB.bl hbl
      obtain ⟨b, off, rfl, _, hb⟩ := hR.addr (by omega)
      obtain ⟨x, hx⟩ := get_lt hlt
      obtain ⟨_, ho, S, sc, s1, s2, hS, c0, c1, c2, c3, c4⟩ := hR.op hx
      have hki : (k : Int) < (C.length : Int) := by omega
      by_cases hk3 : x.kind = 3
      · have hV : Bl wr (wr.alloc (.cells #[Value.int IntKind.u8 3, Value.int IntKind.u32 x.id.t, Value.int IntKind.u8 x.id.r, Value.slice S x.pl.length sc, Value.int IntKind.i64 x.pt] 68)) := (Bl.refl _).alloc _
        have hla := hide (placeLast S sc x.pl _ (Nat.le_trans s1 s2) (hS.bl hV))
        have hfo := fin_ok hS
        have hm1 := hide (hset.bl hV)
        have hge := hide (gone_put hx hk3)
        have hblV := hbl.trans hV
        clear hx hset
        generalize placeFin x.pl = f at *
        go_wp2_with fail
        refine hla.out.mono ?_
        rintro e w4 ⟨rfl, hb4⟩
        obtain ⟨w5, hup, hm5, hg5⟩ := (hm1.out.bl hb4).put (g := goneN (C.take (k + 1))) hfo (by unfold maxLen; omega) hge.out
        have hbl4 := hblV.trans hb4
        have hbl5 : Bl w1 w5 := Below.grown hbl4 hg5 hbl4.size (fun j hj => by cases hj; exact Nat.le_refl _)
        have hfin := hide (And.intro hbl5 hm5)
        clear hm5 hg5 hbl5 hm1 hge
        go_wp2
        go_roundw
        case rel => exact ⟨hfin.out.1, k + 1, by omega, by go_num, hfin.out.2⟩
        case measure => simp [intOf]; omega
      · have hfin := hide (show Bl w1 (wr.alloc (.cells #[Value.int IntKind.u8 x.kind, Value.int IntKind.u32 x.id.t, Value.int IntKind.u8 x.id.r, Value.slice S x.pl.length sc, Value.int IntKind.i64 x.pt] 68)) ∧ IdInt (wr.alloc (.cells #[Value.int IntKind.u8 x.kind, Value.int IntKind.u32 x.id.t, Value.int IntKind.u8 x.id.r, Value.slice S x.pl.length sc, Value.int IntKind.i64 x.pt] 68)) w1.heap.size (k + 1) (goneN (C.take (k + 1))) from ⟨hbl.alloc _, by
          have h1 := (hset.bl ((Bl.refl wr).alloc (.cells #[Value.int IntKind.u8 x.kind, Value.int IntKind.u32 x.id.t, Value.int IntKind.u8 x.id.r, Value.slice S x.pl.length sc, Value.int IntKind.i64 x.pt] 68))).mono (Nat.le_succ k)
          rw [gone_same hx hk3]
          exact h1⟩)
        have hk3b : (x.kind == 3) = false := by simp [hk3]
        clear hset hx hk3
        go_wp2
        go_roundw
        case rel => exact ⟨hfin.out.1, k + 1, by omega, by go_num, hfin.out.2⟩
        case measure => simp [intOf]; omega
    · have hkl : k = C.length := by omega
      rw [hkl, List.take_length] at hset
      have hset := hide hset
      replace hkl := hide hkl
      have hki : ¬ (k : Int) < (C.length : Int) := by omega
      obtain ⟨w2, rfl⟩ : ∃ w2, w2 = wr := ⟨_, rfl⟩
      have hb12 := hbw1.trans hbl
      go_wp2_with fail
      have hB2 := hB0.bl hbl
      have hbw2 := hbw1.trans hbl
      have hwm : w1.heap.size < w2.heap.size := hset.out.lt
      go_loopw [4, 38] (fun v i wr => Bl w2 wr ∧ ∃ k : Nat, k ≤ C.length ∧ i = .int .i64 k ∧ OwnC cEl 146 w.heap.size w2.heap.size wr v ((C.take k).filter fun o => decide (o.kind = 1) && !goneF C o.id)) (fun _ i _ => C.length - (intOf i).toNat)
      case atStart => exact ⟨Bl.refl _, 0, Nat.zero_le _, rfl, OwnC.nil⟩
      case round =>
        clear hkl hlt hki hk hbl hb12
        obtain ⟨hbl, k, hk, rfl, hown⟩ := hrel
        by_cases hlt : k < C.length
        · obtain ⟨b, off, rfl, _, hb⟩ := hB2.addr (by omega)
          obtain ⟨x, hx⟩ := get_lt hlt
          obtain ⟨hbb, ho, S, sc, s1, s2, hS, a0, a1, a2, a3, a4⟩ := hB2.op hx
          have c0 := (hbl.cell hbb.2).trans a0
          have c1 := (hbl.cell hbb.2).trans a1
          have c2 := (hbl.cell hbb.2).trans a2
          have c3 := (hbl.cell hbb.2).trans a3
          have c4 := (hbl.cell hbb.2).trans a4
          clear a0 a1 a2 a3 a4
          have hki : (k : Int) < (C.length : Int) := by omega
          have htk := marked_take hx (fun o => decide (o.kind = 1) && !goneF C o.id)
          have hV : Bl wr (wr.alloc (.cells #[Value.int IntKind.u8 x.kind, Value.int IntKind.u32 x.id.t, Value.int IntKind.u8 x.id.r, Value.slice S x.pl.length sc, Value.int IntKind.i64 x.pt] 68)) := (Bl.refl _).alloc _
          have hlook := hset.out.look (s := x.id) ho.2.1 _ (hbl.trans hV)
          have hlen : ((C.take k).filter fun o => decide (o.kind = 1) && !goneF C o.id).length ≤ 1048576 := by
            have h1 := List.length_filter_le (fun o => decide (o.kind = 1) && !goneF C o.id) (C.take k)
            rw [List.length_take] at h1
            omega
          have hV2 := hown.bl hV
          have hbV := hbl.trans hV
          have hszV := hbV.size
          have hsrcV := fun (t : TypeId) => hV2.src (t := t) (x := x) (cs := elCells x S sc) hbV (Nat.le_refl _) ⟨ho, S, sc, s1, s2, rfl, hS.more hb0.size⟩
          unfold goneN at hlook
          by_cases h1 : x.kind = 1
          · have e1 : (x.kind == 1) = true := by simp [h1]
            rw [decide_eq_true h1, Bool.true_and] at htk
            cases hq : goneF C x.id
            · rw [hq] at hlook htk
              rw [if_neg (by simp)] at hlook
              rw [if_pos (by rfl)] at htk
              replace htk := hide htk
              have hsrc := hide (hsrcV 146)
              generalize ((C.take k).filter fun o => decide (o.kind = 1) && !goneF C o.id) = F at *
              replace hV2 := hide hV2
              replace h1 := hide h1
              have q1 : F.length + [x].length ≤ maxLen := by rw [List.length_singleton]; unfold maxLen; omega
              have q2 : (F.length + [x].length) * 40 ≤ 140737488355328 := by rw [List.length_singleton]; omega
              clear hq hown hx hsrcV hS
              obtain ⟨V, hVe⟩ : ∃ V, V = wr.alloc (.cells #[Value.int IntKind.u8 x.kind, Value.int IntKind.u32 x.id.t, Value.int IntKind.u8 x.id.r, Value.slice S x.pl.length sc, Value.int IntKind.i64 x.pt] 68) := ⟨_, rfl⟩
              rw [← hVe] at hV2 hbV hszV hsrc hV
              have hVs : V.heap.size = wr.heap.size + 1 := by rw [hVe, World.size_alloc]
              rw [hVs] at hsrc
              replace hVe := hide hVe
              go_wp2_with (at_builtin; refine Hid.out ?_)
              rw [← hVe.out]
              refine hide ?_
              have hown5 := hV2.out.bl ((Bl.refl V).alloc (.cells #[Value.int IntKind.u32 x.id.t, Value.int IntKind.u8 x.id.r, Value.slice S x.pl.length sc, Value.int IntKind.i64 x.pt] 146))
              have q3 : w.heap.size ≤ (V.alloc (.cells #[Value.int IntKind.u32 x.id.t, Value.int IntKind.u8 x.id.r, Value.slice S x.pl.length sc, Value.int IntKind.i64 x.pt] 146)).heap.size := by rw [World.size_alloc]; have := hbw2.size; omega
              have q4 : w2.heap.size ≤ (V.alloc (.cells #[Value.int IntKind.u32 x.id.t, Value.int IntKind.u8 x.id.r, Value.slice S x.pl.length sc, Value.int IntKind.i64 x.pt] 146)).heap.size := by rw [World.size_alloc]; omega
              refine wpList_append_any2 (C := cEl) (xs := F) (ys := [x]) rfl (.tmp 52) (.tmp 60) _ rfl 146 i0 _ 40 Try.underlying180 hi hz0 hz1 hz2 rfl _ w.heap.size rfl hown5.1 (some ⟨wr.heap.size + 1, 0, none⟩) 1 1 rfl rfl hsrc.out q1 q2 q3 ?_
              intro v9 w9 hown9 hg9 hf9
              have hb9 : Bl w2 w9 := OwnC.app (hbV.alloc _) hown5 (Nat.le_refl _) hg9
              have hn9 := hide (hown5.next q4 hown9 hf9)
              clear hown5 hsrc q1 q2 q3 q4 hg9 hf9 hown9
              go_wp2_with fail
              go_roundw
              case rel => exact ⟨hb9, k + 1, by omega, by go_num, by rw [htk.out]; exact hn9.out⟩
              case measure => simp [intOf]; omega
            · rw [hq] at hlook htk
              rw [if_pos rfl] at hlook
              rw [if_neg (by simp)] at htk
              replace htk := hide htk
              have hfin := hide (And.intro hbV hV2)
              replace h1 := hide h1
              clear hq hown hx hV2 hsrcV hS
              go_wp2
              go_roundw
              case rel => exact ⟨hfin.out.1, k + 1, by omega, by go_num, by rw [htk.out]; exact hfin.out.2⟩
              case measure => simp [intOf]; omega
          · have e1 : (x.kind == 1) = false := by simp [h1]
            rw [decide_eq_false h1, Bool.false_and, if_neg (by simp)] at htk
            replace htk := hide htk
            have hfin := hide (And.intro hbV hV2)
            replace h1 := hide h1
            clear hlook hown hx hV2 hsrcV hS
            go_wp2
            go_roundw
            case rel => exact ⟨hfin.out.1, k + 1, by omega, by go_num, by rw [htk.out]; exact hfin.out.2⟩
            case measure => simp [intOf]; omega
        · have hkl : k = C.length := by omega
          subst hkl
          rw [List.take_length] at hown
          have hms : (shownL C).length ≤ 1048576 := Nat.le_trans (List.length_filter_le _ _) hcl
          have hso := hide (elemSort (base := w.heap.size) (xs := shownL C) hmk.out hown.1 hms (Nat.le_trans hbw1.size (Nat.le_trans (Nat.le_of_lt hwm) hbl.size)))
          have hki : ¬ ((C.length : Int) < (C.length : Int)) := by omega
          clear hown
          go_wp2_with fail
          refine hso.out.mono ?_
          rintro e w5 ⟨rfl, X, x, ys, hvx, x1, x2, hper, hpw, hX, hb5⟩
          subst hvx
          have hye := hsrt.out ys hper hpw
          have hle := hper.length_eq
          rw [hye] at hle hX
          clear hper hpw hso
          rw [← hle] at x1 ⊢
          clear hle hms
          go_wp2_with fail
          go_ret2
          exact ⟨X, x, rfl, x1, x2, hX, (hbw2.trans hbl).step hb5⟩
end Go.Proofs.Ytkolimhkfiebeaa
