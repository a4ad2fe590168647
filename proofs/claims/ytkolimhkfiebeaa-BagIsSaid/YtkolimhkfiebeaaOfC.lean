/-
  The walk of clock.Of's closure: a replica's times, sorted and compacted, as spans.
  The walk of clock.Of.
  The walks of the reference of clock.Of: Among, Of; clock.Top and its reference.
  The walks of clock.Top and of its reference.
  The walk of ClockTells, and of law 8's inner function spoil.
  The walk of ClockIs; what the references of layer 8 say: Check, Has, Count.
-/
import Derived.Test.YtkolimhkfiebeaaClkB
import Derived.Test.YtkolimhkfiebeaaSpoil07
import Derived.Test.YtkolimhkfiebeaaEntB
namespace Go.Proofs.Ytkolimhkfiebeaa
open Go.RowKit

theorem snoc_cases {α : Type} (s : List α) : s = [] ∨ ∃ ys y, s = ys ++ [y] := by
  rcases List.eq_nil_or_concat s with h | ⟨ys, y, h⟩
  · exact .inl h
  · exact .inr ⟨ys, y, by rw [h, List.concat_eq_append]⟩

theorem runStep_mem {s : List Span} {t : Int} {x : Span} (h : x ∈ runStep s t) : x.t = t ∨ x ∈ s := by
  rcases snoc_cases s with rfl | ⟨ys, y, rfl⟩
  · rw [runStep_nil, List.mem_singleton] at h
    exact .inl (by rw [h])
  · rw [runStep_snoc] at h
    split at h
    · rcases List.mem_append.1 h with h | h
      · exact .inr (List.mem_append_left _ h)
      · rw [List.mem_singleton] at h
        exact .inl (by rw [h])
    · rcases List.mem_append.1 h with h | h
      · exact .inr h
      · rw [List.mem_singleton] at h
        exact .inl (by rw [h])

theorem runs_mem : ∀ {l : List Int} {s : List Span} {x : Span}, x ∈ l.foldl runStep s → x.t ∈ l ∨ x ∈ s
  | [], _, _, h => .inr h
  | t :: l, s, x, h => by
    rcases runs_mem (l := l) (s := runStep s t) h with h | h
    · exact .inl (List.mem_cons_of_mem _ h)
    · rcases runStep_mem h with h | h
      · exact .inl (by rw [h]; exact List.mem_cons_self ..)
      · exact .inr h

set_option maxRecDepth 100000 in
set_option maxHeartbeats 4000000 in
theorem ofDo (w0 w W : World) (bm box rb n : Nat) (f : Int → Value) (ls : Int → List Int) (hw : OfWhere w0 w bm box rb f ls) (r : Nat) (hr : r < 8) (va vb : Value) (hq : OfQ w0 w bm box rb n f ls r r W) :
    Calls Try.prog 92 #[va, vb, .pointer (some ⟨box, 0, none⟩), .pointer (some ⟨rb, 0, none⟩)] W fun e W' => ∃ A c, e = .returned (.tuple #[.slice A (runsOf (cmp (srt (ls r)))).length c, .int .i64 0]) ∧ (runsOf (cmp (srt (ls r)))).length ≤ c ∧ c ≤ maxLen ∧ R cSpan W.heap.size W' A (runsOf (cmp (srt (ls r)))) ∧ Abv w.heap.size W W' ∧ OfQ w0 w bm box rb n f ls (r + 1) (r + 1) W' := by
  obtain ⟨i0, hi, hz0, hz1, hz2⟩ := info_parts Try.infoSpan
  have hown0 := hq.row r (Int.le_refl _) (by omega)
  obtain ⟨A, c, hv, hR, hlc, hcm⟩ := hown0.reads
  have hlen := hw.len r
  have htm := hw.tm r
  obtain ⟨L, S, T, hL, hT, hTL, hs, hs2, htt⟩ : ∃ L S T, L = (ls r).length ∧ T = cmp (srt (ls r)) ∧ T.length ≤ L ∧
      (Calls Try.prog 93 #[.slice A L c] W fun e w' => e = .returned (.tuple #[]) ∧ R cU32 (box + 1) w' A S ∧ W.grownBy w' (f r).ownBlock) ∧
      (∀ W1, R cU32 (box + 1) W1 A S → Calls Try.prog 94 #[.slice A L c] W1 fun e w' => e = .returned (.slice A T.length c) ∧ R cU32 (box + 1) w' A T ∧ W1.grownBy w' (f r).ownBlock) ∧
      (∀ t ∈ T, 0 ≤ t ∧ t ≤ 1073741824) := by
    refine ⟨_, srt (ls r), _, rfl, rfl, ?_, ?_, ?_, ?_⟩
    · have h1 := cmp_le (srt (ls r))
      rw [srt_len] at h1
      exact h1
    · rw [hv]
      exact sortU2 (box + 1) A c (ls r) W (by omega) hR
    · intro W1 h1
      have h2 := cmpU2 (box + 1) A c (srt (ls r)) W1 (by rw [srt_len]; omega) (by rw [srt_len]; omega) h1
      rw [srt_len] at h2
      rw [hv]
      exact h2
    · exact fun t ht => htm t (srt_mem.1 (cmp_mem1 ht))
  rw [← hT]
  have hTc : T.length ≤ c := by omega
  have hTm : T.length ≤ 1024 := by omega
  clear hT htm hR hTL hlen
  rw [← hL] at hv hlc
  clear hL hlc
  have g1 := hq.map.lookupU (r := r) (by omega) (by omega) 122 (by kernel_rfl)
  rw [hv] at g1
  have hfrh := hide hv
  clear hv
  have c1 := hq.cbox
  have c2 := hq.crb
  have hwh := hide hw
  have hsh := hide hs
  have hqs := hide hq.size
  have hs2h := hide hs2
  have hqh := hide hq
  have htt' := hide htt
  have hTch := hide hTc
  have hTmh := hide hTm
  have hcmh := hide hcm
  clear hq hown0 hw hs hs2 htt hTc hTm hcm
  go_enter Try.func92, Try.ntmps92
  go_wp2_with fail
  refine hsh.out.mono ?_
  rintro e W1 ⟨rfl, hR1, hg1⟩
  have hq1 := hqh.out.written hwh.out (by omega) hg1
  have hab1 := hide (show Abv w.heap.size W W1 from ⟨hg1.size, fun k h1 h2 => hg1.block k h2 fun e => by have := (hwh.out.high r k e.symm).2; have := hwh.out.hrb; omega⟩)
  have hz1 := hide hg1.size
  clear c1 c2 g1 hg1
  have g1 := hq1.map.lookupU (r := r) (by omega) (by omega) 122 (by kernel_rfl)
  have hfr : f r = .slice A L c := hfrh.out
  rw [hfr] at g1
  clear hfr
  have c1 := hq1.cbox
  have c2 := hq1.crb
  have hs3 := hide (hs2h.out W1 hR1)
  have hq1h := hide hq1
  clear hq1 hR1
  go_wp2_with fail
  refine hs3.out.mono ?_
  rintro e W2 ⟨rfl, hR2, hg2⟩
  have hq2 := hide (hq1h.out.written hwh.out (Nat.le_refl _) hg2)
  have hab2 := hide (hab1.out.trans (show Abv w.heap.size W1 W2 from ⟨hg2.size, fun k h1 h2 => hg2.block k h2 fun e => by have := (hwh.out.high r k e.symm).2; have := hwh.out.hrb; omega⟩))
  have hsz2 := hide (Nat.le_trans hz1.out hg2.size)
  clear c1 c2 g1 hg2 hz1 hab1 hs3 hs2h hsh hq1h hqh
  go_wp2_with fail
  go_loopw [6, 20] (fun v i wr => Bl W2 wr ∧ ∃ k : Nat, k ≤ T.length ∧ i = .int .i64 k ∧ Own cSpan 93 W2.heap.size wr v (runsOf (T.take k))) (fun _ i _ => T.length - (intOf i).toNat)
  case atStart => exact ⟨Bl.refl _, 0, Nat.zero_le _, rfl, Own.nil⟩
  case round =>
    obtain ⟨hbl, k, hk, rfl, hown⟩ := hrel
    by_cases hlt : k < T.length
    · have hTm := hTmh.out
      have hRr := hR2.bl hbl
      obtain ⟨b, off, rfl, _, hbb⟩ := hR2.addr (by omega)
      obtain ⟨t, ht⟩ := get_lt hlt
      obtain ⟨_, hto, c0, _⟩ := hRr.u32 ht
      have htr := htt'.out t (List.mem_of_getElem? ht)
      have hst := runs_snoc ht
      have hFl := runs_len (T.take k) []
      rw [List.length_take] at hFl
      have hFm : ∀ x ∈ runsOf (T.take k), 0 ≤ x.t ∧ x.t ≤ 1073741824 := fun x hx => by
        rcases runs_mem hx with h | h
        · exact htt'.out _ (List.mem_of_mem_take h)
        · cases h
      have hFl' : (runsOf (T.take k)).length ≤ k := by
        show (List.foldl runStep [] (T.take k)).length ≤ k
        simp at hFl
        omega
      clear ht hFl
      have hki : (k : Int) < (T.length : Int) := by omega
      generalize runsOf (T.take k) = F at hown hst hFm hFl'
      have hsz := hbl.size
      rcases snoc_cases F with rfl | ⟨ys, x, rfl⟩
      · rw [runStep_nil] at hst
        replace hst := hide hst
        rcases hown.formG with ⟨rfl, -⟩ | ⟨g, cap, rfl, -⟩
        all_goals
          have hown1 := hown.bl ((Bl.refl wr).alloc (.cells #[.int .u32 (t), .int .u32 (t)] 93))
          have hsrc := Own.src (t := 93) (w1 := wr) (cs := [.int .u32 (t), .int .u32 (t)]) (x := ⟨t, t⟩) hown (Bl.refl _) hsz ⟨by refine ⟨?_, ?_, ?_, ?_⟩ <;> dsimp only <;> omega, rfl⟩
          have qa1 : (([] : List Span)).length + [(⟨t, t⟩ : Span)].length ≤ maxLen := by rw [List.length_singleton]; unfold maxLen; omega
          have qa2 : ((([] : List Span)).length + [(⟨t, t⟩ : Span)].length) * 8 ≤ 140737488355328 := by rw [List.length_singleton]; omega
          have qa3 : W2.heap.size ≤ (wr.alloc (.cells #[.int .u32 (t), .int .u32 (t)] 93)).heap.size := by rw [World.size_alloc]; omega
          replace hsrc := hide hsrc
          replace hown1 := hide hown1
          go_wp2_with (at_builtin; refine Hid.out ?_)
          refine hide ?_
          refine wpList_append_any2 (C := cSpan) (xs := ([] : List Span)) (ys := [⟨t, t⟩]) rfl (.tmp 45) (.tmp 49) _ rfl 93 i0 _ 8 Try.underlying94 hi hz0 hz1 hz2 rfl _ W2.heap.size rfl hown1.out (some ⟨wr.heap.size, 0, none⟩) 1 1 rfl rfl hsrc.out qa1 qa2 qa3 ?_
          intro v9 w9 hown9 hg9 hf9
          have hlt9 := hown1.out
          have hb9 : Bl W2 w9 := (hbl.alloc _).app hown1.out (Nat.le_refl _) hg9
          clear hown hown1 hsrc qa1 qa2 qa3 hg9 hf9 hlt9
          go_wp2
          go_roundw
          case rel => exact ⟨hb9, k + 1, by omega, by go_num, by rw [hst.out]; exact hown9⟩
          case measure => simp [intOf]; omega
      · rw [runStep_snoc] at hst
        have hx1 := hFm x (List.mem_append_right _ (List.mem_singleton.2 rfl))
        obtain ⟨A5, c5, hv5, hR5, h51, h52⟩ := hown.reads
        obtain ⟨b5, o5, hA5, hb50, hb51⟩ := hR5.addr (by simp)
        subst hA5
        have hx5 : (ys ++ [x])[ys.length]? = some x := by simp
        obtain ⟨-, -, d0, d1⟩ := hR5.span hx5
        obtain ⟨-, d1', df⟩ := hR5.spanF hx5
        have hown5 := hown
        rw [hv5] at hown5
        rcases hown5.formG with ⟨e5, -⟩ | ⟨g, cap, e5, hg1, hg2, hg3, hg4⟩
        · cases e5
        injection e5 with e5 e6 e7
        injection e5 with e5
        injection e5 with e5 e8 _
        subst e5 e7 e8
        have hset := fun h => Own.setLast (t := t) hown5 rfl h
        rw [Nat.zero_add] at d1' df
        have hM : (ys ++ [x]).length = ys.length + 1 := by simp
        rw [hM] at hv5 hset
        subst hv5
        clear hM hx5 hFm
        have hyl : ys.length + 1 ≤ 1024 := by
          have := hFl'
          rw [List.length_append, List.length_singleton] at this
          omega
        generalize hN : ys.length = N at *
        have f1 : (0 : Int) < (N : Int) + 1 := by omega
        have f2 : IntKind.i64.wrap ((N : Int) + 1 - 1) = (N : Int) := by rw [IntWalk.i64_in _ (by omega)]; omega
        have f6 : IntKind.u32.wrap (x.t + 1) = x.t + 1 := IntWalk.u32_in _ (by omega)
        clear d1 hR5
        by_cases hxt : x.t + 1 = t
        · rw [if_pos hxt] at hst
          replace hst := hide hst
          have hset5 := hide (hset ⟨by omega, by omega⟩)
          have hb9 : Bl W2 (wr.setCell ⟨b5, N * 2 + 1, none⟩ (.int .u32 t)) := hbl.setCell (p := ⟨b5, N * 2 + 1, none⟩) hg1 _
          clear hset hown hown5
          go_wp2
          go_roundw
          case rel => exact ⟨hb9, k + 1, by omega, by go_num, by rw [hst.out]; exact hset5.out⟩
          case measure => simp [intOf]; omega
        · rw [if_neg hxt] at hst
          replace hst := hide hst
          clear hset hown5
          have hown1 := hown.bl ((Bl.refl wr).alloc (.cells #[.int .u32 (t), .int .u32 (t)] 93))
          have hsrc := Own.src (t := 93) (w1 := wr) (cs := [.int .u32 (t), .int .u32 (t)]) (x := ⟨t, t⟩) hown (Bl.refl _) hsz ⟨by refine ⟨?_, ?_, ?_, ?_⟩ <;> dsimp only <;> omega, rfl⟩
          have qa1 : ((ys ++ [x])).length + [(⟨t, t⟩ : Span)].length ≤ maxLen := by rw [List.length_singleton]; unfold maxLen; omega
          have qa2 : (((ys ++ [x])).length + [(⟨t, t⟩ : Span)].length) * 8 ≤ 140737488355328 := by rw [List.length_singleton]; omega
          have qa3 : W2.heap.size ≤ (wr.alloc (.cells #[.int .u32 (t), .int .u32 (t)] 93)).heap.size := by rw [World.size_alloc]; omega
          replace hsrc := hide hsrc
          replace hown1 := hide hown1
          go_wp2_with (at_builtin; refine Hid.out ?_)
          refine hide ?_
          refine wpList_append_any2 (C := cSpan) (xs := (ys ++ [x])) (ys := [⟨t, t⟩]) rfl (.tmp 45) (.tmp 49) _ rfl 93 i0 _ 8 Try.underlying94 hi hz0 hz1 hz2 rfl _ W2.heap.size rfl hown1.out (some ⟨wr.heap.size, 0, none⟩) 1 1 rfl rfl hsrc.out qa1 qa2 qa3 ?_
          intro v9 w9 hown9 hg9 hf9
          have hlt9 := hown1.out
          have hb9 : Bl W2 w9 := (hbl.alloc _).app hown1.out (Nat.le_refl _) hg9
          clear hown hown1 hsrc qa1 qa2 qa3 hg9 hf9 hlt9
          go_wp2
          go_roundw
          case rel => exact ⟨hb9, k + 1, by omega, by go_num, by rw [hst.out]; exact hown9⟩
          case measure => simp [intOf]; omega
    · have hkl : k = T.length := by omega
      subst hkl
      rw [List.take_length] at hown
      have hw' := hwh.out
      have hq3 := hq2.out.still hw' (hbl.mono (Nat.le_trans (hqs.out) hsz2.out))
      have hab3 := hab2.out.trans (Bl.abv hbl)
      have hq4 := hide (hq3.next hw')
      have hsz3 := Nat.le_trans hsz2.out hbl.size
      have hrbl : rb < W2.heap.size := Nat.lt_of_lt_of_le hw'.hrb (Nat.le_trans hqs.out hsz2.out)
      have hown3 := hown.setLow (X := rb) (o := 0) hrbl (.int .u8 ((r : Int) + 1))
      obtain ⟨A6, c6, hv6, hR6, h61, h62⟩ := hown3.reads
      have c2 := hq3.crb
      have f2 := hq3.frb
      have fr : IntKind.u8.wrap ((r : Int) + 1) = (r : Int) + 1 := IntWalk.u8_in _ (by omega)
      have hfin := hide (show (runsOf T).length ≤ c6 ∧ c6 ≤ maxLen ∧ R cSpan W.heap.size (wr.setCell ⟨rb, 0, none⟩ (.int .u8 ((r : Int) + 1))) A6 (runsOf T) ∧ Abv w.heap.size W (wr.setCell ⟨rb, 0, none⟩ (.int .u8 ((r : Int) + 1))) ∧ OfQ w0 w bm box rb n f ls (r + 1) (r + 1) (wr.setCell ⟨rb, 0, none⟩ (.int .u8 ((r : Int) + 1))) from
        ⟨h61, h62, hR6.more hsz2.out, ⟨Nat.le_trans hab3.1 (by simp [World.setCell]), fun k h1 h2 => by
          rw [← hab3.2 k h1 h2]
          exact Below.heap_setCell _ _ _ _ (by have := hw'.hrb; show k ≠ rb; omega)⟩, hq4.out⟩)
      subst hv6
      clear hown hown3 hq3 hab3 hq4 hw' hR6 hab2 hq2 hR2 hTmh hTch h61 h62
      go_wp2
      go_ret2
      exact ⟨A6, c6, rfl, hfin.out⟩
end Go.Proofs.Ytkolimhkfiebeaa

namespace Go.Proofs.Ytkolimhkfiebeaa
open Go.RowKit

def ofN (l : List Id) : Int := if 1024 < l.length then 4 else okOr 8 (idsMay l)

def ofL (l : List Id) : List Times := if 1024 < l.length then [] else if idsMay l then ofC l else []

theorem eachN_zero : ∀ k, eachN (fun _ => (0 : Int)) k = 0
  | 0 => rfl
  | k + 1 => by unfold eachN; rw [eachN_zero k]; rfl

theorem idsMay_take {l : List Id} {k : Nat} {x : Id} (h : l[k]? = some x) : idsMay (l.take (k + 1)) = (idsMay (l.take k) && idMay x) := by
  unfold idsMay
  rw [take_snoc h, List.all_append]
  simp

theorem idsMay_bad {l : List Id} {k : Nat} {x : Id} (h : l[k]? = some x) (hx : idMay x = false) : idsMay l = false := by
  unfold idsMay
  rw [List.all_eq_false]
  exact ⟨x, List.mem_of_getElem? h, by simp [hx]⟩

theorem clockOf1 (box : Nat) (w : World) :
    Calls Try.prog 91 #[.pointer (some ⟨box, 0, none⟩)] w fun e w' => e = .returned (.func (.func 92) #[] #[.pointer (some ⟨box, 0, none⟩), .pointer (some ⟨w.heap.size, 0, none⟩)]) ∧ w' = w.alloc (.cells #[.int .u8 0] 5) := by
  go_enter Try.func91, Try.ntmps91
  go_wp2_with fail
  go_ret
  exact ⟨rfl, rfl⟩

/-- What stands after a number was appended to one of the slices. -/
theorem of_arm {W1 : World} {bm n box xb : Nat} {f : Int → Value} {v : Value} {x : Id} {O : Obj} (hm : MapAt W1 bm n f) (hbm : bm < box) (hbx : box < xb) (hxb : xb < W1.heap.size) (b0 : W1.cell? ⟨box, 0, none⟩ = some (.map (some bm)))
    (x0 : W1.cell? ⟨xb, 0, none⟩ = some (.int .u32 x.t)) (x1 : W1.cell? ⟨xb, 1, none⟩ = some (.int .u8 x.r)) (hv : ∀ b, v.ownBlock = some b → box < b ∧ b < xb) (hr : 0 ≤ x.r ∧ x.r < 256) (hn : n < maxLen) :
    ∀ v9 w9, (W1.alloc O).drew.grownBy w9 v.ownBlock → MapAt w9 bm n f ∧ ∃ w10, (Instr.mapUpdate 122 (.map (some bm)) (.int .u8 x.r) v9).run Try.prog w9 = .ok () w10 ∧ MapAt w10 bm (n + 1) (fun q => if q = x.r then v9 else f q) ∧ w9.grownBy w10 (some bm) ∧
      w9.cell? ⟨box, 0, none⟩ = some (.map (some bm)) ∧ w9.cell? ⟨xb, 0, none⟩ = some (.int .u32 x.t) ∧ w9.cell? ⟨xb, 1, none⟩ = some (.int .u8 x.r) ∧
      w10.cell? ⟨box, 0, none⟩ = some (.map (some bm)) ∧ w10.cell? ⟨xb, 0, none⟩ = some (.int .u32 x.t) ∧ w10.cell? ⟨xb, 1, none⟩ = some (.int .u8 x.r) := by
  intro v9 w9 hg
  have hB : Bl W1 (W1.alloc O).drew := ((Bl.refl W1).alloc O).drew
  have hm9 : MapAt w9 bm n f := (hm.bl hB).grown hg fun e => by have := hv bm e.symm; omega
  obtain ⟨w10, hup, hm10, hg10⟩ := hm9.putU (v := v9) hr.1 hr.2 hn 122 (by kernel_rfl)
  have hc : ∀ k o, k < W1.heap.size → (k = box ∨ k = xb) → w9.cell? ⟨k, o, none⟩ = W1.cell? ⟨k, o, none⟩ ∧ w10.cell? ⟨k, o, none⟩ = W1.cell? ⟨k, o, none⟩ := fun k o h1 h2 => by
    have e1 : w9.cell? ⟨k, o, none⟩ = W1.cell? ⟨k, o, none⟩ := (grown_far hg (fun e => by have := hv k e; omega) (Nat.lt_of_lt_of_le h1 hB.size)).trans (hB.cell (b := k) (o := o) h1)
    refine ⟨e1, (World.cell?_of_block (a := ⟨k, o, none⟩) (hg10.block k (Nat.lt_of_lt_of_le h1 (Nat.le_trans hB.size hg.size)) fun e => ?_)).trans e1⟩
    injection e with e
    omega
  exact ⟨hm9, w10, hup, hm10, hg10, (hc _ _ (by omega) (.inl rfl)).1.trans b0, (hc _ _ hxb (.inr rfl)).1.trans x0, (hc _ _ hxb (.inr rfl)).1.trans x1, (hc _ _ (by omega) (.inl rfl)).2.trans b0, (hc _ _ hxb (.inr rfl)).2.trans x0, (hc _ _ hxb (.inr rfl)).2.trans x1⟩

theorem of_next {lo bm n k : Nat} {W w9 w10 : World} {tmp : Obj} {f : Int → Value} {l : List Id} {x : Id} {v v9 : Value} {xs : List Int} (h : OwnT lo W bm n f (fun r => timesOf r (l.take k))) (hfv : f x.r = v) (htx : timesOf x.r (l.take k) = xs)
    (hsn : ∀ r, timesOf r (l.take (k + 1)) = if r = x.r then timesOf r (l.take k) ++ [x.t] else timesOf r (l.take k)) (hv : Own cU32 31 lo w9 v9 (xs ++ [x.t])) (hg : (W.alloc tmp).grownBy w9 v.ownBlock) (hf : Far (W.alloc tmp) v w9 v9)
    (hm : MapAt w10 bm (n + 1) (fun q => if q = x.r then v9 else f q)) (hg2 : w9.grownBy w10 (some bm)) (hm9 : MapAt w9 bm n f) : OwnT lo w10 bm (n + 1) (fun q => if q = x.r then v9 else f q) (fun r => timesOf r (l.take (k + 1))) := by
  subst hfv htx
  have h1 := h.step hv hg hf hm hg2 hm9
  have e : (fun r => timesOf r (l.take (k + 1))) = fun q => if q = x.r then timesOf x.r (l.take k) ++ [x.t] else timesOf q (l.take k) := funext fun r => by
    rw [hsn]
    by_cases hr : r = x.r
    · subst hr
      rw [if_pos rfl]
    · rw [if_neg hr]
      exact (if_neg hr).symm
  rw [e]
  exact h1

theorem idMay_t {x : Id} (h : idMay x = true) : 0 ≤ x.t ∧ x.t ≤ 1073741824 := by
  unfold idMay at h
  simp only [Bool.and_eq_true, decide_eq_true_eq] at h
  omega

theorem of_each {w wr : World} {n : Nat} {f : Int → Value} {l : List Id} (hbl : Bl w wr) (cb : wr.cell? ⟨w.heap.size + 1, 0, none⟩ = some (.map (some w.heap.size))) (hT : OwnT (w.heap.size + 2) wr w.heap.size n f (fun r => timesOf r l)) (hmay : idsMay l = true) (hl : l.length ≤ 1024) :
    Calls Try.prog 70 #[.slice none 0 0, .slice none 0 0, .func (.func 92) #[] #[.pointer (some ⟨w.heap.size + 1, 0, none⟩), .pointer (some ⟨wr.heap.size, 0, none⟩)]] (wr.alloc (.cells #[.int .u8 0] 5)) fun e w' =>
      ∃ A c, e = .returned (.tuple #[.slice A (ofC l).length c, .int .i64 0]) ∧ (ofC l).length ≤ c ∧ c ≤ maxLen ∧ R cTimes w.heap.size w' A (ofC l) ∧ Bl w w' := by
  have hB : Bl wr (wr.alloc (.cells #[.int .u8 0] 5)) := (Bl.refl wr).alloc _
  have hsb := World.block_lt_of_cell? wr _ cb
  have hwh : OfWhere w (wr.alloc (.cells #[.int .u8 0] 5)) w.heap.size (w.heap.size + 1) wr.heap.size f (fun r => timesOf r l) :=
    ⟨Nat.le_refl _, Nat.lt_succ_self _, hsb, by rw [World.size_alloc]; omega, hT.sep, fun s b h => by have := (hT.row s).lt h; omega, fun s => Nat.le_trans (timesOf_len s l) hl, fun s t ht => by
      obtain ⟨x, hx, _, rfl⟩ := times_mem.1 ht
      exact idMay_t (List.all_eq_true.1 hmay x hx)⟩
  have hnew := At.new wr [.int .u8 0] 5 0 _ rfl
  have hq : OfQ w (wr.alloc (.cells #[.int .u8 0] 5)) w.heap.size (w.heap.size + 1) wr.heap.size n f (fun r => timesOf r l) 0 0 (wr.alloc (.cells #[.int .u8 0] 5)) :=
    ⟨Nat.le_refl _, hbl.alloc _, (hB.cell hsb).trans cb, hnew.1, hnew.2, hT.map.bl hB, fun s _ _ => (hT.row s).bl hB⟩
  refine (clockEach (fun r W => OfQ w (wr.alloc (.cells #[.int .u8 0] 5)) w.heap.size (w.heap.size + 1) wr.heap.size n f (fun r => timesOf r l) r r W) (ofR l) (fun _ => 0) 92 #[.pointer (some ⟨w.heap.size + 1, 0, none⟩), .pointer (some ⟨wr.heap.size, 0, none⟩)] (enters_of Try.func92 (by kernel_rfl) rfl)
    none none 0 0 [] [] (wr.alloc (.cells #[.int .u8 0] 5)) (Nat.zero_le _) (Nat.zero_le _) R.nil R.nil rfl rfl (fun r W W' h1 h2 => h2.still hwh h1) hq (fun r fm fn W hr _ _ _ h => ofDo w _ W w.heap.size (w.heap.size + 1) wr.heap.size n f (fun r => timesOf r l) hwh r hr (fm r) (fn r) h)).mono ?_
  rintro e w' ⟨A, c, rfl, h1, h2, h3, r, h4⟩
  rw [eachN_zero] at *
  have e : outL (ofR l) (fun _ => 0) = ofC l := by
    unfold outL
    rw [eachN_zero]
    rfl
  rw [e] at *
  exact ⟨A, c, rfl, h1, h2, h3.more (Nat.le_trans hbl.size hB.size), h4.old⟩

set_option maxRecDepth 100000 in
set_option maxHeartbeats 4000000 in
theorem clockOf (A : Option Addr) (c : Nat) (l : List Id) (w : World) (_hl : l.length ≤ maxLen) (hA : R cId 0 w A l) :
    Calls Try.prog 34 #[.slice A l.length c] w (New2 cTimes (ofL l) (ofN l) w) := by
  obtain ⟨i0, hi, hz0, hz1, hz2⟩ := info_parts Try.infoU32
  have hmk : ∀ V : World, (Instr.makeMap 122 none).run Try.prog V = .ok (.map (some V.heap.size)) (V.alloc (.map #[] 0)) := fun _ => rfl
  by_cases hbig : 1024 < l.length
  · have e1 : ofL l = [] := by unfold ofL; rw [if_pos hbig]
    have e2 : ofN l = 4 := by unfold ofN; rw [if_pos hbig]
    rw [e1, e2]
    have hbi : (1024 : Int) < (l.length : Int) := by omega
    clear e1 e2
    go_enter Try.func34, Try.ntmps34
    go_wp2_with fail
    go_ret2
    exact ⟨none, 0, rfl, Nat.le_refl _, Nat.zero_le _, R.nil, Bl.refl _⟩
  · have hbi : ¬ (1024 : Int) < (l.length : Int) := by omega
    have hlL : ofL l = if idsMay l then ofC l else [] := by unfold ofL; rw [if_neg hbig]
    have hlN : ofN l = okOr 8 (idsMay l) := by unfold ofN; rw [if_neg hbig]
    obtain ⟨LL, hLL⟩ : ∃ LL, LL = ofL l := ⟨_, rfl⟩
    obtain ⟨NN, hNN⟩ : ∃ NN, NN = ofN l := ⟨_, rfl⟩
    rw [← hLL, ← hNN]
    rw [← hLL] at hlL
    rw [← hNN] at hlN
    replace hlL := hide hlL
    replace hlN := hide hlN
    have hlh := hide (show l.length ≤ 1024 by omega)
    clear hLL hNN hbig
    go_enter Try.func34, Try.ntmps34
    go_wp2_with fail
    go_loopw [14] (fun i wr => Bl w wr ∧ ∃ (k n : Nat) (f : Int → Value), k ≤ l.length ∧ n ≤ k ∧ i = .int .i64 k ∧ wr.cell? ⟨w.heap.size + 1, 0, none⟩ = some (.map (some w.heap.size)) ∧ OwnT (w.heap.size + 2) wr w.heap.size n f (fun r => timesOf r (l.take k)) ∧ idsMay (l.take k) = true) (fun i _ => l.length - (intOf i).toNat)
    case atStart =>
      have h1 := (At.new (w.alloc (.map #[] 0)) [.map (some w.heap.size)] 122 0 _ rfl).1
      rw [World.size_alloc w] at h1
      exact ⟨((Bl.refl w).alloc _).alloc _, 0, 0, _, Nat.zero_le _, Nat.zero_le _, rfl, h1, OwnT.bl (OwnT.made (w.heap.size + 2) w) ((Bl.refl _).alloc _), rfl⟩
    case round =>
      obtain ⟨hbl, k, n, f, hk, hn, rfl, cb, hT, hmay⟩ := hrel
      by_cases hlt : k < l.length
      · have hR := hA.bl hbl
        obtain ⟨b, off, rfl, _, hb⟩ := hR.addr (by omega)
        obtain ⟨x, hx⟩ := get_lt hlt
        obtain ⟨_, hxo, c0, c1⟩ := hR.id hx
        have hki : (k : Int) < (l.length : Int) := by omega
        have hst := hide (stampCheck x)
        have hmt := idsMay_take hx
        rw [hmay, Bool.true_and] at hmt
        have hbad := hide (idsMay_bad hx)
        have hsn := hide (fun r => times_snoc hx r)
        have at0 := IdBox.new wr x 36
        go_wp2_with fail
        refine (hst.out _).mono ?_
        rintro e w1 ⟨rfl, hb1⟩
        cases hm : idMay x
        · have e1 := hlL.out
          have e2 := hlN.out
          rw [hbad.out hm] at e1 e2
          clear hlL hlN
          subst e1 e2
          rw [okOr_false]
          have hb2 : Bl w w1 := (hbl.alloc _).trans hb1
          go_wp2_with fail
          go_ret2
          exact ⟨none, 0, rfl, Nat.le_refl _, Nat.zero_le _, R.nil, hb2⟩
        · rw [okOr_true]
          rw [hm] at hmt
          have hbx : Bl wr w1 := ((Bl.refl wr).alloc _).trans hb1
          obtain ⟨x0, x1, -, -⟩ := at0.bl hb1
          have hbl1 := hbl.trans hbx
          have hsb := World.block_lt_of_cell? wr _ cb
          have b0 := (hbx.cell hsb).trans cb
          have hT1 := hT.bl hbx
          have hsx : wr.heap.size < w1.heap.size := World.block_lt_of_cell? w1 _ x0
          have hsb1 : w.heap.size + 1 < w1.heap.size := Nat.lt_of_lt_of_le hsb hbx.size
          have hr0 : 0 ≤ x.r ∧ x.r < 256 := hxo.2.2
          have ht0 : 0 ≤ x.t ∧ x.t < 4294967296 := ⟨hxo.1, hxo.2.1⟩
          have g1 := hT1.map.lookupU hr0.1 hr0.2 122 (by kernel_rfl)
          have g2 := (hT1.bl ((Bl.refl w1).alloc (.cells #[.int .u32 x.t] 31))).map.lookupU hr0.1 hr0.2 122 (by kernel_rfl)
          have g3 := (hT1.bl (Bl.refl w1).drew).map.lookupU hr0.1 hr0.2 122 (by kernel_rfl)
          have g4 := (hT1.bl ((Bl.refl w1).alloc (.cells #[.int .u32 x.t] 31)).drew).map.lookupU hr0.1 hr0.2 122 (by kernel_rfl)
          have hrow := hT1.row x.r
          have htl : (timesOf x.r (l.take k)).length ≤ 1024 := by
            have h1 := timesOf_len x.r (l.take k)
            rw [List.length_take] at h1
            have h2 := hlh.out
            omega
          have hsrc := hide (hrow.src (t := 31) (cs := [Value.int IntKind.u32 x.t]) (x := x.t) (Bl.refl _) (by omega) ⟨ht0, rfl⟩)
          have qa1 : (timesOf x.r (l.take k)).length + [x.t].length ≤ maxLen := by rw [List.length_singleton]; unfold maxLen; omega
          have qa2 : ((timesOf x.r (l.take k)).length + [x.t].length) * 4 ≤ 140737488355328 := by rw [List.length_singleton]; omega
          have hne := fun b => (hT.row x.r).lt (b := b)
          clear c0 c1 hx at0 hb1 hR hb hm hbl hT hmay hbad hst cb
          generalize htx : timesOf x.r (l.take k) = xs at *
          generalize hfv : f x.r = v at *
          replace htx := hide htx
          replace hfv := hide hfv
          have arm := hide (of_arm (O := .cells #[.int .u32 x.t] 31) hT1.map (Nat.lt_succ_self _) hsb hsx b0 x0 x1 (fun b e => by have := hne b e; omega) hr0 (by have := hlh.out; unfold maxLen; omega))
          go_upto_region 10 with fail
          go_region_held3 (fun W' => W'.cell? ⟨w.heap.size + 1, 0, none⟩ = some (.map (some w.heap.size)) ∧ W'.cell? ⟨wr.heap.size, 0, none⟩ = some (.int .u32 x.t) ∧ W'.cell? ⟨wr.heap.size, 1, none⟩ = some (.int .u8 x.r))
            (first | exact ⟨b0, x0, x1⟩ | exact ⟨k0, k1, k2⟩ | exact ⟨j0, j1, j2⟩ | go_keep)
            ((refine step_append_any2 (C := cU32) (xs := xs) (ys := [x.t]) rfl (.tmp 29) (.tmp 32) _ rfl 31 i0 _ 4 Try.underlying124 hi hz0 hz1 hz2 rfl _ (w.heap.size + 2) rfl (hrow.bl ((Bl.refl _).alloc _).drew) (some ⟨w1.heap.size, 0, none⟩) 1 _ rfl rfl hsrc.out qa1 qa2 (by simp; omega) ?_; intro v9 w9 hown9 hg9 hf9
              obtain ⟨hm9, w10, hup, hm10, hg10, k0, k1, k2, j0, j1, j2⟩ := arm.out v9 w9 hg9))
          all_goals
            have hb9 : Bl w w9 := ((hbl1.alloc _).drew).app (hrow.bl ((Bl.refl _).alloc _).drew) (by omega) hg9
            have hb10 : Bl w w10 := Below.grown hb9 hg10 hb9.size fun j hj => by cases hj; exact Nat.le_refl _
            have hT10 := of_next (l := l) (k := k) (tmp := .cells #[.int .u32 x.t] 31) (hT1.bl (Bl.refl w1).drew) hfv.out htx.out hsn.out hown9 hg9 hf9 hm10 hg10 hm9
            clear hb9 hown9 hg9 hf9 hm9 hup hm10 hg10 k0 k1 k2 j1 j2 arm hne hrow hsrc qa1 qa2 g1 g2 g3 g4 hT1 b0 x0 x1
            go_wp2
            go_roundw
            case rel => exact ⟨hb10, k + 1, n + 1, _, by omega, by omega, by go_num, j0, hT10, hmt⟩
            case measure => simp [intOf]; omega
      · have hkl : k = l.length := by omega
        subst hkl
        rw [List.take_length] at hT hmay
        have e1 := hlL.out
        have e2 := hlN.out
        rw [hmay] at e1 e2
        have e3 : LL = ofC l := e1
        have e4 : NN = 0 := e2
        have hcall := hide (of_each hbl cb hT hmay hlh.out)
        clear e1 e2 hlL hlN hT hmay hA hmk hi hz0 hz1 hz2
        subst e4
        generalize ofC l = C at *
        subst e3
        go_wp2_with fail
        refine (clockOf1 (w.heap.size + 1) wr).mono ?_
        rintro e w1 ⟨rfl, rfl⟩
        go_wp2_with fail
        refine hcall.out.mono ?_
        rintro e w2 ⟨A', c', rfl, h1, h2, h3, h4⟩
        go_wp2_with fail
        go_ret2
        exact ⟨A', c', rfl, h1, h2, h3, h4⟩
end Go.Proofs.Ytkolimhkfiebeaa

namespace Go.Proofs.Ytkolimhkfiebeaa
open Go.RowKit

theorem ofC_snoc {l : List Id} {x : Id} (h : idsMay (l ++ [x]) = true) : eachL (fun r : Nat => bothF (firstOf (ofC l) r) (firstOf (oneT x) r)) 8 = ofC (l ++ [x]) := by
  unfold ofC
  exact eachL_congr 8 fun r hr => by rw [show firstOf (eachL (ofR l) 8) r = ofR l r from first_ofC l r hr]; exact ofR_snoc h r

theorem ofC_nil : ofC [] = [] := by
  have h : ∀ r, ofR [] r = [] := fun r => by
    unfold ofR
    rw [show timesOf r [] = [] from rfl, show srt [] = [] by unfold srt; simp, cmp_nil]
    rfl
  have e : ∀ k, eachL (ofR []) k = [] := fun k => by
    induction k with
    | zero => rfl
    | succ k ih =>
      unfold eachL
      rw [ih, h]
      rfl
  exact e 8

theorem idsMay_pre {l : List Id} (h : idsMay l = true) (k : Nat) : idsMay (l.take k) = true := List.all_eq_true.2 fun x hx => List.all_eq_true.1 h x (List.mem_of_mem_take hx)

theorem idsMay_get {l : List Id} {k : Nat} {x : Id} (h : idsMay l = true) (hx : l[k]? = some x) : idMay x = true := List.all_eq_true.1 h x (List.mem_of_getElem? hx)

set_option maxRecDepth 100000 in
set_option maxHeartbeats 1000000 in
theorem refAmong08 (A : Option Addr) (c : Nat) (l : List Id) (w : World) (hl : l.length ≤ 1024) (hmay : idsMay l = true) (hA : R cId 0 w A l) :
    Calls Try.prog 106 #[.slice A l.length c] w (New cTimes (ofC l) w) := by
  have hms := hide hmay
  clear hmay
  go_enter Try.func106, Try.ntmps106
  go_wp2
  go_loopw [3, 4] (fun v i wr => Bl w wr ∧ ∃ (k : Nat) (A' : Option Addr) (c' : Nat), k ≤ l.length ∧ i = .int .i64 k ∧ v = .slice A' (ofC (l.take k)).length c' ∧ (ofC (l.take k)).length ≤ c' ∧ c' ≤ maxLen ∧ R cTimes w.heap.size wr A' (ofC (l.take k))) (fun _ i _ => l.length - (intOf i).toNat)
  case atStart => exact ⟨Bl.refl _, 0, none, 0, Nat.zero_le _, rfl, by rw [List.take_zero, ofC_nil]; rfl, by rw [List.take_zero, ofC_nil]; exact Nat.le_refl _, Nat.zero_le _, by rw [List.take_zero, ofC_nil]; exact R.nil⟩
  case round =>
    obtain ⟨hbl, k, A', c', hk, rfl, rfl, p1, p2, hC⟩ := hrel
    by_cases hlt : k < l.length
    · have hR := hA.bl hbl
      obtain ⟨b, off, rfl, _, hb⟩ := hR.addr (by omega)
      obtain ⟨x, hx⟩ := get_lt hlt
      obtain ⟨_, hxo, c0, c1⟩ := hR.id hx
      have hki : (k : Int) < (l.length : Int) := by omega
      have hm1 := idsMay_pre hms.out (k + 1)
      have hm0 := idsMay_pre hms.out k
      have hmx := idsMay_get hms.out hx
      rw [take_snoc hx] at hm1
      have hst := hide (show ofC (l.take (k + 1)) = eachL (fun r : Nat => bothF (firstOf (ofC (l.take k)) r) (firstOf (oneT x) r)) 8 by rw [take_snoc hx, ofC_snoc hm1])
      have hC0 : clockMay (ofC (l.take k)) = true := ofC_may hm0 (by rw [List.length_take]; omega)
      have hfit := fit_may hC0 ((one_may hxo).trans hmx)
      have h1 := hide (refOne08 x wr hxo)
      have h2 := hide fun B d V (hb : Bl wr V) (hB : R cTimes 0 V B (oneT x)) => refBoth08 A' B c' d (ofC (l.take k)) (oneT x) V (Nat.le_trans p1 p2) (by simp [oneT, maxLen]) hfit (hC.zero.bl hb) hB
      clear hx hm1 hm0 hmx hC0 hfit p1 p2 hC
      generalize eachOk (fun r => bothF (firstOf (ofC (l.take k)) r) (firstOf (oneT x) r)) 8 = q at *
      generalize eachL (fun r => bothF (firstOf (ofC (l.take k)) r) (firstOf (oneT x) r)) 8 = L at *
      generalize ofC (l.take k) = F at *
      generalize oneT x = O at *
      go_wp2_with fail
      refine h1.out.mono ?_
      rintro e w1 ⟨B, d, rfl, q1, q2, hB, hb1⟩
      go_wp2_with fail
      refine (h2.out B d _ hb1 hB.zero).mono ?_
      rintro e w2 ⟨X, y, rfl, y1, y2, hX, hb2⟩
      have hb02 := hbl.trans (hb1.trans hb2)
      have hs01 := (hbl.trans hb1).size
      go_wp2_with fail
      go_roundw
      case rel => exact ⟨hb02, k + 1, X, y, by omega, by go_num, by rw [hst.out], by rw [hst.out]; exact y1, y2, by rw [hst.out]; exact hX.more hs01⟩
      case measure => simp [intOf]; omega
    · have hkl : k = l.length := by omega
      subst hkl
      rw [List.take_length] at hC p1 ⊢
      generalize ofC l = F at *
      have hki : ¬ ((l.length : Int) < (l.length : Int)) := by omega
      go_wp2_with fail
      go_ret
      exact ⟨A', c', rfl, p1, p2, hC, hbl⟩

end Go.Proofs.Ytkolimhkfiebeaa


namespace Go.Proofs.Ytkolimhkfiebeaa
open Go.RowKit

/-! ### Plain -/

def lastT (l : List Span) : Int := match l.getLast? with
  | some x => x.t
  | none => 0

def topS (n : Int) (l : List Span) : Int := l.foldl (fun n x => max n x.t) n

def topT (n : Int) (l : List Times) : Int := l.foldl (fun n x => topS n x.s) n

def clockTopF (l : List Times) : Int := if clockMay l then topT 0 l else 0

theorem topS_le : ∀ (l : List Span) (n m : Int), n ≤ m → (∀ x ∈ l, x.t ≤ m) → topS n l ≤ m
  | [], n, m, h, _ => h
  | x :: l, n, m, h, hl => topS_le l (max n x.t) m (by have := hl x (List.mem_cons_self ..); omega) fun y hy => hl y (List.mem_cons_of_mem _ hy)

theorem topS_ge : ∀ (l : List Span) (n : Int), n ≤ topS n l
  | [], n => Int.le_refl _
  | x :: l, n => by
    have := topS_ge l (max n x.t)
    show n ≤ topS (max n x.t) l
    omega

theorem topS_last {l : List Span} {a n : Int} (h : Can a l) (h0 : 0 < l.length) : topS n l = max n (lastT l) := by
  rcases List.eq_nil_or_concat l with rfl | ⟨ys, x, rfl⟩
  · cases h0
  · rw [List.concat_eq_append] at *
    obtain ⟨k1, k2, k3, k4⟩ := Can.init h
    have e : lastT (ys ++ [x]) = x.t := by
      unfold lastT
      rw [List.getLast?_append]
      rfl
    rw [e]
    unfold topS
    rw [List.foldl_append]
    show max (topS n ys) x.t = max n x.t
    have h1 := topS_le ys n (max n x.t) (by omega) fun y hy => by
      have := k4 y hy
      omega
    have h2 := topS_ge ys n
    omega

theorem topS_take {l : List Span} {j : Nat} {x : Span} (h : l[j]? = some x) (n : Int) : topS n (l.take (j + 1)) = max (topS n (l.take j)) x.t := by
  unfold topS
  rw [take_snoc h, List.foldl_append]
  rfl

theorem topT_take {l : List Times} {k : Nat} {x : Times} (h : l[k]? = some x) (n : Int) : topT n (l.take (k + 1)) = topS (topT n (l.take k)) x.s := by
  unfold topT
  rw [take_snoc h, List.foldl_append]
  rfl

/-! ### Walks -/

set_option maxRecDepth 100000 in
set_option maxHeartbeats 1000000 in
theorem clockTop (A : Option Addr) (c : Nat) (l : List Times) (w : World) (hl : l.length ≤ maxLen) (hA : R cTimes 0 w A l) :
    Calls Try.prog 20 #[.slice A l.length c] w fun e w' => e = .returned (.int .u32 (clockTopF l)) ∧ Bl w w' := by
  have hchk := clockCheck A c l w hl hA
  cases hm : clockMay l
  · have e1 : clockTopF l = 0 := by unfold clockTopF; rw [hm]; rfl
    rw [e1]
    rw [hm, okOr_false] at hchk
    replace hchk := hide hchk
    clear e1 hm
    go_enter Try.func20, Try.ntmps20
    go_wp2_with fail
    refine hchk.out.mono ?_
    rintro e w1 ⟨rfl, hb⟩
    go_wp2_with fail
    go_ret
    exact ⟨rfl, hb⟩
  · have e1 : clockTopF l = topT 0 l := by unfold clockTopF; rw [hm]; rfl
    have hlen : l.length ≤ 8 := clockMay_length hm
    have hlow := hide (from_low (last := -1) (show clockFrom (-1) l = true from hm))
    have hall := hide (clockFrom_all _ (show clockFrom (-1) l = true from hm))
    rw [hm, okOr_true] at hchk
    replace hchk := hide hchk
    obtain ⟨T, hT⟩ : ∃ T, T = clockTopF l := ⟨_, rfl⟩
    rw [← hT]
    rw [← hT] at e1
    replace e1 := hide e1
    clear hm hT
    go_enter Try.func20, Try.ntmps20
    go_wp2_with fail
    refine hchk.out.mono ?_
    rintro e w1 ⟨rfl, hb⟩
    go_wp2_with fail
    go_loopw [2, 10] (fun n i wr => Bl w wr ∧ ∃ (k : Nat) (s : Int), k ≤ l.length ∧ i = .int .i64 k ∧ n = .int .u32 s ∧ 0 ≤ s ∧ s ≤ 1073741824 ∧ Hid (topT 0 (l.take k) = s)) (fun _ i _ => l.length - (intOf i).toNat)
    case atStart => exact ⟨hb, 0, 0, Nat.zero_le _, rfl, rfl, by omega, by omega, rfl⟩
    case round =>
      obtain ⟨hbl, k, s, hk, rfl, rfl, hs0, hs1, hf⟩ := hrel
      by_cases hlt : k < l.length
      · have hR := hA.bl hbl
        obtain ⟨b, off, rfl, _, hb⟩ := hR.addr (by omega)
        obtain ⟨x, hx⟩ := get_lt hlt
        obtain ⟨_, ho, B, d, hcd, hdm, c0, c1, hB⟩ := hR.times hx
        have hst := hide (topT_take hx 0)
        obtain ⟨m1, m2, m3⟩ := may_can (hall.out x (List.mem_of_getElem? hx))
        have hn1 := (hlow.out x (List.mem_of_getElem? hx)).2.2
        have hsl := topS_last (n := s) m1 (by omega)
        have hki : (k : Int) < (l.length : Int) := by omega
        obtain ⟨A1, o1, rfl, -, hbw⟩ := hB.addr (by omega)
        obtain ⟨y, hy⟩ := get_lt (show x.s.length - 1 < x.s.length by omega)
        have hyl : lastT x.s = y.t := by
          unfold lastT
          rw [List.getLast?_eq_getElem?, hy]
        have hyt := m2 y (List.mem_of_getElem? hy)
        obtain ⟨-, yo, d0, d1⟩ := hB.span hy
        have hyo := yo.2.2.1
        rw [hyl] at hsl
        replace hsl := hide hsl
        clear hx hy m1 m2 hyl yo
        obtain ⟨N, hN⟩ : ∃ N, x.s.length = N + 1 := ⟨x.s.length - 1, by omega⟩
        have hN1 : x.s.length - 1 = N := by omega
        rw [hN1] at d0 d1
        rw [hN] at c1 m3 hcd
        clear hN hN1 hn1 hB
        have f2 : IntKind.i64.wrap ((N : Int) + 1 - 1) = (N : Int) := by rw [IntWalk.i64_in _ (by omega)]; omega
        have d1' := ((Bl.refl wr).alloc (.cells #[Value.int IntKind.u8 x.r, Value.slice (some ⟨A1, o1, none⟩) (N + 1) d] 96)).cell hbw |>.trans d1
        go_wp2_with fail
        go_roundw
        case rel => exact ⟨hbl.alloc _, k + 1, max s y.t, by omega, by go_num, rfl, by omega, by omega, by rw [Hid, hst.out, hf.out, hsl.out]⟩
        case measure => simp [intOf]; omega
      · have hkl : k = l.length := by omega
        subst hkl
        rw [List.take_length] at hf
        have e2 : T = s := e1.out.trans hf.out
        clear hf e1
        subst e2
        have hki : ¬ ((l.length : Int) < (l.length : Int)) := by omega
        go_wp2_with fail
        go_ret
        exact ⟨rfl, hbl⟩

end Go.Proofs.Ytkolimhkfiebeaa


namespace Go.Proofs.Ytkolimhkfiebeaa
open Go.RowKit

theorem R.timesF {lo : Nat} {w : World} {b off k : Nat} {l : List Times} {x : Times} (h : R cTimes lo w (some ⟨b, off, none⟩) l) (hk : l[k]? = some x) :
    ∃ A c, R cSpan lo w A x.s ∧ x.s.length ≤ c ∧ c ≤ maxLen ∧ w.cell? ⟨b, off + k * 2 + 1, none⟩ = some (.slice A x.s.length c) := by
  obtain ⟨h1, m, ⟨ho, A, c, a1, a2, rfl, hr⟩, ha⟩ := R.get h hk
  exact ⟨A, c, hr, a1, a2, (ha 1 _ rfl).1⟩

theorem sameSelf08 (l : List Times) {A B : Option Addr} {c d : Nat} {w : World} (hl : l.length ≤ maxLen) (hA : R cTimes 0 w A l) (hB : R cTimes 0 w B l) :
    Calls Try.prog 47 #[.slice A l.length c, .slice B l.length d] w fun e w' => e = .returned (.bool true) ∧ Bl w w' := by
  have h := refSame08 A B c d l l w hl hl hA hB
  rw [show same l l = true by unfold same; simp] at h
  exact h

theorem rcL_len (f : List Span → List Span → List Span) (a b : List Times) : (rcL f a b).length ≤ 8 := by
  unfold rcL
  split
  · split
    · exact eachL_len _ 8
    · exact Nat.zero_le _
  · exact Nat.zero_le _

theorem few.small {l : List Times} (h : few l) : smallC l := ⟨by have := h.1; omega, fun x hx => by have := h.2 x hx; omega⟩

end Go.Proofs.Ytkolimhkfiebeaa


namespace Go.Proofs.Ytkolimhkfiebeaa
open Go.RowKit

theorem ofL_len (l : List Id) : (ofL l).length ≤ 8 := by
  unfold ofL
  split
  · exact Nat.zero_le _
  · split
    · exact eachL_len _ 8
    · exact Nat.zero_le _

theorem clockIds_len (l : List Times) : (clockIds l).length ≤ 1024 := by
  unfold clockIds
  split
  · rename_i h
    split
    · rename_i h2
      have := clockAll_length l (clockFrom_all _ (show clockFrom (-1) l = true from h))
      omega
    · exact Nat.zero_le _
  · exact Nat.zero_le _

theorem sameIdsSelf (l : List Id) {A B : Option Addr} {c d : Nat} {w : World} (hl : l.length ≤ maxLen) (hA : R cId 0 w A l) (hB : R cId 0 w B l) :
    Calls Try.prog 31 #[.slice A l.length c, .slice B l.length d] w fun e w' => e = .returned (.bool true) ∧ Bl w w' := by
  have h := refSameIds A B c d l l w hl hl hA hB
  rw [show same l l = true by unfold same; simp] at h
  exact h

theorem clockSameSelf (l : List Times) {A B : Option Addr} {c d : Nat} {w : World} (hl : l.length ≤ maxLen) (hA : R cTimes 0 w A l) (hB : R cTimes 0 w B l) :
    Calls Try.prog 18 #[.slice A l.length c, .slice B l.length d] w fun e w' => e = .returned (.bool true) ∧ Bl w w' := by
  have h := clockSame A B c d l l w hl hl hA hB
  rw [show same l l = true by unfold same; simp] at h
  exact h

end Go.Proofs.Ytkolimhkfiebeaa
