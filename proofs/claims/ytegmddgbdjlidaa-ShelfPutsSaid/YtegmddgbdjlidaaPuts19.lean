/-
  The walk of the law ShelfPuts.
-/
import Derived.Test.YtegmddgbdjlidaaPlain19
import Derived.Test.YtegmddgbdjlidaaIs19
namespace Go.Proofs.Ytegmddgbdjlidaa
open Go.RowKit

/-- What is found. -/
theorem find_put {l : List Entry} {x : Entry} (h : putN l x = 0) : findE (putL l x) x.id = x ∧ findB (putL l x) x.id = true := by
  obtain ⟨h1, h2, h3⟩ := put_may h
  rw [put_with h]
  unfold findE findB
  have he : entOf (withL l x) x.id = some x := by rw [ent_with h1, if_pos rfl]
  rw [h3, he]
  exact ⟨rfl, rfl⟩
theorem find_other {l : List Entry} {x : Entry} {s : Id} (h : putN l x = 0) (hs : s ≠ x.id) : findE (putL l x) s = findE l s ∧ findB (putL l x) s = findB l s := by
  obtain ⟨h1, h2, h3⟩ := put_may h
  rw [put_with h]
  unfold findE findB
  rw [h3, h1, ent_with h1, if_neg hs]
  exact ⟨rfl, rfl⟩
theorem drop_put {l : List Entry} {x : Entry} (h : putN l x = 0) : dropN (putL l x) x.id = 0 ∧ dropL (putL l x) x.id = outL l x.id ∧ shelfMay (outL l x.id) = true ∧ findB (outL l x.id) x.id = false ∧ (outL l x.id).length + 1 = (putL l x).length := by
  obtain ⟨h1, h2, h3⟩ := put_may h
  have h4 : dropN (putL l x) x.id = 0 := by
    have he : entOf (withL l x) x.id = some x := by rw [ent_with h1, if_pos rfl]
    rw [drop_n, put_with h, h3, he]; rfl
  refine ⟨h4, ?_, may_out x.id h1, ?_, ?_⟩
  · rw [drop_out h4, put_with h, (out_with h1).1]
  · unfold findB
    rw [ent_out, Option.isSome_none, Bool.and_false]
  · rw [put_with h]
    exact (out_with h1).2
theorem drop_old {l : List Entry} {x : Entry} (h : putN l x = 0) : (dropN l x.id = 0 ∧ dropL l x.id = outL l x.id) ∨ (dropN l x.id = 190 ∧ outL l x.id = l) := by
  obtain ⟨h1, h2, h3⟩ := put_may h
  cases he : entOf l x.id with
  | none =>
    right
    exact ⟨by rw [drop_n, h1, he]; rfl, out_absent he⟩
  | some y =>
    left
    have h4 : dropN l x.id = 0 := by rw [drop_n, h1, he]; rfl
    exact ⟨h4, drop_out h4⟩
theorem put_bad {l : List Entry} {x : Entry} (h : putN l x ≠ 0) : putL l x = [] := by unfold putL; rw [if_neg h]

set_option maxRecDepth 100000 in
set_option maxHeartbeats 4000000 in
theorem shelfPuts19 (l : List Entry) (x : Entry) (s : Id) (A S G : Option Addr) (c sc gc : Nat) (w : World) (hl : l.length ≤ 140737488355328) (hql : QShelf l) (hA : R cEntry 0 w A l)
    (hxo : x.ok) (hH : Held w x S sc G gc) (hs : s.ok) :
    Calls Try.prog 11 #[.slice A l.length c, .agg #[.int .u32 x.id.t, .int .u8 x.id.r, .bool x.ready, .bool x.pin, .int .i64 x.used, .bool x.known, .slice S x.snap.length sc, .slice G x.got.length gc], .agg #[.int .u32 s.t, .int .u8 s.r]] w fun e w' => e = .returned (.bool true) ∧ Bl w w' := by
  have hql := hide hql
  go_enter Try.func11, Try.ntmps11
  go_upto_region 1 with fail
  have hV0 : Bl w ((w.alloc (.cells #[Value.int IntKind.u32 x.id.t, Value.int IntKind.u8 x.id.r, Value.bool x.ready, Value.bool x.pin, Value.int IntKind.i64 x.used, Value.bool x.known, Value.slice S x.snap.length sc, Value.slice G x.got.length gc] 31)).alloc (.cells #[Value.int IntKind.u32 s.t, Value.int IntKind.u8 s.r] 25)) := ((Bl.refl _).alloc _).alloc _
  have at0 : EntAt ((w.alloc (.cells #[Value.int IntKind.u32 x.id.t, Value.int IntKind.u8 x.id.r, Value.bool x.ready, Value.bool x.pin, Value.int IntKind.i64 x.used, Value.bool x.known, Value.slice S x.snap.length sc, Value.slice G x.got.length gc] 31)).alloc (.cells #[Value.int IntKind.u32 s.t, Value.int IntKind.u8 s.r] 25)) w.heap.size x S sc G gc := (EntAt.new w x S sc G gc _).bl ((Bl.refl _).alloc _)
  have atS : IdAt ((w.alloc (.cells #[Value.int IntKind.u32 x.id.t, Value.int IntKind.u8 x.id.r, Value.bool x.ready, Value.bool x.pin, Value.int IntKind.i64 x.used, Value.bool x.known, Value.slice S x.snap.length sc, Value.slice G x.got.length gc] 31)).alloc (.cells #[Value.int IntKind.u32 s.t, Value.int IntKind.u8 s.r] 25)) (w.heap.size + 1) s := by
    have := IdAt.new (w.alloc (.cells #[Value.int IntKind.u32 x.id.t, Value.int IntKind.u8 x.id.r, Value.bool x.ready, Value.bool x.pin, Value.int IntKind.i64 x.used, Value.bool x.known, Value.slice S x.snap.length sc, Value.slice G x.got.length gc] 31)) s
    rwa [World.size_alloc] at this
  generalize (w.alloc (.cells #[Value.int IntKind.u32 x.id.t, Value.int IntKind.u8 x.id.r, Value.bool x.ready, Value.bool x.pin, Value.int IntKind.i64 x.used, Value.bool x.known, Value.slice S x.snap.length sc, Value.slice G x.got.length gc] 31)).alloc (.cells #[Value.int IntKind.u32 s.t, Value.int IntKind.u8 s.r] 25) = V at *
  go_wp2_with fail
  refine (alive19 _).mono ?_
  rintro e w1 ⟨rfl, hb1⟩
  have hw1 := hV0.trans hb1
  go_wp2_with fail
  refine (refGreat19 A c l _ hl hql.out (hA.bl hw1)).mono ?_
  rintro e w2 ⟨b1, rfl, hfewl, hb2⟩
  replace hfewl := hide hfewl
  have hb02 := hb1.trans hb2
  have hw2 := hV0.trans hb02
  obtain ⟨x0, x1, x2, x3, x4, x5, x6, x7⟩ := (at0.bl hb02).cells
  cases b1
  rotate_left
  · go_wp2_with fail
    go_ret
    exact ⟨rfl, hw2⟩
  by_cases hg : 300 < x.got.length
  · go_wp2_with fail
    go_ret
    exact ⟨rfl, hw2⟩
  have hal : l.length ≤ 80 := (hfewl.out (by first | rfl | trivial)).1
  clear hfewl hql
  go_wp2_with fail
  clear x0 x1 x2 x3 x4 x5 x6 x7
  have hput := shelfPut A c l x S G sc gc w2 (by omega) (hA.bl hw2) hxo (hH.bl hw2)
  by_cases hN : putN l x = 0
  rotate_left
  · rw [put_bad hN] at hput
    generalize putN l x = N at *
    refine hput.mono ?_
    rintro e w3 ⟨A3, c3, rfl, -, -, -, hb3⟩
    go_wp2_with fail
    go_ret
    exact ⟨rfl, hw2.trans hb3⟩
  rw [hN] at hput
  obtain ⟨hf1, hf2⟩ := find_put hN
  obtain ⟨hd1, hd2, hd3, hd4, hd5⟩ := drop_put hN
  have hmay := (put_may hN).2.2
  rw [← put_with hN] at hmay
  have hdo := drop_old hN
  have hfo := fun h => find_other (s := s) hN h
  have hL1l : (putL l x).length ≤ 1000000 := by
    have := List.length_filter_le (fun y => !decide (y.id = x.id)) l
    rw [← hd5]; unfold outL; omega
  have hfind := fun A c W h => shelfFind A c (putL l x) x.id W (by omega) hxo.1 h
  rw [hf1, hf2] at hfind
  have hfinds := fun A c W h => shelfFind A c (putL l x) s W (by omega) hs h
  have hfindl := fun W (hb : Bl w W) => shelfFind A c l s W (by omega) hs (hA.bl hb)
  have hchk1 := fun A c W h => shelfCheck A c (putL l x) W (by unfold maxLen; omega) h
  rw [hmay, okOr_true] at hchk1
  have hdr1 := fun A c W h => shelfDrop A c (putL l x) x.id W (by omega) hxo.1 h
  rw [hd1, hd2] at hdr1
  have hdr0 := fun W (hb : Bl w W) => shelfDrop A c l x.id W (by omega) hxo.1 (hA.bl hb)
  have hL2l : (outL l x.id).length ≤ 1000000 := by omega
  have hfindb := fun A c W h => shelfFind A c (outL l x.id) x.id W (by omega) hxo.1 h
  rw [hd4] at hfindb
  have hchk2 := fun A c W h => shelfCheck A c (outL l x.id) W (by unfold maxLen; omega) h
  rw [hd3, okOr_true] at hchk2
  have hok1 : ∀ y ∈ putL l x, y.ok := fun y hy => by
    rw [put_with hN] at hy
    rcases with_entry hy with rfl | hy
    · exact hxo
    · exact hA.oks y hy
  clear hf1 hf2 hd1 hd2 hd3 hd4 hmay hN
  generalize putL l x = L1 at *
  generalize outL l x.id = L2 at *
  generalize findE L2 x.id = fz at *
  replace hfo := hide hfo
  replace hdo := hide hdo
  replace hfind := hide hfind
  replace hfindl := hide hfindl
  replace hchk1 := hide hchk1
  replace hchk2 := hide hchk2
  replace hdr1 := hide hdr1
  replace hdr0 := hide hdr0
  replace hfindb := hide hfindb
  refine hput.mono ?_
  rintro e w3 ⟨A3, c3, rfl, -, -, hr3, hb3⟩
  have hw3 := hw2.trans hb3
  have h03 := hb02.trans hb3
  have hr3' := hr3.zero
  clear hput
  obtain ⟨x0, x1, -, -, -, -, -, -⟩ := (at0.bl h03).cells
  go_wp2_with fail
  clear x0 x1
  refine (hfind.out A3 c3 _ hr3').mono ?_
  rintro e w4 ⟨A4, c4, B4, d4, rfl, l1, l2, l3, l4, hS4, hG4, hb4⟩
  have hx4 : Held w4 x A4 c4 B4 d4 := ⟨l1, l2, l3, l4, hS4.zero, hG4.zero⟩
  clear l1 l2 l3 l4 hS4 hG4
  have hh04 := h03.trans hb4
  obtain ⟨y0, y1, -, -⟩ := atS.bl hh04
  have hltS := (atS.bl hh04).lt
  go_wp2_with fail
  clear y0 y1
  have at4 : ∀ V, Bl (w4.alloc (.cells #[Value.int IntKind.u32 x.id.t, Value.int IntKind.u8 x.id.r, Value.bool x.ready, Value.bool x.pin, Value.int IntKind.i64 x.used, Value.bool x.known, Value.slice A4 x.snap.length c4, Value.slice B4 x.got.length d4] 31)) V → EntAt V w4.heap.size x A4 c4 B4 d4 := fun V hb => (EntAt.new w4 x A4 c4 B4 d4 _).bl hb
  have hV4 : Bl w4 (w4.alloc (.cells #[Value.int IntKind.u32 x.id.t, Value.int IntKind.u8 x.id.r, Value.bool x.ready, Value.bool x.pin, Value.int IntKind.i64 x.used, Value.bool x.known, Value.slice A4 x.snap.length c4, Value.slice B4 x.got.length d4] 31)) := (Bl.refl _).alloc _
  have hsz4 : (w4.alloc (.cells #[Value.int IntKind.u32 x.id.t, Value.int IntKind.u8 x.id.r, Value.bool x.ready, Value.bool x.pin, Value.int IntKind.i64 x.used, Value.bool x.known, Value.slice A4 x.snap.length c4, Value.slice B4 x.got.length d4] 31)).heap.size = w4.heap.size + 1 := World.size_alloc _ _
  replace at4 := hide at4
  generalize w4.alloc (.cells #[Value.int IntKind.u32 x.id.t, Value.int IntKind.u8 x.id.r, Value.bool x.ready, Value.bool x.pin, Value.int IntKind.i64 x.used, Value.bool x.known, Value.slice A4 x.snap.length c4, Value.slice B4 x.got.length d4] 31) = V4 at *
  have h3V := hb4.trans hV4
  have hwV4 := hw3.trans h3V
  have h0V := hh04.trans hV4
  refine (hfindl.out _ hwV4).mono ?_
  generalize findE l s = fe at *
  generalize findB l s = fb at *
  rintro e w5 ⟨A5, c5, B5, d5, rfl, l1, l2, l3, l4, hS5, hG5, hb5⟩
  have hx5 : Held w5 fe A5 c5 B5 d5 := ⟨l1, l2, l3, l4, hS5.zero, hG5.zero⟩
  clear l1 l2 l3 l4 hS5 hG5
  have h05 := h0V.trans hb5
  obtain ⟨y0, y1, -, -⟩ := atS.bl h05
  have hltS5 := (atS.bl h05).lt
  go_wp2_with fail
  clear y0 y1
  have at5 : ∀ V, Bl (w5.alloc (.cells #[Value.int IntKind.u32 fe.id.t, Value.int IntKind.u8 fe.id.r, Value.bool fe.ready, Value.bool fe.pin, Value.int IntKind.i64 fe.used, Value.bool fe.known, Value.slice A5 fe.snap.length c5, Value.slice B5 fe.got.length d5] 31)) V → EntAt V w5.heap.size fe A5 c5 B5 d5 := fun V hb => (EntAt.new w5 fe A5 c5 B5 d5 _).bl hb
  have hV5 : Bl w5 (w5.alloc (.cells #[Value.int IntKind.u32 fe.id.t, Value.int IntKind.u8 fe.id.r, Value.bool fe.ready, Value.bool fe.pin, Value.int IntKind.i64 fe.used, Value.bool fe.known, Value.slice A5 fe.snap.length c5, Value.slice B5 fe.got.length d5] 31)) := (Bl.refl _).alloc _
  have hsz5 : (w5.alloc (.cells #[Value.int IntKind.u32 fe.id.t, Value.int IntKind.u8 fe.id.r, Value.bool fe.ready, Value.bool fe.pin, Value.int IntKind.i64 fe.used, Value.bool fe.known, Value.slice A5 fe.snap.length c5, Value.slice B5 fe.got.length d5] 31)).heap.size = w5.heap.size + 1 := World.size_alloc _ _
  replace at5 := hide at5
  generalize w5.alloc (.cells #[Value.int IntKind.u32 fe.id.t, Value.int IntKind.u8 fe.id.r, Value.bool fe.ready, Value.bool fe.pin, Value.int IntKind.i64 fe.used, Value.bool fe.known, Value.slice A5 fe.snap.length c5, Value.slice B5 fe.got.length d5] 31) = V5 at *
  have h3V5 := (h3V.trans hb5).trans hV5
  have h0V5 := h05.trans hV5
  refine (hfinds A3 c3 _ (hr3'.bl h3V5)).mono ?_
  generalize findE L1 s = ge at *
  generalize findB L1 s = gb at *
  rintro e w6 ⟨A6, c6, B6, d6, rfl, l1, l2, l3, l4, hS6, hG6, hb6⟩
  have hx6 : Held w6 ge A6 c6 B6 d6 := ⟨l1, l2, l3, l4, hS6.zero, hG6.zero⟩
  clear l1 l2 l3 l4 hS6 hG6
  have h06 := h0V5.trans hb6
  have h36 := h3V5.trans hb6
  have h46 : Bl V4 w6 := (hb5.trans hV5).trans hb6
  obtain ⟨x0, x1, x2, x3, x4, x5, x6, x7⟩ := (at0.bl h06).cells
  obtain ⟨u0, u1, u2, u3, u4, u5, u6, u7⟩ := (at4.out _ h46).cells
  have hlt0 := (at0.bl h06).lt
  have hlt4 := (at4.out _ h46).lt
  go_wp2_with fail
  clear x0 x1 x2 x3 x4 x5 x6 x7 u0 u1 u2 u3 u4 u5 u6 u7
  have at6 : ∀ V, Bl (w6.alloc (.cells #[Value.int IntKind.u32 ge.id.t, Value.int IntKind.u8 ge.id.r, Value.bool ge.ready, Value.bool ge.pin, Value.int IntKind.i64 ge.used, Value.bool ge.known, Value.slice A6 ge.snap.length c6, Value.slice B6 ge.got.length d6] 31)) V → EntAt V w6.heap.size ge A6 c6 B6 d6 := fun V hb => (EntAt.new w6 ge A6 c6 B6 d6 _).bl hb
  have hV6 : Bl w6 (w6.alloc (.cells #[Value.int IntKind.u32 ge.id.t, Value.int IntKind.u8 ge.id.r, Value.bool ge.ready, Value.bool ge.pin, Value.int IntKind.i64 ge.used, Value.bool ge.known, Value.slice A6 ge.snap.length c6, Value.slice B6 ge.got.length d6] 31)) := (Bl.refl _).alloc _
  have hsz6 : (w6.alloc (.cells #[Value.int IntKind.u32 ge.id.t, Value.int IntKind.u8 ge.id.r, Value.bool ge.ready, Value.bool ge.pin, Value.int IntKind.i64 ge.used, Value.bool ge.known, Value.slice A6 ge.snap.length c6, Value.slice B6 ge.got.length d6] 31)).heap.size = w6.heap.size + 1 := World.size_alloc _ _
  replace at6 := hide at6
  generalize w6.alloc (.cells #[Value.int IntKind.u32 ge.id.t, Value.int IntKind.u8 ge.id.r, Value.bool ge.ready, Value.bool ge.pin, Value.int IntKind.i64 ge.used, Value.bool ge.known, Value.slice A6 ge.snap.length c6, Value.slice B6 ge.got.length d6] 31) = V6 at *
  have h3V6 := h36.trans hV6
  have h0V6 := h06.trans hV6
  have h4V6 := h46.trans hV6
  have h5V6 : Bl V5 V6 := hb6.trans hV6
  refine (sameSelf x _ (hx4.bl (hV4.trans h4V6)) (hH.bl (hw3.trans h3V6))).mono ?_
  rintro e w7 ⟨rfl, hb7⟩
  go_wp2_with fail
  refine (hchk1.out A3 c3 _ (hr3'.bl (h3V6.trans hb7))).mono ?_
  rintro e w8 ⟨rfl, hb8⟩
  have hb68 := hb7.trans hb8
  have h08 := h0V6.trans hb68
  have hne := run_neqId s x.id
  have hnb := run_neqBool fb fb
  rw [bne_self_eq_false] at hnb
  cases hq : neqId s x.id
  · rw [hq] at hne
    clear hq
    obtain ⟨x0, x1, -, -, -, -, -, -⟩ := (at0.bl h08).cells
    obtain ⟨y0, y1, -, -⟩ := atS.bl h08
    have h3n := h3V6.trans hb68
    have h0n := h0V6.trans hb68
    go_wp2_with fail
    clear x0 x1 y0 y1
    refine (hdr1.out A3 c3 _ (hr3'.bl h3n)).mono ?_
    rintro e wa ⟨Aa, ca, rfl, -, -, hra, hba⟩
    have h0a := h0n.trans hba
    have h3a := h3n.trans hba
    obtain ⟨x0, x1, -, -, -, -, -, -⟩ := (at0.bl h0a).cells
    go_wp2_with fail
    clear x0 x1
    refine (hfindb.out Aa ca _ hra.zero).mono ?_
    rintro e wb ⟨Ab, cb, Bb, db, rfl, -, -, -, -, -, -, hbb⟩
    have h0b := h0a.trans hbb
    have hbv : Bl wb (wb.alloc (.cells #[Value.int IntKind.u32 fz.id.t, Value.int IntKind.u8 fz.id.r, Value.bool fz.ready, Value.bool fz.pin, Value.int IntKind.i64 fz.used, Value.bool fz.known, Value.slice Ab fz.snap.length cb, Value.slice Bb fz.got.length db] 31)) := (Bl.refl _).alloc _
    have h3b' := (h3a.trans hbb).trans hbv
    obtain ⟨x0, x1, -, -, -, -, -, -⟩ := (at0.bl h0b).cells
    have hltx := (at0.bl h0b).lt
    go_wp2_with fail
    clear x0 x1
    have hdrf := hdr0.out _ (hw3.trans h3b')
    have hln1 : IntKind.i64.wrap ((L1.length : Int) - 1) = (L1.length : Int) - 1 := by rw [IntKind.wrap_i64]; omega
    have hln2 : ((L2.length : Int) == (L1.length : Int) - 1) = true := by simp; omega
    rcases hdo.out with ⟨d1, d2⟩ | ⟨d1, d2⟩
    · rw [d1, d2] at hdrf
      clear d1 d2
      refine hdrf.mono ?_
      rintro e wc ⟨Ac, cc, rfl, -, -, hrc, hbc⟩
      have h3c := h3b'.trans hbc
      have habc := (hbb.trans hbv).trans hbc
      go_wp2_with fail
      refine (hchk2.out Aa ca _ (hra.zero.bl habc)).mono ?_
      rintro e wd ⟨rfl, hbd⟩
      go_wp2_with fail
      refine (shelfSameSelf L2 (by unfold maxLen; omega) (hra.zero.bl (habc.trans hbd)) (hrc.zero.bl hbd)).mono ?_
      rintro e we ⟨rfl, hbe⟩
      go_wp2_with fail
      go_ret
      exact ⟨rfl, hw3.trans ((h3c.trans hbd).trans hbe)⟩
    · have d3 : dropL l x.id = [] := by unfold dropL; rw [d1]; rfl
      rw [d1, d3] at hdrf
      subst d2
      clear d1 d3
      refine hdrf.mono ?_
      rintro e wc ⟨Ac, cc, rfl, -, -, hrc, hbc⟩
      have h3c := h3b'.trans hbc
      have habc := (hbb.trans hbv).trans hbc
      go_wp2_with fail
      refine (hchk2.out Aa ca _ (hra.zero.bl habc)).mono ?_
      rintro e wd ⟨rfl, hbd⟩
      go_wp2_with fail
      refine (shelfSameSelf L2 (by unfold maxLen; omega) (hra.zero.bl (habc.trans hbd)) (hA.bl (hw3.trans (h3c.trans hbd)))).mono ?_
      rintro e we ⟨rfl, hbe⟩
      go_wp2_with fail
      go_ret
      exact ⟨rfl, hw3.trans ((h3c.trans hbd).trans hbe)⟩
  · rw [hq] at hne
    obtain ⟨hfo1, hfo2⟩ := hfo.out (neqId_true hq)
    subst hfo1 hfo2
    clear hq
    obtain ⟨x0, x1, -, -, -, -, -, -⟩ := (at0.bl h08).cells
    obtain ⟨y0, y1, -, -⟩ := atS.bl h08
    obtain ⟨u0, u1, u2, u3, u4, u5, u6, u7⟩ := (at5.out _ (h5V6.trans hb68)).cells
    obtain ⟨z0, z1, z2, z3, z4, z5, z6, z7⟩ := (at6.out _ hb68).cells
    go_wp2_with fail
    clear x0 x1 y0 y1 u0 u1 u2 u3 u4 u5 u6 u7 z0 z1 z2 z3 z4 z5 z6 z7
    refine (sameSelf _ _ (hx5.bl (hV5.trans (h5V6.trans hb68))) (hx6.bl (hV6.trans hb68))).mono ?_
    rintro e w9 ⟨rfl, hb9⟩
    have hb69 := hb68.trans hb9
    have h3n := h3V6.trans hb69
    have h0n := h0V6.trans hb69
    obtain ⟨x0, x1, -, -, -, -, -, -⟩ := (at0.bl h0n).cells
    go_wp2_with fail
    clear x0 x1
    refine (hdr1.out A3 c3 _ (hr3'.bl h3n)).mono ?_
    rintro e wa ⟨Aa, ca, rfl, -, -, hra, hba⟩
    have h0a := h0n.trans hba
    have h3a := h3n.trans hba
    obtain ⟨x0, x1, -, -, -, -, -, -⟩ := (at0.bl h0a).cells
    go_wp2_with fail
    clear x0 x1
    refine (hfindb.out Aa ca _ hra.zero).mono ?_
    rintro e wb ⟨Ab, cb, Bb, db, rfl, -, -, -, -, -, -, hbb⟩
    have h0b := h0a.trans hbb
    have hbv : Bl wb (wb.alloc (.cells #[Value.int IntKind.u32 fz.id.t, Value.int IntKind.u8 fz.id.r, Value.bool fz.ready, Value.bool fz.pin, Value.int IntKind.i64 fz.used, Value.bool fz.known, Value.slice Ab fz.snap.length cb, Value.slice Bb fz.got.length db] 31)) := (Bl.refl _).alloc _
    have h3b' := (h3a.trans hbb).trans hbv
    obtain ⟨x0, x1, -, -, -, -, -, -⟩ := (at0.bl h0b).cells
    have hltx := (at0.bl h0b).lt
    go_wp2_with fail
    clear x0 x1
    have hdrf := hdr0.out _ (hw3.trans h3b')
    have hln1 : IntKind.i64.wrap ((L1.length : Int) - 1) = (L1.length : Int) - 1 := by rw [IntKind.wrap_i64]; omega
    have hln2 : ((L2.length : Int) == (L1.length : Int) - 1) = true := by simp; omega
    rcases hdo.out with ⟨d1, d2⟩ | ⟨d1, d2⟩
    · rw [d1, d2] at hdrf
      clear d1 d2
      refine hdrf.mono ?_
      rintro e wc ⟨Ac, cc, rfl, -, -, hrc, hbc⟩
      have h3c := h3b'.trans hbc
      have habc := (hbb.trans hbv).trans hbc
      go_wp2_with fail
      refine (hchk2.out Aa ca _ (hra.zero.bl habc)).mono ?_
      rintro e wd ⟨rfl, hbd⟩
      go_wp2_with fail
      refine (shelfSameSelf L2 (by unfold maxLen; omega) (hra.zero.bl (habc.trans hbd)) (hrc.zero.bl hbd)).mono ?_
      rintro e we ⟨rfl, hbe⟩
      go_wp2_with fail
      go_ret
      exact ⟨rfl, hw3.trans ((h3c.trans hbd).trans hbe)⟩
    · have d3 : dropL l x.id = [] := by unfold dropL; rw [d1]; rfl
      rw [d1, d3] at hdrf
      subst d2
      clear d1 d3
      refine hdrf.mono ?_
      rintro e wc ⟨Ac, cc, rfl, -, -, hrc, hbc⟩
      have h3c := h3b'.trans hbc
      have habc := (hbb.trans hbv).trans hbc
      go_wp2_with fail
      refine (hchk2.out Aa ca _ (hra.zero.bl habc)).mono ?_
      rintro e wd ⟨rfl, hbd⟩
      go_wp2_with fail
      refine (shelfSameSelf L2 (by unfold maxLen; omega) (hra.zero.bl (habc.trans hbd)) (hA.bl (hw3.trans (h3c.trans hbd)))).mono ?_
      rintro e we ⟨rfl, hbe⟩
      go_wp2_with fail
      go_ret
      exact ⟨rfl, hw3.trans ((h3c.trans hbd).trans hbe)⟩
end Go.Proofs.Ytegmddgbdjlidaa
