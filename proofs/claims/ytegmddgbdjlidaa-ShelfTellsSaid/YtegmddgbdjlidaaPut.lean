/-
  The walk of shelf.Put.
-/
import Derived.Test.YtegmddgbdjlidaaInsert2
import Derived.Test.YtegmddgbdjlidaaFind
namespace Go.Proofs.Ytegmddgbdjlidaa
open Go.RowKit

/-- What a call that hands back a list of its own says. -/
def NewOwn (l : List Entry) (w : World) (e : Ending) (w' : World) : Prop := ∃ v, e = .returned v ∧ Own cEntry 31 w.heap.size w' v l ∧ Bl w w'

set_option maxRecDepth 100000 in
set_option maxHeartbeats 1000000 in
theorem shelfTwinO (A : Option Addr) (c : Nat) (l : List Entry) (w : World) (hl : smallS l) (hA : R cEntry 0 w A l) :
    Calls Try.prog 16 #[.slice A l.length c] w (NewOwn l w) := by
  obtain ⟨i0, hi, hz0, hz1, hz2⟩ := info_parts Try.infoEntry
  obtain ⟨hl, hsm⟩ := hl
  replace hsm := hide hsm
  go_enter Try.func16, Try.ntmps16
  go_wp2
  go_loopw [2, 7] (fun v i wr => Bl w wr ∧ ∃ k : Nat, k ≤ l.length ∧ i = .int .i64 k ∧ Own cEntry 31 w.heap.size wr v (l.take k)) (fun _ i _ => l.length - (intOf i).toNat)
  case atStart => exact ⟨Bl.refl _, 0, Nat.zero_le _, rfl, Own.nil⟩
  case round =>
    obtain ⟨hbl, k, hk, rfl, hown⟩ := hrel
    by_cases hlt : k < l.length
    · have hR := hA.bl hbl
      obtain ⟨b, off, rfl, _, hb⟩ := hR.addr (by omega)
      obtain ⟨x, hx⟩ := get_lt hlt
      obtain ⟨_, ho, S, sc, G, gc, s1, s2, g1, g2, hS, hG, c0, c1, c2, c3, c4, c5, c6, c7⟩ := hR.entry hx
      have hts := hide (take_snoc hx)
      have hxs := hsm.out x (List.mem_of_getElem? hx)
      clear hx
      go_wp2_with (first
        | (go_at_call 47; refine (shelfOwn x S G sc gc _ hxs (hS.bl ((Bl.refl _).alloc _)) (hG.bl ((Bl.refl _).alloc _))).mono ?_; rintro e w1 ⟨A1, c1', B1, d1, rfl, h1, h2, h3, h4, hr1, hr2, hb0⟩; have hb1 := ((Bl.refl wr).alloc _).trans hb0; have hW1 : wr.heap.size ≤ w1.heap.size := hb1.size; have hsz := hbl.size)
        | (at_builtin
           refine wpList_append_any2 (C := cEntry) (xs := l.take k) (ys := [x]) rfl (.tmp 11) (.tmp 14) _ rfl 31 i0 _ 80 Try.underlying22 hi hz0 hz1 hz2 rfl _ w.heap.size rfl ((hown.bl hb1).bl ((Bl.refl _).alloc _)) (some ⟨w1.heap.size, 0, none⟩) 1 _ rfl rfl (hown.src (cs := entryCells x A1 c1' B1 d1) hb1 hsz ⟨ho, A1, c1', B1, d1, h1, h2, h3, h4, rfl, hr1.more (by simp), hr2.more (by simp)⟩) ?c1 ?c2 ?c3 ?_
           case c1 => simp [maxLen]; omega
           case c2 => simp; omega
           case c3 => simp; omega
           intro v2 w2 hown2 hg2 _
           have hbl2 : Bl w w2 := ((hbl.trans hb1).alloc _).app ((hown.bl hb1).bl ((Bl.refl _).alloc _)) (Nat.le_refl _) hg2))
      go_roundw
      case rel => exact ⟨hbl2, k + 1, by omega, by go_num, by rw [hts.out]; exact hown2⟩
      case measure => simp [intOf]; omega
    · have hkl : l.length ≤ k := by omega
      go_wp2
      go_ret
      rw [List.take_of_length_le hkl] at hown
      exact ⟨_, rfl, hown, hbl⟩

/-! ### Plain -/
theorem atScan_bd (s : Id) : ∀ r : List Entry, 0 ≤ (atScan s r).1 ∧ (atScan s r).1 ≤ r.length := by
  intro r
  induction r with
  | nil => exact ⟨Int.le_refl _, Int.le_refl _⟩
  | cons x r ih =>
    rw [atScan]
    unfold hitOf
    by_cases hx : x.id = s
    · rw [if_pos hx]
      simp only [List.length_cons]
      omega
    · rw [if_neg hx]
      cases idLess x.id s
      · simp only [Bool.false_eq_true, if_false, List.length_cons]
        push_cast
        omega
      · simp only [if_true, List.length_cons]
        push_cast
        omega
theorem atOf_bd (l : List Entry) (s : Id) : 0 ≤ (atOf l s).1 ∧ (atOf l s).1 ≤ l.length := by
  have := atScan_bd s l.reverse
  rwa [List.length_reverse] at this
def putN (l : List Entry) (x : Entry) : Int := if shelfMay l && entryMay x then (if (atOf l x.id).2 then 0 else if l.length = 65 then 9 else 0) else 8
def putL (l : List Entry) (x : Entry) : List Entry := if putN l x = 0 then (if (atOf l x.id).2 then l.set (atOf l x.id).1.toNat x else l.take (atOf l x.id).1.toNat ++ x :: l.drop (atOf l x.id).1.toNat) else []

/-- One of a row's elements is written. -/
theorem Own.put {base g n : Nat} {cap : Nat} {w : World} {xs : List Entry} {y : Entry} {A B : Option Addr} {c d : Nat} (h : Own cEntry 31 base w (.slice (some ⟨g, 0, none⟩) xs.length cap) xs) (hn : n < xs.length)
    (hy : cEntry.rd w (fun b => (base ≤ b ∧ b < w.heap.size) ∧ b ≠ g) y (entryCells y A c B d)) :
    R cEntry base (w.setCells g (n * 8) (entryCells y A c B d)) (some ⟨g, 0, none⟩) (xs.set n y) ∧ base ≤ g ∧ xs.length ≤ cap ∧ cap ≤ maxLen := by
  obtain ⟨cells, ⟨hcl, hnl | ⟨g', cap', cur, hv, hbg, hgc, hnc, hcm, hsz, htk⟩⟩, hr⟩ := h
  · cases hnl.1
  injection hv with hv _ hv2
  injection hv with hv
  injection hv with hv _
  subst hv hv2
  have h8 : cEntry.size = 8 := rfl
  rw [h8] at hcl hsz htk
  have hxs : xs = xs.take n ++ (xs[n]'hn :: xs.drop (n + 1)) := by rw [← List.drop_eq_getElem_cons hn, List.take_append_drop]
  have hr2 := hr
  rw [hxs] at hr2
  obtain ⟨ca, cr, hcc, hra, co, cb, hcr, hro, hrb⟩ := hr2.split
  subst hcr
  have hcal : ca.length = n * 8 := by
    have := hra.length
    rw [List.length_take, Nat.min_eq_left (by omega)] at this
    exact this
  have hcol : co.length = 8 := cEntry.len hro
  have hset : xs.set n y = xs.take n ++ (y :: xs.drop (n + 1)) := by rw [List.set_eq_take_append_cons_drop, if_pos hn]
  have hob : ∀ b, ((base ≤ b ∧ b < w.heap.size) ∧ (Value.slice (some ⟨g, 0, none⟩) xs.length cap).ownBlock ≠ some b) → b ≠ g := fun b hb e => hb.2 (by rw [e]; rfl)
  have hcell : ∀ (j : Nat) u, cells[j]? = some u → w.cell? ⟨g, j, none⟩ = some u := fun j u hu => by
    rw [cell_of_row w g j cur _ (0, 0) hgc]
    rw [← htk, List.getElem?_take] at hu
    split at hu
    · simpa using hu
    · cases hu
  have hvl : (entryCells y A c B d).length = 8 := rfl
  have hin : ∀ j, j < 8 → (w.cell? ⟨g, n * 8 + j, none⟩).isSome = true := fun j hj => by
    rw [hcell (n * 8 + j) (cells[n * 8 + j]'(by omega)) (List.getElem?_eq_getElem (by omega))]
    rfl
  refine ⟨?_, hbg, hnc, hcm⟩
  rw [hset]
  refine ⟨ca ++ (entryCells y A c B d ++ cb), (hra.keep (keeps_setCells hob _ _ _) fun b hb => ⟨hb.1.1, by rw [size_setCells]; exact hb.1.2⟩).append (RdL.append (xs := [y]) (RdL.one1 (cEntry.keep (keeps_setCells (fun b hb => hb.2) _ _ _) (fun b hb => ⟨hb.1.1, by rw [size_setCells]; exact hb.1.2⟩) hy)) (hrb.keep (keeps_setCells hob _ _ _) fun b hb => ⟨hb.1.1, by rw [size_setCells]; exact hb.1.2⟩)), fun _ => ⟨g, 0, rfl, ⟨hbg, by rw [size_setCells]; exact (Array.getElem?_eq_some_iff.1 hgc).1⟩, fun j u hu => ⟨?_, ?_⟩⟩⟩
  · rw [Nat.zero_add]
    by_cases h1 : j < n * 8
    · rw [World.cell?_setCells_out g _ (n * 8) w ⟨g, j, none⟩ (fun _ _ => .inl h1)]
      rw [List.getElem?_append_left (by omega)] at hu
      exact hcell j u (by rw [hcc, List.getElem?_append_left (by omega)]; exact hu)
    · rw [List.getElem?_append_right (by omega), hcal] at hu
      by_cases h2 : j - n * 8 < 8
      · rw [List.getElem?_append_left (by omega)] at hu
        have := World.cell?_setCells_in g (entryCells y A c B d) (n * 8) w (fun t ht => hin t (by omega)) (j - n * 8) (by omega)
        rw [show n * 8 + (j - n * 8) = j by omega] at this
        rw [this, ← List.getElem?_eq_getElem (by omega)]
        exact hu
      · rw [World.cell?_setCells_out g _ (n * 8) w ⟨g, j, none⟩ (fun _ _ => .inr (by show n * 8 + 8 ≤ j; omega))]
        rw [List.getElem?_append_right (by omega)] at hu
        exact hcell j u (by rw [hcc, List.getElem?_append_right (by omega), List.getElem?_append_right (by omega), hcal, hcol]; exact hu)
  · rw [World.frozen?_setCells]
    simp [World.frozen?, hgc]

theorem R.entryF {lo : Nat} {w : World} {b off k : Nat} {l : List Entry} {x : Entry} (h : R cEntry lo w (some ⟨b, off, none⟩) l) (hk : l[k]? = some x) :
    w.frozen? ⟨b, off + k * 8, none⟩ = false ∧ w.frozen? ⟨b, off + k * 8 + 1, none⟩ = false ∧ w.frozen? ⟨b, off + k * 8 + 2, none⟩ = false ∧ w.frozen? ⟨b, off + k * 8 + 3, none⟩ = false ∧ w.frozen? ⟨b, off + k * 8 + 4, none⟩ = false ∧ w.frozen? ⟨b, off + k * 8 + 5, none⟩ = false ∧ w.frozen? ⟨b, off + k * 8 + 6, none⟩ = false ∧ w.frozen? ⟨b, off + k * 8 + 7, none⟩ = false := by
  obtain ⟨h1, m, ⟨ho, A, c, B, d, a1, a2, a3, a4, rfl, hr, hs⟩, ha⟩ := R.get h hk
  exact ⟨(ha 0 _ rfl).2, (ha 1 _ rfl).2, (ha 2 _ rfl).2, (ha 3 _ rfl).2, (ha 4 _ rfl).2, (ha 5 _ rfl).2, (ha 6 _ rfl).2, (ha 7 _ rfl).2⟩
theorem Own.form {base : Nat} {w : World} {v : Value} {xs : List Entry} (h : Own cEntry 31 base w v xs) : (v = .slice none 0 0 ∧ xs = []) ∨ ∃ g cap, v = .slice (some ⟨g, 0, none⟩) xs.length cap ∧ base ≤ g ∧ g < w.heap.size ∧ xs.length ≤ cap ∧ cap ≤ maxLen := by
  obtain ⟨cells, ⟨hcl, hnl | ⟨g, cap, cur, hv, hbg, hgc, hnc, hcm, hsz, htk⟩⟩, hr⟩ := h
  · exact .inl ⟨hnl.1, List.eq_nil_of_length_eq_zero hnl.2⟩
  · exact .inr ⟨g, cap, hv, hbg, (Array.getElem?_eq_some_iff.1 hgc).1, hnc, hcm⟩

set_option maxRecDepth 100000 in
set_option maxHeartbeats 2000000 in
theorem shelfPut (A : Option Addr) (c : Nat) (l : List Entry) (x : Entry) (S G : Option Addr) (sc gc : Nat) (w : World) (hl : l.length ≤ 1099511627776) (hA : R cEntry 0 w A l) (hx : x.ok) (hH : Held w x S sc G gc) :
    Calls Try.prog 40 #[.slice A l.length c, .agg #[.int .u32 x.id.t, .int .u8 x.id.r, .bool x.ready, .bool x.pin, .int .i64 x.used, .bool x.known, .slice S x.snap.length sc, .slice G x.got.length gc]] w (New2 cEntry (putL l x) (putN l x) w) := by
  have hchk := fun W (hb : Bl w W) => shelfCheck A c l W (by unfold maxLen; omega) (hA.bl hb)
  have hone := fun W (hb : Bl w W) => shelfOne x S G sc gc W hx (Nat.le_trans hH.l1 hH.l2) (Nat.le_trans hH.l3 hH.l4) (hH.hS.bl hb)
  obtain ⟨L, hL⟩ : ∃ L, L = putL l x := ⟨_, rfl⟩
  obtain ⟨N, hN⟩ : ∃ N, N = putN l x := ⟨_, rfl⟩
  rw [← hL, ← hN]
  have hV0 : Bl w (w.alloc (.cells #[Value.int IntKind.u32 x.id.t, Value.int IntKind.u8 x.id.r, Value.bool x.ready, Value.bool x.pin, Value.int IntKind.i64 x.used, Value.bool x.known, Value.slice S x.snap.length sc, Value.slice G x.got.length gc] 31)) := (Bl.refl _).alloc _
  have at0 := EntAt.new w x S sc G gc 31
  cases hm : shelfMay l
  · have e2 : N = 8 := by rw [hN]; unfold putN; rw [hm]; rfl
    have e1 : L = [] := by rw [hL]; unfold putL; rw [← hN, e2]; rfl
    subst e1 e2
    rw [hm, okOr_false] at hchk
    replace hchk := hide hchk
    clear hL hN hm hone at0
    go_enter Try.func40, Try.ntmps40
    go_wp2_with fail
    refine (hchk.out _ hV0).mono ?_
    rintro e w1 ⟨rfl, hb1⟩
    go_wp2_with fail
    go_ret2
    exact ⟨none, 0, rfl, Nat.le_refl _, Nat.zero_le _, R.nil, hV0.trans hb1⟩
  rw [hm, okOr_true] at hchk
  replace hchk := hide hchk
  cases hmx : entryMay x
  · have e2 : N = 8 := by rw [hN]; unfold putN; rw [hm, hmx]; rfl
    have e1 : L = [] := by rw [hL]; unfold putL; rw [← hN, e2]; rfl
    subst e1 e2
    rw [hmx] at hone
    replace hone := hide hone
    clear hL hN hm hmx
    go_enter Try.func40, Try.ntmps40
    go_wp2_with fail
    refine (hchk.out _ hV0).mono ?_
    rintro e w1 ⟨rfl, hb1⟩
    obtain ⟨x0, x1, x2, x3, x4, x5, x6, x7⟩ := (at0.bl hb1).cells
    go_wp2_with fail
    refine (hone.out _ (hV0.trans hb1)).mono ?_
    rintro e w2 ⟨rfl, hb2⟩
    go_wp2_with fail
    go_ret2
    exact ⟨none, 0, rfl, Nat.le_refl _, Nat.zero_le _, R.nil, (hV0.trans hb1).trans hb2⟩
  rw [hmx] at hone
  replace hone := hide hone
  have hsml := hide (may_small hm)
  have hsmx := hide (small_of_may hmx)
  have hat := fun W (hb : Bl w W) => shelfAt A c l x.id W hl hx.1 (hA.bl hb)
  have hbd := atOf_bd l x.id
  have hput : putN l x = if (atOf l x.id).2 then 0 else if l.length = 65 then 9 else 0 := by unfold putN; rw [hm, hmx]; rfl
  have hlen65 := (may_from hm).1
  have hfd : (atOf l x.id).2 = true → ∃ k : Nat, (atOf l x.id).1 = (k : Int) ∧ k < l.length := fun h => by
    obtain ⟨y, hy, e⟩ := scan_true x.id _ h
    rw [List.mem_reverse] at hy
    obtain ⟨k, hk⟩ := List.getElem?_of_mem hy
    refine ⟨k, ?_, (List.getElem?_eq_some_iff.1 hk).1⟩
    rw [at_found hm hk e]
  obtain ⟨n, hn⟩ : ∃ n : Nat, (atOf l x.id).1 = (n : Int) := ⟨(atOf l x.id).1.toNat, by omega⟩
  have hnl : n ≤ l.length := by omega
  clear hm hmx
  cases hb2 : (atOf l x.id).2
  · rw [hb2] at hput hat
    rw [hn] at hat
    by_cases h65 : l.length = 65
    · have e2 : N = 9 := by rw [hN, hput, if_pos h65]; rfl
      have e1 : L = [] := by rw [hL]; unfold putL; rw [← hN, e2]; rfl
      subst e1 e2
      replace hat := hide hat
      have h65' : ((l.length : Int) == 65) = true := by simp [h65]
      clear hL hN hput hfd hn hb2 hbd h65
      go_enter Try.func40, Try.ntmps40
      go_wp2_with fail
      refine (hchk.out _ hV0).mono ?_
      rintro e w1 ⟨rfl, hb1⟩
      obtain ⟨x0, x1, x2, x3, x4, x5, x6, x7⟩ := (at0.bl hb1).cells
      go_wp2_with fail
      refine (hone.out _ (hV0.trans hb1)).mono ?_
      rintro e w2 ⟨rfl, hb2⟩
      have hb12 := hb1.trans hb2
      clear x0 x1 x2 x3 x4 x5 x6 x7
      obtain ⟨x0, x1, x2, x3, x4, x5, x6, x7⟩ := (at0.bl hb12).cells
      go_wp2_with fail
      refine (hat.out _ (hV0.trans hb12)).mono ?_
      rintro e w3 ⟨rfl, hb3⟩
      have hb13 := hb12.trans hb3
      go_wp2_with fail
      refine (shelfTwin A c l _ hsml.out (hA.bl (hV0.trans hb13))).mono ?_
      rintro e w4 ⟨A4, c4, rfl, q1, q2, hr4, hb4⟩
      go_wp2_with fail
      go_ret2
      exact ⟨none, 0, rfl, Nat.le_refl _, Nat.zero_le _, R.nil, (hV0.trans hb13).trans hb4⟩
    · have e2 : N = 0 := by rw [hN, hput, if_neg h65]; rfl
      have e1 : L = l.take n ++ x :: l.drop n := by rw [hL]; unfold putL; rw [← hN, e2, if_pos rfl, hb2, hn, Int.toNat_natCast]; rfl
      replace e1 := hide e1
      subst e2
      replace hat := hide hat
      have h65' : ((l.length : Int) == 65) = false := beq_eq_false_iff_ne.2 (by omega)
      clear hL hN hput hfd hn hb2 hbd h65
      go_enter Try.func40, Try.ntmps40
      go_wp2_with fail
      refine (hchk.out _ hV0).mono ?_
      rintro e w1 ⟨rfl, hb1⟩
      obtain ⟨x0, x1, x2, x3, x4, x5, x6, x7⟩ := (at0.bl hb1).cells
      go_wp2_with fail
      refine (hone.out _ (hV0.trans hb1)).mono ?_
      rintro e w2 ⟨rfl, hb2⟩
      have hb12 := hb1.trans hb2
      clear x0 x1 x2 x3 x4 x5 x6 x7
      obtain ⟨x0, x1, x2, x3, x4, x5, x6, x7⟩ := (at0.bl hb12).cells
      go_wp2_with fail
      refine (hat.out _ (hV0.trans hb12)).mono ?_
      rintro e w3 ⟨rfl, hb3⟩
      have hb13 := hb12.trans hb3
      have hw3 := hV0.trans hb13
      clear x0 x1 x2 x3 x4 x5 x6 x7
      go_wp2_with fail
      refine (shelfTwinO A c l _ hsml.out (hA.bl hw3)).mono ?_
      rintro e w4 ⟨v, rfl, hown, hb4⟩
      have hb14 := hb13.trans hb4
      have hw4 := hw3.trans hb4
      have hz34 := hb4.size
      have hwz := hw3.size
      obtain ⟨x0, x1, x2, x3, x4, x5, x6, x7⟩ := (at0.bl hb14).cells
      have hrest : ∀ w5 A5 c5 B5 d5, x.snap.length ≤ c5 → c5 ≤ maxLen → x.got.length ≤ d5 → d5 ≤ maxLen → R cTimes w4.heap.size w5 A5 x.snap → R cBool w4.heap.size w5 B5 x.got → Bl w4 w5 →
          Calls Try.prog 75 #[v, .int .i64 n, .slice (some ⟨w5.heap.size, 0, none⟩) 1 1] (w5.alloc (.cells #[Value.int IntKind.u32 x.id.t, Value.int IntKind.u8 x.id.r, Value.bool x.ready, Value.bool x.pin, Value.int IntKind.i64 x.used, Value.bool x.known, Value.slice A5 x.snap.length c5, Value.slice B5 x.got.length d5] 31)) (NewFrom cEntry w3.heap.size L w5) := fun w5 A5 c5 B5 d5 k1 k2 k3 k4 hS hG hb5 => by
        have hgne : ∀ b, w4.heap.size ≤ b → v.ownBlock ≠ some b := fun b hb e => by have := (hown.lt e).2; omega
        rw [e1.out]
        exact insertC w3.heap.size v l n x A5 B5 c5 d5 w5 (hown.bl hb5) (by have := hb5.size; omega) hnl (by omega) ⟨hx, A5, c5, B5, d5, k1, k2, k3, k4, rfl, hS.up fun b h => ⟨⟨by have := h.1; omega, h.2⟩, hgne b h.1⟩, hG.up fun b h => ⟨⟨by have := h.1; omega, h.2⟩, hgne b h.1⟩⟩
      replace hrest := hide hrest
      rcases hown.form with ⟨rfl, hl0⟩ | ⟨g, cap, rfl, hg1, hg2, hg3, hg4⟩
      · have hl0' := congrArg List.length hl0
        have h0' : l.length = 0 := hl0'
        clear hl0 hl0' h65'
        go_wp2_with fail
        refine (shelfOwn x S G sc gc _ hsmx.out (hH.hS.bl hw4) (hH.hG.bl hw4)).mono ?_
        rintro e w5 ⟨A5, c5, B5, d5, rfl, k1, k2, k3, k4, hS5, hG5, hb5⟩
        go_wp2_with fail
        refine (hrest.out w5 A5 c5 B5 d5 k1 k2 k3 k4 hS5 hG5 hb5).mono ?_
        rintro e w6 ⟨A6, c6, rfl, j1, j2, hr6, hb6⟩
        go_wp2_with fail
        go_ret2
        exact ⟨A6, c6, rfl, j1, j2, hr6.more hwz, Below.trans (B := w.heap.size) (hw4.trans hb5) (Below.mono hb6 hwz)⟩
      · go_wp2_with fail
        refine (shelfOwn x S G sc gc _ hsmx.out (hH.hS.bl hw4) (hH.hG.bl hw4)).mono ?_
        rintro e w5 ⟨A5, c5, B5, d5, rfl, k1, k2, k3, k4, hS5, hG5, hb5⟩
        go_wp2_with fail
        refine (hrest.out w5 A5 c5 B5 d5 k1 k2 k3 k4 hS5 hG5 hb5).mono ?_
        rintro e w6 ⟨A6, c6, rfl, j1, j2, hr6, hb6⟩
        go_wp2_with fail
        go_ret2
        exact ⟨A6, c6, rfl, j1, j2, hr6.more hwz, Below.trans (B := w.heap.size) (hw4.trans hb5) (Below.mono hb6 hwz)⟩
  · obtain ⟨k, hk, hkl⟩ := hfd hb2
    obtain rfl : k = n := by omega
    rw [hb2] at hput hat
    rw [hn] at hat
    have e2 : N = 0 := by rw [hN, hput]; rfl
    have e1 : L = l.set k x := by rw [hL]; unfold putL; rw [← hN, e2, if_pos rfl, hb2, hn, Int.toNat_natCast]; rfl
    replace e1 := hide e1
    subst e2
    replace hat := hide hat
    clear hL hN hput hfd hn hb2 hbd hk
    go_enter Try.func40, Try.ntmps40
    go_wp2_with fail
    refine (hchk.out _ hV0).mono ?_
    rintro e w1 ⟨rfl, hb1⟩
    obtain ⟨x0, x1, x2, x3, x4, x5, x6, x7⟩ := (at0.bl hb1).cells
    go_wp2_with fail
    refine (hone.out _ (hV0.trans hb1)).mono ?_
    rintro e w2 ⟨rfl, hb2⟩
    have hb12 := hb1.trans hb2
    clear x0 x1 x2 x3 x4 x5 x6 x7
    obtain ⟨x0, x1, x2, x3, x4, x5, x6, x7⟩ := (at0.bl hb12).cells
    go_wp2_with fail
    refine (hat.out _ (hV0.trans hb12)).mono ?_
    rintro e w3 ⟨rfl, hb3⟩
    have hb13 := hb12.trans hb3
    have hw3 := hV0.trans hb13
    clear x0 x1 x2 x3 x4 x5 x6 x7
    go_wp2_with fail
    refine (shelfTwinO A c l _ hsml.out (hA.bl hw3)).mono ?_
    rintro e w4 ⟨v, rfl, hown, hb4⟩
    have hb14 := hb13.trans hb4
    have hw4 := hw3.trans hb4
    have hz34 := hb4.size
    have hwz := hw3.size
    obtain ⟨x0, x1, x2, x3, x4, x5, x6, x7⟩ := (at0.bl hb14).cells
    rcases hown.form with ⟨rfl, hl0⟩ | ⟨g, cap, rfl, hg1, hg2, hg3, hg4⟩
    · exact absurd (congrArg List.length hl0) (by rw [List.length_nil]; omega)
    · go_wp2_with fail
      refine (shelfOwn x S G sc gc _ hsmx.out (hH.hS.bl hw4) (hH.hG.bl hw4)).mono ?_
      rintro e w5 ⟨A5, c5, B5, d5, rfl, k1, k2, k3, k4, hS5, hG5, hb5⟩
      have hz45 := hb5.size
      have hown5 := hown.bl hb5
      obtain ⟨hset, s1, s2, s3⟩ := hown5.put (n := k) (y := x) (A := A5) (c := c5) (B := B5) (d := d5) hkl ⟨hx, A5, c5, B5, d5, k1, k2, k3, k4, rfl, hS5.up fun b h => ⟨⟨by have := h.1; omega, h.2⟩, by have := h.1; omega⟩, hG5.up fun b h => ⟨⟨by have := h.1; omega, h.2⟩, by have := h.1; omega⟩⟩
      obtain ⟨A', c', ee, hr5, _, _⟩ := hown5.reads
      injection ee with ee1 _ ee2
      subst ee1 ee2
      obtain ⟨y, hy⟩ := get_lt hkl
      obtain ⟨_, _, S', sc', G', gc', _, _, _, _, _, _, y0, y1, y2, y3, y4, y5, y6, y7⟩ := hr5.entry hy
      obtain ⟨f0, f1, f2, f3, f4, f5, f6, f7⟩ := hr5.entryF hy
      simp only [Nat.zero_add] at y0 y1 y2 y3 y4 y5 y6 y7 f0 f1 f2 f3 f4 f5 f6 f7
      have hbel : Bl w (w5.setCells g (k * 8) (entryCells x A5 c5 B5 d5)) := below_setCells (by omega) _ _ (hw4.trans hb5)
      have hki : (k : Int) < (l.length : Int) := by omega
      clear hy x0 x1 x2 x3 x4 x5 x6 x7
      go_wp2_with fail
      go_ret2
      rw [e1.out]
      have hll : (l.set k x).length = l.length := List.length_set
      exact ⟨some ⟨g, 0, none⟩, cap, (by rw [hll]; rfl), by rw [hll]; exact s2, s3, hset.more hwz, hbel⟩
end Go.Proofs.Ytegmddgbdjlidaa
