/-
  The walks of layer 22's references: Wants, Taken, Took, Left.
-/
import Derived.Test.YtegmddgbdjlidaaRef22d
import Derived.Test.YtegmddgbdjlidaaKinds
namespace Go.Proofs.Ytegmddgbdjlidaa
open Go.RowKit

theorem wants_unknown {x : Entry} {n : Int} {ids : List Id} (hm : entryMay x = true) (hk : x.known = false) : wants x n ids = false := by
  unfold entryMay entryTail at hm
  rw [hk] at hm
  simp at hm
  unfold wants
  rw [hm.2.2]
  by_cases h : 0 ≤ n
  · rw [decide_eq_true h, decide_eq_false (show ¬ n < (([] : List Bool).length : Int) by simp; omega)]
    rfl
  · rw [decide_eq_false h]
    rfl
/-- The ways in which an entry wants a chunk. -/
theorem wants_ways (x : Entry) (n : Int) (ids : List Id) : (n < 0 ∧ wants x n ids = false) ∨ ((x.got.length : Int) ≤ n ∧ 0 ≤ n ∧ wants x n ids = false) ∨ (∃ j : Nat, n = (j : Int) ∧ j < x.got.length ∧ x.got[j]? = some true ∧ wants x n ids = false) ∨ (∃ j : Nat, n = (j : Int) ∧ j < x.got.length ∧ x.got[j]? = some false ∧ wants x n ids = same (cutIds x.snap n) ids) := by
  by_cases q0 : n < 0
  · exact .inl ⟨q0, by unfold wants; rw [decide_eq_false (by omega)]; rfl⟩
  · by_cases q1 : (x.got.length : Int) ≤ n
    · exact .inr (.inl ⟨q1, by omega, by unfold wants; rw [decide_eq_true (by omega), decide_eq_false (by omega)]; rfl⟩)
    · obtain ⟨j, rfl⟩ : ∃ j : Nat, n = (j : Int) := ⟨n.toNat, by omega⟩
      have hj : j < x.got.length := by omega
      cases hg : x.got[j]
      · refine .inr (.inr (.inr ⟨j, rfl, hj, by rw [List.getElem?_eq_getElem hj, hg], ?_⟩))
        unfold wants
        rw [decide_eq_true (by omega), decide_eq_true (by omega), Int.toNat_natCast, List.getElem?_eq_getElem hj, hg]
        rfl
      · refine .inr (.inr (.inl ⟨j, rfl, hj, by rw [List.getElem?_eq_getElem hj, hg], ?_⟩))
        unfold wants
        rw [decide_eq_true (by omega), decide_eq_true (by omega), Int.toNat_natCast, List.getElem?_eq_getElem hj, hg]
        rfl

set_option maxRecDepth 100000 in
set_option maxHeartbeats 2000000 in
theorem refWants (x : Entry) (n : Int) (ids : List Id) (A B D : Option Addr) (c d k : Nat) (w : World) (hx : Held w x A c B d) (hmay : entryMay x = true) (hids : ids.length ≤ maxLen) (hD : R cId 0 w D ids) :
    Calls Try.prog 67 #[.agg #[.int .u32 x.id.t, .int .u8 x.id.r, .bool x.ready, .bool x.pin, .int .i64 x.used, .bool x.known, .slice A x.snap.length c, .slice B x.got.length d], .int .i64 n, .slice D ids.length k] w fun e w' => e = .returned (.bool (wants x n ids)) ∧ Bl w w' := by
  cases hk : x.known
  · have g := hide (wants_unknown (n := n) (ids := ids) hmay hk)
    go_enter Try.func67, Try.ntmps67
    go_wp2
    go_ret
    exact ⟨ret_bool g.out.symm, (Bl.refl _).alloc _⟩
  obtain ⟨⟨hs1, hs2⟩, hs3⟩ := small_of_may hmay
  have hcp := hide (cut_part hmay hk)
  have hcm : clockMay x.snap = true ∧ clockMany x.snap ≤ 1024 := by
    unfold entryMay entryTail at hmay
    rw [hk] at hmay
    simp only [Bool.and_eq_true, if_true, decide_eq_true_eq] at hmay
    exact ⟨hmay.2.1.1.2, hmay.2.1.2⟩
  have hcm := hide hcm
  have hS := hx.hS
  have hG := hx.hG
  rcases wants_ways x n ids with ⟨q0, hw⟩ | ⟨q0, q1, hw⟩ | ⟨j, rfl, hj, hg, hw⟩ | ⟨j, rfl, hj, hg, hw⟩
  · have g := hide hw
    clear hw hmay
    have q0' : decide (0 ≤ n) = false := by simp; omega
    go_enter Try.func67, Try.ntmps67
    go_wp2
    go_ret
    exact ⟨ret_bool g.out.symm, (Bl.refl _).alloc _⟩
  · have g := hide hw
    clear hw hmay
    have q0' : decide (n < (x.got.length : Int)) = false := by simp; omega
    go_enter Try.func67, Try.ntmps67
    go_wp2
    go_ret
    exact ⟨ret_bool g.out.symm, (Bl.refl _).alloc _⟩
  · have g := hide hw
    clear hw hmay
    obtain ⟨b, off, rfl, hlo, hbs⟩ := hG.addr (by omega)
    obtain ⟨_, hc, _⟩ := hG.bool hg
    have hne : b ≠ w.heap.size := by omega
    clear hg
    go_enter Try.func67, Try.ntmps67
    go_wp2
    go_ret
    exact ⟨ret_bool g.out.symm, (Bl.refl _).alloc _⟩
  · rw [hcp.out j hj] at hw
    have g := hide hw
    clear hw hmay
    obtain ⟨b, off, rfl, hlo, hbs⟩ := hG.addr (by omega)
    obtain ⟨_, hc, _⟩ := hG.bool hg
    have hne : b ≠ w.heap.size := by omega
    have hpl : (partFrom 0 (j : Int) (clockAll x.snap)).length ≤ maxLen := by
      rw [partFrom_is]
      simp [maxLen]
      omega
    clear hg
    go_enter Try.func67, Try.ntmps67
    go_wp2_with fail
    refine (refPart A c x.snap (j : Int) _ hcm.out.1 hcm.out.2 (hS.bl ((Bl.refl _).alloc _))).mono ?_
    rintro e w1 ⟨A1, c1, rfl, l1, l2, hr1, hb1⟩
    have hbw := ((Bl.refl w).alloc _).trans hb1
    go_wp2_with fail
    refine (refSameIds A1 D c1 k _ ids _ hpl hids hr1.zero (hD.bl hbw)).mono ?_
    rintro e w2 ⟨rfl, hb2⟩
    go_wp2_with fail
    go_ret
    exact ⟨ret_bool g.out.symm, hbw.trans hb2⟩

/-- An entry that got a chunk. -/
def gotE (x : Entry) (q : Nat) : Entry := ⟨x.id, x.ready, x.pin, x.used, x.known, x.snap, x.got.set q true⟩

theorem HeldO.right {Y G : Nat} {V : World} {x : Entry} {A B : Option Addr} {c d : Nat} (h : HeldO Y G V x A c B d) : HeldO G G V x A c B d :=
  ⟨h.l1, h.l2, h.l3, h.l4, h.hS.up fun _ h => ⟨h.1, h.2.2, h.2.2⟩, h.hG.up fun _ h => ⟨h.1, h.2.2, h.2.2⟩⟩
set_option maxRecDepth 100000 in
set_option maxHeartbeats 2000000 in
theorem refTaken (Y : Nat) (x : Entry) (q : Nat) (A B : Option Addr) (c d : Nat) (w : World) (hY : Y < w.heap.size) (hx : Held w x A c B d) (hsm : smallE x) (hq : q < x.got.length) :
    Calls Try.prog 68 #[.agg #[.int .u32 x.id.t, .int .u8 x.id.r, .bool x.ready, .bool x.pin, .int .i64 x.used, .bool x.known, .slice A x.snap.length c, .slice B x.got.length d], .int .i64 q] w (EntO Y Y (doneE (gotE x q)) w) := by
  have hgl : x.got.length ≤ 1048576 := hsm.2
  have hown := fun W (hb : Bl w W) => refOwn19 x A B c d W hsm (hx.hS.bl hb) (hx.hG.bl hb)
  replace hown := hide hown
  obtain ⟨y, hy⟩ : ∃ y, y = doneE (gotE x q) := ⟨_, rfl⟩
  rw [← hy]
  replace hy := hide hy
  go_enter Try.func68, Try.ntmps68
  go_wp2_with fail
  obtain ⟨W, hW⟩ : ∃ W, W = (w.alloc (Obj.cells #[Value.int IntKind.u32 x.id.t, Value.int IntKind.u8 x.id.r, Value.bool x.ready, Value.bool x.pin, Value.int IntKind.i64 x.used, Value.bool x.known, Value.slice A x.snap.length c, Value.slice B x.got.length d] 31)).alloc (Obj.cells #[Value.int IntKind.u32 0, Value.int IntKind.u8 0, Value.bool false, Value.bool false, Value.int IntKind.i64 0, Value.bool false, Value.slice none 0 0, Value.slice none 0 0] 31) := ⟨_, rfl⟩
  have hblW : Bl w W := by rw [hW]; exact ((Bl.refl _).alloc _).alloc _
  have at0 : EntAt W w.heap.size x A c B d := by rw [hW]; exact entmade_at x A c B d _
  have at1 : EntAt W (w.heap.size + 1) zeroE none 0 none 0 := by rw [hW]; exact entzero_at w _
  have hs0 := at0.lt
  have hs1 := at1.lt
  try rw [hkn] at hW
  try rw [hrn] at hW
  rw [← hW]
  clear hW
  refine (hown.out _ hblW).mono ?_
  rintro e w1 ⟨A1, c1, B1, d1, rfl, l1, l2, l3, l4, hS, hG, hb1⟩
  obtain ⟨b, off, rfl, hlo, hbs⟩ := hG.addr (by omega)
  obtain ⟨x0, x1, x2, x3, x4, x5, x6, x7⟩ := (at0.bl hb1).cells
  obtain ⟨f0, f1, f2, f3, f4, f5, f6, f7⟩ := (at0.bl hb1).frozens
  have hs2 := hb1.size
  obtain ⟨g, hg⟩ := get_lt hq
  obtain ⟨_, hc, hf⟩ := hG.bool hg
  have hbl1 := hblW.trans hb1
  have ne1 : b ≠ w.heap.size := by omega
  have ne2 : b ≠ w.heap.size + 1 := by omega
  have hat := set8_at (at0.bl hb1) x A1 c1 (some ⟨b, off, none⟩) d1
  have hat1 := (at1.bl hb1).set8 (Y := w.heap.size) (y := x) (A' := A1) (B' := some ⟨b, off, none⟩) (c' := c1) (d' := d1) (by omega)
  have hbl2 := set8_bl hbl1 (Y := w.heap.size) (Nat.le_refl _) x A1 c1 (some ⟨b, off, none⟩) d1
  have hS2 := set8_R hS (Y := w.heap.size) (by omega) x A1 c1 (some ⟨b, off, none⟩) d1
  have hG2 := set8_R hG (Y := w.heap.size) (by omega) x A1 c1 (some ⟨b, off, none⟩) d1
  obtain ⟨_, hc2, _⟩ := hG2.bool hg
  have hS3 := hS2.turn_times (z := .bool true) hc2
  have hG3 := hG2.putBool (v := true) hq
  have hat3 := hat.other (E := b) (o := off + q) (by omega) (.bool true)
  have hat13 := hat1.other (E := b) (o := off + q) (by omega) (.bool true)
  have hbl3 := hbl2.setCell (p := ⟨b, off + q, none⟩) (by show w.heap.size ≤ b; omega) (.bool true)
  have hsz : ((set8 w1 w.heap.size x A1 c1 (some ⟨b, off, none⟩) d1).setCell ⟨b, off + q, none⟩ (.bool true)).heap.size = w1.heap.size := by unfold set8; simp [World.setCell]
  go_upto_region 3 with fail
  obtain ⟨V, hV⟩ : ∃ V, V = (set8 w1 w.heap.size x A1 c1 (some ⟨b, off, none⟩) d1).setCell ⟨b, off + q, none⟩ (.bool true) := ⟨_, rfl⟩
  rw [← hV] at hS3 hG3 hat3 hat13 hbl3 hsz
  unfold set8 at hV
  rw [← hV]
  clear hV hc hc2 hf hat hat1 hS2 hG2 hS hG x0 x1 x2 x3 x4 x5 x6 x7 f0 f1 f2 f3 f4 f5 f6 f7 hbl2
  obtain ⟨x0, x1, x2, x3, x4, x5, x6, x7⟩ := hat3.cells
  go_wp2_with fail
  have hlen : (x.got.set q true).length = x.got.length := List.length_set
  have hxV : HeldO (w.heap.size + 1) Y V (gotE x q) A1 c1 (some ⟨b, off, none⟩) d1 :=
    ⟨l1, l2, by show (x.got.set q true).length ≤ d1; rw [hlen]; exact l3, l4, hS3.up fun k hk => ⟨hk.2, by have := hk.1; omega, by have := hk.1; omega⟩, hG3.up fun k hk => ⟨hk.2, by have := hk.1; omega, by have := hk.1; omega⟩⟩
  have hdn := refDone (w.heap.size + 1) Y (gotE x q) A1 (some ⟨b, off, none⟩) c1 d1 V (by show (x.got.set q true).length ≤ _; rw [hlen]; exact hgl) hxV
  have e4 : (gotE x q).got.length = x.got.length := hlen
  rw [e4] at hdn
  refine hdn.mono ?_
  rintro e w8 ⟨A2, c2, B2, d2, rfl, hx2, hb8⟩
  rw [← hy.out] at hx2 ⊢
  have hat2 := hat13.bl hb8
  obtain ⟨y0, y1, y2, y3, y4, y5, y6, y7⟩ := hat2.cells
  obtain ⟨f0, f1, f2, f3, f4, f5, f6, f7⟩ := hat2.frozens
  have hset := set8_bl (hbl3.trans hb8) (Y := w.heap.size + 1) (by omega) y A2 c2 B2 d2
  have hxs : HeldO (w.heap.size + 1) Y (set8 w8 (w.heap.size + 1) y A2 c2 B2 d2) y A2 c2 B2 d2 := HeldO.set8 hx2
  clear hdn hat3 hat13 hat2 hlen e4
  go_wp2_with fail
  refine bodyPost_ret (v := .agg #[.int .u32 y.id.t, .int .u8 y.id.r, .bool y.ready, .bool y.pin, .int .i64 y.used, .bool y.known, .slice A2 y.snap.length c2, .slice B2 y.got.length d2]) (by simp [results, Try.results68, go_sem, y0, y1, y2, y3, y4, y5, y6, y7]) rfl ?_
  exact ⟨A2, c2, B2, d2, rfl, hxs.right, hset⟩

theorem took_done {x : Entry} {q : Nat} {ids : List Id} (hm : entryMay x = true) (hw : wants x (q : Int) ids = true) : tookN x (q : Int) ids = 0 ∧ tookE x (q : Int) ids = doneE (gotE x q) := by
  have hN : tookN x (q : Int) ids = 0 := by unfold tookN; rw [hm, hw]; rfl
  refine ⟨hN, ?_⟩
  unfold tookE
  rw [if_pos hN, Int.toNat_natCast]
  have hk : x.known = true := by
    cases hk : x.known
    · rw [wants_unknown hm hk] at hw; cases hw
    · rfl
  unfold setE doneE gotE
  rw [if_pos rfl, hk]
  show (if (true && !someNot (x.got.set q true)) = true then _ else _) = if someNot (x.got.set q true) = true then _ else _
  cases someNot (x.got.set q true) <;> rfl
theorem wants_at {x : Entry} {n : Int} {ids : List Id} (hw : wants x n ids = true) : ∃ q : Nat, n = (q : Int) ∧ q < x.got.length := by
  unfold wants at hw
  simp only [Bool.and_eq_true, decide_eq_true_eq] at hw
  exact ⟨n.toNat, by omega, by omega⟩

set_option maxRecDepth 100000 in
set_option maxHeartbeats 2000000 in
theorem refTook22 (x : Entry) (n : Int) (ids : List Id) (A B D : Option Addr) (c d k : Nat) (w : World) (hx : Held w x A c B d) (hok : x.ok) (hids : ids.length ≤ maxLen) (hD : R cId 0 w D ids) :
    Calls Try.prog 32 #[.agg #[.int .u32 x.id.t, .int .u8 x.id.r, .bool x.ready, .bool x.pin, .int .i64 x.used, .bool x.known, .slice A x.snap.length c, .slice B x.got.length d], .int .i64 n, .slice D ids.length k] w (EntN (tookE x n ids) (tookN x n ids) w) := by
  have hone := fun W (hb : Bl w W) => refOne19 x A B c d W hok (Nat.le_trans hx.l1 hx.l2) (Nat.le_trans hx.l3 hx.l4) (hx.hS.bl hb)
  cases hmay : entryMay x
  · have e2 := hide (show tookN x n ids = 8 by unfold tookN; rw [hmay]; rfl)
    have e1 := hide (show tookE x n ids = zeroE by unfold tookE; rw [e2.out]; rfl)
    rw [hmay] at hone
    replace hone := hide hone
    clear hmay
    go_enter Try.func32, Try.ntmps32
    go_wp2_with fail
    obtain ⟨W, hW⟩ : ∃ W, W = (w.alloc (Obj.cells #[Value.int IntKind.u32 x.id.t, Value.int IntKind.u8 x.id.r, Value.bool x.ready, Value.bool x.pin, Value.int IntKind.i64 x.used, Value.bool x.known, Value.slice A x.snap.length c, Value.slice B x.got.length d] 31)).alloc (Obj.cells #[Value.int IntKind.u32 0, Value.int IntKind.u8 0, Value.bool false, Value.bool false, Value.int IntKind.i64 0, Value.bool false, Value.slice none 0 0, Value.slice none 0 0] 31) := ⟨_, rfl⟩
    have hblW : Bl w W := by rw [hW]; exact ((Bl.refl _).alloc _).alloc _
    have at0 : EntAt W w.heap.size x A c B d := by rw [hW]; exact entmade_at x A c B d _
    have at1 : EntAt W (w.heap.size + 1) zeroE none 0 none 0 := by rw [hW]; exact entzero_at w _
    have hs0 := at0.lt
    have hs1 := at1.lt
    try rw [hkn] at hW
    try rw [hrn] at hW
    rw [← hW]
    clear hW
    refine (hone.out _ hblW).mono ?_
    rintro e w1 ⟨rfl, hb1⟩
    obtain ⟨x0, x1, x2, x3, x4, x5, x6, x7⟩ := (at0.bl hb1).cells
    obtain ⟨y0, y1, y2, y3, y4, y5, y6, y7⟩ := (at1.bl hb1).cells
    obtain ⟨f0, f1, f2, f3, f4, f5, f6, f7⟩ := (at1.bl hb1).frozens
    have hzs := (at1.bl hb1).lt
    go_wp2_with fail
    refine bodyPost_ret (v := .tuple #[.agg #[.int .u32 0, .int .u8 0, .bool false, .bool false, .int .i64 0, .bool false, .slice none 0 0, .slice none 0 0], .int .i64 8]) (by simp [results, Try.results32, go_sem, y0, y1, y2, y3, y4, y5, y6, y7]) rfl ?_
    rw [e1.out, e2.out]
    exact ⟨none, 0, none, 0, rfl, ⟨Nat.le_refl _, Nat.zero_le _, Nat.le_refl _, Nat.zero_le _, R.nil, R.nil⟩, set8_bl (hblW.trans hb1) (Y := w.heap.size + 1) (by omega) zeroE none 0 none 0⟩
  have hwc := fun W (hb : Bl w W) => refWants x n ids A B D c d k W (hx.bl hb) hmay hids (hD.bl hb)
  rw [hmay] at hone
  replace hone := hide hone
  cases hw : wants x n ids
  · have e2 := hide (show tookN x n ids = 6 by unfold tookN; rw [hmay, hw]; rfl)
    have e1 := hide (show tookE x n ids = zeroE by unfold tookE; rw [e2.out]; rfl)
    rw [hw] at hwc
    replace hwc := hide hwc
    clear hmay hw
    go_enter Try.func32, Try.ntmps32
    go_wp2_with fail
    obtain ⟨W, hW⟩ : ∃ W, W = (w.alloc (Obj.cells #[Value.int IntKind.u32 x.id.t, Value.int IntKind.u8 x.id.r, Value.bool x.ready, Value.bool x.pin, Value.int IntKind.i64 x.used, Value.bool x.known, Value.slice A x.snap.length c, Value.slice B x.got.length d] 31)).alloc (Obj.cells #[Value.int IntKind.u32 0, Value.int IntKind.u8 0, Value.bool false, Value.bool false, Value.int IntKind.i64 0, Value.bool false, Value.slice none 0 0, Value.slice none 0 0] 31) := ⟨_, rfl⟩
    have hblW : Bl w W := by rw [hW]; exact ((Bl.refl _).alloc _).alloc _
    have at0 : EntAt W w.heap.size x A c B d := by rw [hW]; exact entmade_at x A c B d _
    have at1 : EntAt W (w.heap.size + 1) zeroE none 0 none 0 := by rw [hW]; exact entzero_at w _
    have hs0 := at0.lt
    have hs1 := at1.lt
    try rw [hkn] at hW
    try rw [hrn] at hW
    rw [← hW]
    clear hW
    refine (hone.out _ hblW).mono ?_
    rintro e w1 ⟨rfl, hb1⟩
    obtain ⟨x0, x1, x2, x3, x4, x5, x6, x7⟩ := (at0.bl hb1).cells
    obtain ⟨y0, y1, y2, y3, y4, y5, y6, y7⟩ := (at1.bl hb1).cells
    obtain ⟨f0, f1, f2, f3, f4, f5, f6, f7⟩ := (at1.bl hb1).frozens
    have hzs := (at1.bl hb1).lt
    go_wp2_with fail
    refine (hwc.out _ (hblW.trans hb1)).mono ?_
    rintro e w2 ⟨rfl, hb2⟩
    have hb12 := hb1.trans hb2
    clear x0 x1 x2 x3 x4 x5 x6 x7 y0 y1 y2 y3 y4 y5 y6 y7 f0 f1 f2 f3 f4 f5 f6 f7
    obtain ⟨x0, x1, x2, x3, x4, x5, x6, x7⟩ := (at0.bl hb12).cells
    obtain ⟨y0, y1, y2, y3, y4, y5, y6, y7⟩ := (at1.bl hb12).cells
    obtain ⟨f0, f1, f2, f3, f4, f5, f6, f7⟩ := (at1.bl hb12).frozens
    have hzs := (at1.bl hb12).lt
    go_wp2_with fail
    refine bodyPost_ret (v := .tuple #[.agg #[.int .u32 0, .int .u8 0, .bool false, .bool false, .int .i64 0, .bool false, .slice none 0 0, .slice none 0 0], .int .i64 6]) (by simp [results, Try.results32, go_sem, y0, y1, y2, y3, y4, y5, y6, y7]) rfl ?_
    rw [e1.out, e2.out]
    exact ⟨none, 0, none, 0, rfl, ⟨Nat.le_refl _, Nat.zero_le _, Nat.le_refl _, Nat.zero_le _, R.nil, R.nil⟩, set8_bl (hblW.trans hb12) (Y := w.heap.size + 1) (by omega) zeroE none 0 none 0⟩
  · rw [hw] at hwc
    replace hwc := hide hwc
    obtain ⟨q, rfl, hq⟩ := wants_at hw
    obtain ⟨e2, e1⟩ := took_done hmay hw
    replace e1 := hide e1
    replace e2 := hide e2
    have hsm := small_of_may hmay
    have htk := fun W (hb : Bl w W) (hY : w.heap.size + 1 < W.heap.size) => refTaken (w.heap.size + 1) x q A B c d W hY (hx.bl hb) hsm hq
    replace htk := hide htk
    generalize doneE (gotE x q) = y at *
    clear hmay hw
    go_enter Try.func32, Try.ntmps32
    go_wp2_with fail
    obtain ⟨W, hW⟩ : ∃ W, W = (w.alloc (Obj.cells #[Value.int IntKind.u32 x.id.t, Value.int IntKind.u8 x.id.r, Value.bool x.ready, Value.bool x.pin, Value.int IntKind.i64 x.used, Value.bool x.known, Value.slice A x.snap.length c, Value.slice B x.got.length d] 31)).alloc (Obj.cells #[Value.int IntKind.u32 0, Value.int IntKind.u8 0, Value.bool false, Value.bool false, Value.int IntKind.i64 0, Value.bool false, Value.slice none 0 0, Value.slice none 0 0] 31) := ⟨_, rfl⟩
    have hblW : Bl w W := by rw [hW]; exact ((Bl.refl _).alloc _).alloc _
    have at0 : EntAt W w.heap.size x A c B d := by rw [hW]; exact entmade_at x A c B d _
    have at1 : EntAt W (w.heap.size + 1) zeroE none 0 none 0 := by rw [hW]; exact entzero_at w _
    have hs0 := at0.lt
    have hs1 := at1.lt
    try rw [hkn] at hW
    try rw [hrn] at hW
    rw [← hW]
    clear hW
    refine (hone.out _ hblW).mono ?_
    rintro e w1 ⟨rfl, hb1⟩
    obtain ⟨x0, x1, x2, x3, x4, x5, x6, x7⟩ := (at0.bl hb1).cells
    go_wp2_with fail
    refine (hwc.out _ (hblW.trans hb1)).mono ?_
    rintro e w2 ⟨rfl, hb2⟩
    have hb12 := hb1.trans hb2
    clear x0 x1 x2 x3 x4 x5 x6 x7
    obtain ⟨x0, x1, x2, x3, x4, x5, x6, x7⟩ := (at0.bl hb12).cells
    go_wp2_with fail
    refine (htk.out _ (hblW.trans hb12) (at1.bl hb12).lt).mono ?_
    rintro e w3 ⟨A4, c4, B4, d4, rfl, hx3, hb3⟩
    have hb14 := hb12.trans hb3
    clear x0 x1 x2 x3 x4 x5 x6 x7
    obtain ⟨x0, x1, x2, x3, x4, x5, x6, x7⟩ := (at0.bl hb14).cells
    obtain ⟨y0, y1, y2, y3, y4, y5, y6, y7⟩ := (at1.bl hb14).cells
    obtain ⟨f0, f1, f2, f3, f4, f5, f6, f7⟩ := (at1.bl hb14).frozens
    have hzs := (at1.bl hb14).lt
    go_wp2_with fail
    refine bodyPost_ret (v := .tuple #[.agg #[.int .u32 y.id.t, .int .u8 y.id.r, .bool y.ready, .bool y.pin, .int .i64 y.used, .bool y.known, .slice A4 y.snap.length c4, .slice B4 y.got.length d4], .int .i64 0]) (by simp [results, Try.results32, go_sem, y0, y1, y2, y3, y4, y5, y6, y7]) rfl ?_
    rw [e1.out, e2.out]
    exact ⟨A4, c4, B4, d4, rfl, (HeldO.set8 (y := y) (A' := A4) (B' := B4) (c' := c4) (d' := d4) hx3).held, set8_bl (hblW.trans hb14) (Y := w.heap.size + 1) (by omega) y A4 c4 B4 d4⟩

set_option maxRecDepth 100000 in
set_option maxHeartbeats 1000000 in
theorem refLeft22 (x : Entry) (A B : Option Addr) (c d : Nat) (w : World) (hx : Held w x A c B d) (hok : x.ok) :
    Calls Try.prog 33 #[.agg #[.int .u32 x.id.t, .int .u8 x.id.r, .bool x.ready, .bool x.pin, .int .i64 x.used, .bool x.known, .slice A x.snap.length c, .slice B x.got.length d]] w (New2 cInt (leftOf x) (okOr 8 (entryMay x)) w) := by
  have hone := fun W (hb : Bl w W) => refOne19 x A B c d W hok (Nat.le_trans hx.l1 hx.l2) (Nat.le_trans hx.l3 hx.l4) (hx.hS.bl hb)
  cases hmay : entryMay x
  · have e1 := hide (show leftOf x = [] by unfold leftOf; rw [hmay]; rfl)
    rw [hmay] at hone
    replace hone := hide hone
    clear hmay
    go_enter Try.func33, Try.ntmps33
    go_wp2_with fail
    refine (hone.out _ ((Bl.refl w).alloc _)).mono ?_
    rintro e w1 ⟨rfl, hb1⟩
    go_wp2_with fail
    go_ret2
    rw [e1.out]
    exact ⟨none, 0, rfl, Nat.le_refl _, by unfold maxLen; omega, R.nil, ((Bl.refl w).alloc _).trans hb1⟩
  · have e1 := hide (show leftOf x = leftFrom 0 x.got by unfold leftOf; rw [hmay]; rfl)
    have hgl : x.got.length ≤ 1048576 := (small_of_may hmay).2
    have hrs := fun W (hb : Bl w W) => refRest x A B c d W hgl (hx.hG.bl hb)
    rw [hmay] at hone
    replace hone := hide hone
    replace hrs := hide hrs
    clear hmay
    go_enter Try.func33, Try.ntmps33
    go_wp2_with fail
    have hat := EntAt.new w x A c B d 31
    refine (hone.out _ ((Bl.refl w).alloc _)).mono ?_
    rintro e w1 ⟨rfl, hb1⟩
    have hbw := ((Bl.refl w).alloc _).trans hb1
    obtain ⟨x0, x1, x2, x3, x4, x5, x6, x7⟩ := (hat.bl hb1).cells
    go_wp2_with fail
    refine (hrs.out _ hbw).mono ?_
    rintro e w2 ⟨A2, c2, rfl, q1, q2, hr2, hb2⟩
    go_wp2_with fail
    go_ret2
    rw [e1.out]
    exact ⟨A2, c2, rfl, q1, q2, hr2.more hbw.size, hbw.trans hb2⟩
end Go.Proofs.Ytegmddgbdjlidaa
