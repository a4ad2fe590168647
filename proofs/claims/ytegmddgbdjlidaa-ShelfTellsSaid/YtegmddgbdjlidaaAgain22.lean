/-
  The walk of the law FetchAgain.
-/
import Derived.Test.YtegmddgbdjlidaaNames22
import Derived.Test.YtegmddgbdjlidaaPlain22
import Derived.Test.YtegmddgbdjlidaaOpen
namespace Go.Proofs.Ytegmddgbdjlidaa
open Go.RowKit

theorem beginH (x : Entry) (m : List Times) {A B C : Option Addr} {c d k : Nat} {w : World} (hx : x.ok) (hm : m.length ≤ maxLen) (h : Held w x A c B d) (hC : R cTimes 0 w C m) :
    Calls Try.prog 23 #[.agg #[.int .u32 x.id.t, .int .u8 x.id.r, .bool x.ready, .bool x.pin, .int .i64 x.used, .bool x.known, .slice A x.snap.length c, .slice B x.got.length d], .slice C m.length k] w (EntN (beginE x m) (beginN x m) w) :=
  (fetchBegin x A B C c d k m w hx h.l1 h.l2 h.l3 h.l4 hm h.hS h.hG hC).mono fun _ _ h => h.n
theorem zeroSame (w : World) (A B : Option Addr) (c d : Nat) :
    Calls Try.prog 17 #[.agg #[.int .u32 zeroE.id.t, .int .u8 zeroE.id.r, .bool zeroE.ready, .bool zeroE.pin, .int .i64 zeroE.used, .bool zeroE.known, .slice A zeroE.snap.length c, .slice B zeroE.got.length d], .agg #[.int .u32 0, .int .u8 0, .bool false, .bool false, .int .i64 0, .bool false, .slice none 0 0, .slice none 0 0]] w fun e w' => e = .returned (.bool true) ∧ Bl w w' := by
  have := refSameOne zeroE zeroE A B none none c d 0 0 w (Nat.zero_le _) (Nat.zero_le _) (Nat.zero_le _) (Nat.zero_le _) R.nil R.nil R.nil R.nil
  rw [show eqEntry zeroE zeroE = true by unfold eqEntry; simp] at this
  exact this
theorem sameSelf (x : Entry) (w : World) {A B A' B' : Option Addr} {c d c' d' : Nat} (h : Held w x A c B d) (h' : Held w x A' c' B' d') :
    Calls Try.prog 17 #[.agg #[.int .u32 x.id.t, .int .u8 x.id.r, .bool x.ready, .bool x.pin, .int .i64 x.used, .bool x.known, .slice A x.snap.length c, .slice B x.got.length d], .agg #[.int .u32 x.id.t, .int .u8 x.id.r, .bool x.ready, .bool x.pin, .int .i64 x.used, .bool x.known, .slice A' x.snap.length c', .slice B' x.got.length d']] w fun e w' => e = .returned (.bool true) ∧ Bl w w' := by
  have := refSameOne x x A B A' B' c d c' d' w (Nat.le_trans h.l1 h.l2) (Nat.le_trans h.l3 h.l4) (Nat.le_trans h.l1 h.l2) (Nat.le_trans h.l3 h.l4) h.hS h.hG h'.hS h'.hG
  rw [show eqEntry x x = true by unfold eqEntry; simp] at this
  exact this
theorem zeroE_eq {x : Entry} {m : List Times} (h : beginN x m ≠ 0) : beginE x m = zeroE := by unfold beginE; rw [if_neg h]

set_option maxRecDepth 100000 in
set_option maxHeartbeats 2000000 in
theorem fetchAgain (x : Entry) (a b : List Times) (A B C D : Option Addr) (c d k l : Nat) (w : World) (hx : x.ok) (hH : Held w x A c B d) (hQ : QEntry x)
    (ha : a.length ≤ 140737488355328) (has : ∀ y ∈ a, y.s.length ≤ 140737488355328) (hb : b.length ≤ 140737488355328) (hbs : ∀ y ∈ b, y.s.length ≤ 140737488355328) (hC : R cTimes 0 w C a) (hD : R cTimes 0 w D b) :
    Calls Try.prog 7 #[.agg #[.int .u32 x.id.t, .int .u8 x.id.r, .bool x.ready, .bool x.pin, .int .i64 x.used, .bool x.known, .slice A x.snap.length c, .slice B x.got.length d], .slice C a.length k, .slice D b.length l] w fun e w' => e = .returned (.bool true) ∧ Bl w w' := by
  obtain ⟨hQ1, hQ2, hQ3⟩ := hQ
  have has := hide has
  have hbs := hide hbs
  have hQ2 := hide hQ2
  go_enter Try.func7, Try.ntmps7
  go_wp2_with fail
  have at0 : ∀ V, Bl (w.alloc (.cells #[Value.int IntKind.u32 x.id.t, Value.int IntKind.u8 x.id.r, Value.bool x.ready, Value.bool x.pin, Value.int IntKind.i64 x.used, Value.bool x.known, Value.slice A x.snap.length c, Value.slice B x.got.length d] 31)) V → EntAt V w.heap.size x A c B d := fun V hb => (EntAt.new w x A c B d _).bl hb
  have hbl0 : Bl w (w.alloc (.cells #[Value.int IntKind.u32 x.id.t, Value.int IntKind.u8 x.id.r, Value.bool x.ready, Value.bool x.pin, Value.int IntKind.i64 x.used, Value.bool x.known, Value.slice A x.snap.length c, Value.slice B x.got.length d] 31)) := (Bl.refl _).alloc _
  replace at0 := hide at0
  generalize w.alloc (.cells #[Value.int IntKind.u32 x.id.t, Value.int IntKind.u8 x.id.r, Value.bool x.ready, Value.bool x.pin, Value.int IntKind.i64 x.used, Value.bool x.known, Value.slice A x.snap.length c, Value.slice B x.got.length d] 31) = V0 at *
  refine (aliveC _).mono ?_
  rintro e w1 ⟨rfl, hb1⟩
  go_wp2_with fail
  have hw1 := hbl0.trans hb1
  refine (refGreat08 C k a _ ha has.out (hC.bl hw1)).mono ?_
  rintro e w2 ⟨b1, rfl, -, hb2⟩
  cases b1
  rotate_left
  · go_wp2_with fail
    go_ret
    exact ⟨rfl, hw1.trans hb2⟩
  go_wp2_with fail
  have hw2 := hw1.trans hb2
  refine (refGreat08 D l b _ hb hbs.out (hD.bl hw2)).mono ?_
  rintro e w3 ⟨b2, rfl, -, hb3⟩
  have hb03 := (hb1.trans hb2).trans hb3
  obtain ⟨y0, y1, y2, y3, y4, y5, y6, y7⟩ := (at0.out _ hb03).cells
  cases b2
  rotate_left
  · go_wp2_with fail
    go_ret
    exact ⟨rfl, hw2.trans hb3⟩
  go_wp2_with fail
  have hw3 := hw2.trans hb3
  clear y0 y1 y2 y3 y4 y5 y6 y7
  refine (refGreat08 A c x.snap _ hQ1 hQ2.out (hH.hS.bl hw3)).mono ?_
  rintro e w4 ⟨b3, rfl, -, hb4⟩
  have hb04 := hb03.trans hb4
  have hw4 := hw3.trans hb4
  obtain ⟨y0, y1, y2, y3, y4, y5, y6, y7⟩ := (at0.out _ hb04).cells
  cases b3
  rotate_left
  · go_wp2_with fail
    go_ret
    exact ⟨rfl, hw4⟩
  by_cases hg : 300 < x.got.length
  · go_wp2_with fail
    go_ret
    exact ⟨rfl, hw4⟩
  go_wp2_with fail
  clear y0 y1 y2 y3 y4 y5 y6 y7
  have hmx : ∀ n : Nat, n ≤ 140737488355328 → n ≤ maxLen := fun n h => by unfold maxLen; omega
  refine (beginH x a hx (hmx _ ha) (hH.bl hw4) (hC.bl hw4)).mono ?_
  rintro e w5 ⟨A5, c5, B5, d5, rfl, hx5, hb5⟩
  by_cases hn : beginN x a = 0
  rotate_left
  · have hn' : (beginN x a != 0) = true := by simp [hn]
    rw [zeroE_eq hn] at hx5 ⊢
    go_wp2_with fail
    refine (zeroSame _ _ _ _ _).mono ?_
    rintro e w6 ⟨rfl, hb6⟩
    go_wp2_with fail
    go_ret
    exact ⟨rfl, ((hw4.trans hb5).alloc _).trans hb6⟩
  obtain ⟨hmay, hyok, -, -, -, -⟩ := begun hn hx
  have hrd := hide (again_ready hn hx)
  have hsm := hide (again_same hn hx)
  rw [hn]
  clear hn
  generalize beginE x a = y at *
  have hw5 := hw4.trans hb5
  go_wp2_with fail
  have at5 : ∀ V, Bl (w5.alloc (.cells #[Value.int IntKind.u32 y.id.t, Value.int IntKind.u8 y.id.r, Value.bool y.ready, Value.bool y.pin, Value.int IntKind.i64 y.used, Value.bool y.known, Value.slice A5 y.snap.length c5, Value.slice B5 y.got.length d5] 31)) V → EntAt V w5.heap.size y A5 c5 B5 d5 := fun V hb => (EntAt.new w5 y A5 c5 B5 d5 _).bl hb
  have hbl5 : Bl w (w5.alloc (.cells #[Value.int IntKind.u32 y.id.t, Value.int IntKind.u8 y.id.r, Value.bool y.ready, Value.bool y.pin, Value.int IntKind.i64 y.used, Value.bool y.known, Value.slice A5 y.snap.length c5, Value.slice B5 y.got.length d5] 31)) := hw5.alloc _
  replace hx5 : Held (w5.alloc (.cells #[Value.int IntKind.u32 y.id.t, Value.int IntKind.u8 y.id.r, Value.bool y.ready, Value.bool y.pin, Value.int IntKind.i64 y.used, Value.bool y.known, Value.slice A5 y.snap.length c5, Value.slice B5 y.got.length d5] 31)) y A5 c5 B5 d5 := hx5.bl ((Bl.refl _).alloc _)
  replace at5 := hide at5
  generalize w5.alloc (.cells #[Value.int IntKind.u32 y.id.t, Value.int IntKind.u8 y.id.r, Value.bool y.ready, Value.bool y.pin, Value.int IntKind.i64 y.used, Value.bool y.known, Value.slice A5 y.snap.length c5, Value.slice B5 y.got.length d5] 31) = V5 at *
  have hag := beginH y a hyok (hmx _ ha) hx5 (hC.bl hbl5) (k := k)
  obtain ⟨yi, yr, yp, yu, yk, ys, yg⟩ := y
  cases yr
  · obtain ⟨n1, e1, s1⟩ := hsm.out rfl
    rw [n1, e1] at hag
    clear n1 e1 hsm hrd
    replace s1 : ys = a := s1
    subst ys
    refine hag.mono ?_
    rintro e w6 ⟨A6, c6, B6, d6, rfl, hx6, hb6⟩
    clear hag
    obtain ⟨y0, y1, y2, y3, y4, y5, y6, y7⟩ := (at5.out _ hb6).cells
    have hz6 := (at5.out _ hb6).lt
    go_wp2_with fail
    have at6 : ∀ V, Bl (w6.alloc (.cells #[Value.int IntKind.u32 yi.t, Value.int IntKind.u8 yi.r, Value.bool false, Value.bool yp, Value.int IntKind.i64 yu, Value.bool yk, Value.slice A6 a.length c6, Value.slice B6 yg.length d6] 31)) V → EntAt V w6.heap.size ⟨yi, false, yp, yu, yk, a, yg⟩ A6 c6 B6 d6 := fun V hb => (EntAt.new w6 ⟨yi, false, yp, yu, yk, a, yg⟩ A6 c6 B6 d6 _).bl hb
    have hV6 : Bl w6 (w6.alloc (.cells #[Value.int IntKind.u32 yi.t, Value.int IntKind.u8 yi.r, Value.bool false, Value.bool yp, Value.int IntKind.i64 yu, Value.bool yk, Value.slice A6 a.length c6, Value.slice B6 yg.length d6] 31)) := (Bl.refl _).alloc _
    replace at6 := hide at6
    clear y0 y1 y2 y3 y4 y5 y6 y7
    generalize w6.alloc (.cells #[Value.int IntKind.u32 yi.t, Value.int IntKind.u8 yi.r, Value.bool false, Value.bool yp, Value.int IntKind.i64 yu, Value.bool yk, Value.slice A6 a.length c6, Value.slice B6 yg.length d6] 31) = V6 at *
    have hb56 := hb6.trans hV6
    have hbl6 := hbl5.trans hb56
    have hx5b := hx5.bl hb56
    have hx6b := hx6.bl hV6
    have hot := hide (fun h => again_other (y := ⟨yi, false, yp, yu, yk, a, yg⟩) (b := b) h hyok)
    have hbg := beginH ⟨yi, false, yp, yu, yk, a, yg⟩ b hyok (hmx _ hb) hx5b (hD.bl hbl6) (k := l)
    generalize beginN ⟨yi, false, yp, yu, yk, a, yg⟩ b = N at *
    generalize beginE ⟨yi, false, yp, yu, yk, a, yg⟩ b = Z at *
    refine hbg.mono ?_
    rintro e w7 ⟨A7, c7, B7, d7, rfl, hx7, hb7⟩
    clear hbg
    have hb57 := hb56.trans hb7
    obtain ⟨y0, y1, y2, y3, y4, y5, y6, y7⟩ := (at5.out _ hb57).cells
    obtain ⟨z0, z1, z2, z3, z4, z5, z6, z7⟩ := (at6.out _ hb7).cells
    have hz7 := (at5.out _ hb57).lt
    have hz8 := (at6.out _ hb7).lt
    go_wp2_with fail
    have at7 : ∀ V, Bl (w7.alloc (.cells #[Value.int IntKind.u32 Z.id.t, Value.int IntKind.u8 Z.id.r, Value.bool Z.ready, Value.bool Z.pin, Value.int IntKind.i64 Z.used, Value.bool Z.known, Value.slice A7 Z.snap.length c7, Value.slice B7 Z.got.length d7] 31)) V → EntAt V w7.heap.size Z A7 c7 B7 d7 := fun V hb => (EntAt.new w7 Z A7 c7 B7 d7 _).bl hb
    have hV7 : Bl w7 (w7.alloc (.cells #[Value.int IntKind.u32 Z.id.t, Value.int IntKind.u8 Z.id.r, Value.bool Z.ready, Value.bool Z.pin, Value.int IntKind.i64 Z.used, Value.bool Z.known, Value.slice A7 Z.snap.length c7, Value.slice B7 Z.got.length d7] 31)) := (Bl.refl _).alloc _
    replace at7 := hide at7
    clear y0 y1 y2 y3 y4 y5 y6 y7 z0 z1 z2 z3 z4 z5 z6 z7
    generalize w7.alloc (.cells #[Value.int IntKind.u32 Z.id.t, Value.int IntKind.u8 Z.id.r, Value.bool Z.ready, Value.bool Z.pin, Value.int IntKind.i64 Z.used, Value.bool Z.known, Value.slice A7 Z.snap.length c7, Value.slice B7 Z.got.length d7] 31) = V7 at *
    have hb67 := hb7.trans hV7
    have hb57V := hb56.trans hb67
    refine (sameSelf ⟨yi, false, yp, yu, yk, a, yg⟩ _ (hx5.bl hb57V) (hx6b.bl hb67)).mono ?_
    rintro e w8 ⟨rfl, hb8⟩
    have hb58 := hb57V.trans hb8
    obtain ⟨y0, y1, y2, y3, y4, y5, y6, y7⟩ := (at5.out _ hb58).cells
    have hx58 := hx5.bl hb58
    go_wp2_with fail
    have hchk := shelfCheck (some ⟨w8.heap.size, 0, none⟩) 1 [⟨yi, false, yp, yu, yk, a, yg⟩] (w8.alloc (.cells #[Value.int IntKind.u32 yi.t, Value.int IntKind.u8 yi.r, Value.bool false, Value.bool yp, Value.int IntKind.i64 yu, Value.bool yk, Value.slice A5 a.length c5, Value.slice B5 yg.length d5] 31)) (by simp [maxLen]) (R.single (C := cEntry) (lo := 0) (w := w8) (x := ⟨yi, false, yp, yu, yk, a, yg⟩) (cs := entryCells ⟨yi, false, yp, yu, yk, a, yg⟩ A5 c5 B5 d5) (t := 31) ⟨hyok, A5, c5, B5, d5, hx58.l1, hx58.l2, hx58.l3, hx58.l4, rfl, hx58.hS, hx58.hG⟩ (Nat.zero_le _))
    rw [shelfMay_one, hmay, okOr_true] at hchk
    refine hchk.mono ?_
    rintro e w9 ⟨rfl, hb9⟩
    clear y0 y1 y2 y3 y4 y5 y6 y7 hchk
    have hb89 : Bl w8 w9 := ((Bl.refl _).alloc _).trans hb9
    have hb59 := hb58.trans hb89
    obtain ⟨y0, y1, y2, y3, y4, y5, y6, y7⟩ := (at5.out _ hb59).cells
    go_wp2_with fail
    have hsm := refSame08 A5 C c5 k a a w9 (hmx _ ha) (hmx _ ha) (hx58.hS.bl hb89) (hC.bl (hbl5.trans hb59))
    rw [show same a a = true by unfold same; simp] at hsm
    refine hsm.mono ?_
    rintro e w10 ⟨rfl, hb10⟩
    clear y0 y1 y2 y3 y4 y5 y6 y7 hsm
    have hb7z : Bl V7 w10 := (hb8.trans hb89).trans hb10
    obtain ⟨z0, z1, z2, z3, z4, z5, z6, z7⟩ := (at7.out _ hb7z).cells
    have hfin := (hbl5.trans hb59).trans hb10
    by_cases hN : N = 0
    · have hZ := hot.out hN
      have hx7z := hx7.bl (hV7.trans hb7z)
      subst hN
      obtain ⟨zi, zr, zp, zu, zk, zs, zg⟩ := Z
      cases zr
      · have hzs : zs = b := by
          rcases hZ with h | h
          · cases h
          · exact h
        subst zs
        clear hZ hot
        go_wp2_with fail
        have hsm := refSame08 A7 D c7 l b b w10 (hmx _ hb) (hmx _ hb) hx7z.hS (hD.bl hfin)
        rw [show same b b = true by unfold same; simp] at hsm
        refine hsm.mono ?_
        rintro e w11 ⟨rfl, hb11⟩
        go_wp2_with fail
        go_ret
        exact ⟨rfl, hfin.trans hb11⟩
      · clear hZ hot
        go_wp2_with fail
        go_ret
        exact ⟨rfl, hfin⟩
    · clear hot
      have hN' : (N != 0) = true := by simp [hN]
      go_wp2_with fail
      go_ret
      exact ⟨rfl, hfin⟩
  · obtain ⟨n1, s1⟩ := hrd.out rfl
    rw [n1] at hag
    clear n1 hsm hrd
    replace s1 : ys = [] := s1
    subst ys
    refine hag.mono ?_
    rintro e w6 ⟨A6, c6, B6, d6, rfl, hx6, hb6⟩
    clear hag
    obtain ⟨y0, y1, y2, y3, y4, y5, y6, y7⟩ := (at5.out _ hb6).cells
    have hz6 := (at5.out _ hb6).lt
    go_wp2_with fail
    have hw6 := (hbl5.trans hb6).alloc (.cells #[Value.int IntKind.u32 (beginE ⟨yi, true, yp, yu, yk, [], yg⟩ a).id.t, Value.int IntKind.u8 (beginE ⟨yi, true, yp, yu, yk, [], yg⟩ a).id.r, Value.bool (beginE ⟨yi, true, yp, yu, yk, [], yg⟩ a).ready, Value.bool (beginE ⟨yi, true, yp, yu, yk, [], yg⟩ a).pin, Value.int IntKind.i64 (beginE ⟨yi, true, yp, yu, yk, [], yg⟩ a).used, Value.bool (beginE ⟨yi, true, yp, yu, yk, [], yg⟩ a).known, Value.slice A6 (beginE ⟨yi, true, yp, yu, yk, [], yg⟩ a).snap.length c6, Value.slice B6 (beginE ⟨yi, true, yp, yu, yk, [], yg⟩ a).got.length d6] 31)
    refine (beginH ⟨yi, true, yp, yu, yk, [], yg⟩ b hyok (hmx _ hb) (hx5.bl (hb6.alloc _)) (hD.bl hw6)).mono ?_
    rintro e w7 ⟨A7, c7, B7, d7, rfl, hx7, hb7⟩
    clear y0 y1 y2 y3 y4 y5 y6 y7
    have hb57 := (hb6.alloc (.cells #[Value.int IntKind.u32 (beginE ⟨yi, true, yp, yu, yk, [], yg⟩ a).id.t, Value.int IntKind.u8 (beginE ⟨yi, true, yp, yu, yk, [], yg⟩ a).id.r, Value.bool (beginE ⟨yi, true, yp, yu, yk, [], yg⟩ a).ready, Value.bool (beginE ⟨yi, true, yp, yu, yk, [], yg⟩ a).pin, Value.int IntKind.i64 (beginE ⟨yi, true, yp, yu, yk, [], yg⟩ a).used, Value.bool (beginE ⟨yi, true, yp, yu, yk, [], yg⟩ a).known, Value.slice A6 (beginE ⟨yi, true, yp, yu, yk, [], yg⟩ a).snap.length c6, Value.slice B6 (beginE ⟨yi, true, yp, yu, yk, [], yg⟩ a).got.length d6] 31)).trans hb7
    obtain ⟨y0, y1, y2, y3, y4, y5, y6, y7⟩ := (at5.out _ hb57).cells
    have hz7 := (at5.out _ hb57).lt
    go_wp2_with fail
    go_ret
    exact ⟨rfl, (hw6.trans hb7).alloc _⟩
end Go.Proofs.Ytegmddgbdjlidaa
