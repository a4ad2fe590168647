/-
  The walks of slices.ContainsFunc at operations, of marks.Joined and its closure.
  The walk of shift.joined, where neither is here, and whole.
  The walks of shift.Turn, its closure.
  The walks of law 20's inner ones: mark, join, ready, turns, alive.
-/
import Derived.Test.YteoodmilcpmmpaaGreatLessB
import Derived.Test.YteoodmilcpmmpaaGreatLiveP
import Derived.Test.YteoodmilcpmmpaaGreatJoinFT
import Derived.Test.YteoodmilcpmmpaaGreatJoinTF
import Derived.Test.YteoodmilcpmmpaaGreatJoinTT
import Derived.Test.YteoodmilcpmmpaaGreatShelfRef
namespace Go.Proofs.YteoodmilcpmmpaaGreat
open Go.RowKit

set_option maxRecDepth 100000 in
set_option maxHeartbeats 1000000 in
theorem opContainsFunc (fn : FuncId) (ps : Array Value) (hfe : ∀ args w, (callFunc fn args).run Tryz.prog w = .ok (.enter fn args) w) (A : Option Addr) (c : Nat) (l : List Op) (p : Op → Bool) (w0 w : World) (hb0 : Bl w0 w) (hl : l.length ≤ 1048576) (hA : R cOp 0 w A l) (hp : PredO w0 fn ps l p) :
    Calls Tryz.prog 123 #[.slice A l.length c, .func (.func fn) #[] ps] w fun e w' => e = .returned (.bool (l.any p)) ∧ Bl w w' := by
  have hix := hide (opIndexFunc fn ps hfe A c l p w0 w hb0 hl hA hp)
  obtain ⟨T, hT⟩ : ∃ T, T = l.any p := ⟨_, rfl⟩
  rw [← hT]
  replace hT := hide hT
  go_enter Tryz.func123, Tryz.ntmps123
  go_wp2_with fail
  refine hix.out.mono ?_
  rintro e w1 ⟨r, rfl, hfst, hb1⟩
  rcases hfst with ⟨rfl, hno⟩ | ⟨k, x, rfl, hx, hpx, -⟩
  · have g := hide (show false = T by
      rw [hT.out, eq_comm, List.any_eq_false]
      intro x hx
      rw [hno x hx]
      decide)
    clear hno
    go_wp2_with fail
    go_ret
    exact ⟨ret_bool g.out, hb1⟩
  · have g := hide (show true = T by
      rw [hT.out, eq_comm, List.any_eq_true]
      exact ⟨x, List.mem_of_getElem? hx, hpx⟩)
    have hk : decide ((0 : Int) ≤ (k : Int)) = true := by simp
    clear hx hpx
    go_wp2_with fail
    go_ret
    exact ⟨ret_bool g.out, hb1⟩

def joinedX (s : Id) (o : Op) : Bool := decide (o.kind = 4) && decide (placeFin o.pl = s)

set_option maxRecDepth 100000 in
set_option maxHeartbeats 1000000 in
theorem joined1 (x : Op) (A : Option Addr) (c Y : Nat) (s : Id) (w : World) (hx : OpIn w x A c) (hY : IdBox w Y s) :
    Calls Tryz.prog 122 #[.agg #[.int .u8 x.kind, .int .u32 x.id.t, .int .u8 x.id.r, .slice A x.pl.length c, .int .i64 x.pt], .pointer (some ⟨Y, 0, none⟩)] w fun e w' => e = .returned (.bool (joinedX s x)) ∧ Bl w w' := by
  obtain ⟨W, hW⟩ : ∃ W, W = w.alloc (.cells #[Value.int IntKind.u8 x.kind, Value.int IntKind.u32 x.id.t, Value.int IntKind.u8 x.id.r, Value.slice A x.pl.length c, Value.int IntKind.i64 x.pt] 47) := ⟨_, rfl⟩
  have hbW : Bl w W := by rw [hW]; exact (Bl.refl _).alloc _
  have at0 : OpBox W w.heap.size x A c := by rw [hW]; exact OpBox.new w x A c _
  have atY := hY.bl hbW
  have hla := fun p : Wd W => placeLast A c x.pl p.v hx.small (hx.hR.bl (hbW.trans p.h))
  obtain ⟨x0, x1, x2, x3, x4⟩ := at0.cells
  have hal := at0.lt
  have hyl := atY.lt
  have X0 := fun p : Wd W => Wd.cell x0 hal p
  have X3 := fun p : Wd W => Wd.cell x3 hal p
  have Y0 := fun p : Wd W => Wd.cell atY.c0 hyl p
  have Y1 := fun p : Wd W => Wd.cell atY.c1 hyl p
  obtain ⟨T, hT⟩ : ∃ T, T = joinedX s x := ⟨_, rfl⟩
  rw [← hT]
  have hjn : joinedX s x = (decide (x.kind = 4) && !neqId (placeFin x.pl) s) := by unfold joinedX neqId; rw [Bool.not_not]
  rw [hjn] at hT
  have heq := run_eqId (placeFin x.pl) s
  generalize placeFin x.pl = q at *
  clear hjn x0 x1 x2 x3 x4
  by_cases hk4 : x.kind = 4
  · have e4 : (x.kind == 4) = true := by simp [hk4]
    rw [decide_eq_true hk4, Bool.true_and] at hT
    replace hk4 := hide hk4
    obtain ⟨v, hv⟩ : ∃ v, v = neqId q s := ⟨_, rfl⟩
    rw [← hv] at hT heq
    have g := hide hT
    replace hla := hide hla
    clear hT hv
    go_enter Tryz.func122, Tryz.ntmps122
    go_wp2_with fail
    rw [← hW]
    clear hW
    (refine wp_region_wd (by kernel_rfl) (by kernel_rfl) ?_
     repeat (go_big_quiet_step ((go_at_call 61; exact Calls.wd (hla.out _))))
     refine wpQuiet_nil ?_
     intro w2 hw'
     obtain ⟨⟨wx, hb2⟩, hw''⟩ := hw'
     subst hw'')
    go_wp2_with fail
    go_ret
    exact ⟨ret_bool g.out.symm, hbW.trans hb2⟩
  · have e4 : (x.kind == 4) = false := by simp [hk4]
    have g := hide (show false = T by rw [hT, decide_eq_false hk4]; rfl)
    replace hk4 := hide hk4
    clear hT hla
    go_enter Tryz.func122, Tryz.ntmps122
    go_wp2_with fail
    rw [← hW]
    clear hW
    (refine wp_region_wd (by kernel_rfl) (by kernel_rfl) ?_
     repeat (go_big_quiet_step ((fail)))
     refine wpQuiet_nil ?_
     intro w2 hw'
     obtain ⟨⟨wx, hb2⟩, hw''⟩ := hw'
     subst hw'')
    go_wp2_with fail
    go_ret
    exact ⟨ret_bool g.out, hbW.trans hb2⟩

set_option maxRecDepth 100000 in
set_option maxHeartbeats 1000000 in
theorem marksJoined (A : Option Addr) (c : Nat) (l : List Op) (s : Id) (w : World) (hl : l.length ≤ maxLen) (hA : R cOp 0 w A l) :
    Calls Tryz.prog 72 #[.slice A l.length c, .agg #[.int .u32 s.t, .int .u8 s.r]] w fun e w' => e = .returned (.bool (bagMay l && endedF l s)) ∧ Bl w w' := by
  have hck := fun V (hv : Bl w V) => bagCheck A c l V hl (hA.bl hv)
  obtain ⟨W, hW⟩ : ∃ W, W = w.alloc (.cells #[Value.int IntKind.u32 s.t, Value.int IntKind.u8 s.r] 25) := ⟨_, rfl⟩
  have hbW : Bl w W := by rw [hW]; exact (Bl.refl _).alloc _
  have at0 : IdBox W w.heap.size s := by rw [hW]; exact IdBox.new w s _
  cases h : bagMay l
  · rw [h] at hck
    replace hck := hide hck
    clear h
    go_enter Tryz.func72, Tryz.ntmps72
    go_wp2_with fail
    rw [← hW]
    clear hW
    refine (hck.out _ hbW).mono ?_
    rintro e w1 ⟨rfl, hb1⟩
    go_wp2_with fail
    go_ret
    exact ⟨rfl, hbW.trans hb1⟩
  · rw [h] at hck
    replace hck := hide hck
    have hl1 : l.length ≤ 1024 := (bagMay_parts h).1
    have hp : PredO W 122 #[.pointer (some ⟨w.heap.size, 0, none⟩)] l (joinedX s) := fun V x A c _ hV hx => joined1 x A c w.heap.size s V hx (at0.bl hV)
    have hcf := hide fun V (hv : Bl W V) => opContainsFunc 122 #[.pointer (some ⟨w.heap.size, 0, none⟩)] (enters_of Tryz.func122 (by kernel_rfl) rfl) A c l (joinedX s) W V hv (by omega) (hA.bl (hbW.trans hv)) hp
    rw [show (true && endedF l s) = l.any (joinedX s) from Bool.true_and _]
    generalize l.any (joinedX s) = T at *
    clear h hp
    go_enter Tryz.func72, Tryz.ntmps72
    go_wp2_with fail
    rw [← hW]
    clear hW
    refine (hck.out _ hbW).mono ?_
    rintro e w1 ⟨rfl, hb1⟩
    go_wp2_with fail
    refine (hcf.out _ hb1).mono ?_
    rintro e w2 ⟨rfl, hb2⟩
    go_wp2_with fail
    go_ret
    exact ⟨rfl, hbW.trans (hb1.trans hb2)⟩
end Go.Proofs.YteoodmilcpmmpaaGreat

namespace Go.Proofs.YteoodmilcpmmpaaGreat
open Go.RowKit

set_option maxRecDepth 100000 in
set_option maxHeartbeats 16000000 in
theorem shiftJoinedFF (A B S : Option Addr) (c d sc : Nat) (l : List Op) (H : List Entry) (o : Op) (w : World) (hl : l.length ≤ maxLen) (hh : H.length ≤ 65) (hsm : smallS H) (hA : R cOp 0 w A l) (hB : R cEntry 0 w B H) (ho : OpIn w o S sc) (his0 : findB H (aheadS l (placeFin o.pl)) = false) (hwas0 : findB H (placeFin o.pl) = false) :
    Calls Tryz.prog 74 #[.slice A l.length c, .slice B H.length d, .agg #[.int .u8 o.kind, .int .u32 o.id.t, .int .u8 o.id.r, .slice S o.pl.length sc, .int .i64 o.pt]] w (New2 cEntry (joinEL l H o) (joinEN l H o) w) := by
  obtain ⟨W, hW⟩ : ∃ W, W = w.alloc (.cells #[Value.int IntKind.u8 o.kind, Value.int IntKind.u32 o.id.t, Value.int IntKind.u8 o.id.r, Value.slice S o.pl.length sc, Value.int IntKind.i64 o.pt] 47) := ⟨_, rfl⟩
  have hbW : Bl w W := by rw [hW]; exact (Bl.refl _).alloc _
  have at0 : OpBox W w.heap.size o S sc := by rw [hW]; exact OpBox.new w o S sc _
  have hla := hide (placeLast S sc o.pl W ho.small (ho.hR.bl hbW))
  have hmok := fin_ok ho.hR
  have haok := aheadS_ok hA.oksO (placeFin o.pl)
  have hah := hide fun V (hv : Bl w V) => homeAhead A c l (placeFin o.pl) V hl (hA.bl hv)
  have hfa := hide fun V (hv : Bl w V) => shelfFind B d H (aheadS l (placeFin o.pl)) V (by omega) haok (hB.bl hv)
  have hfm := hide fun V (hv : Bl w V) => shelfFind B d H (placeFin o.pl) V (by omega) hmok (hB.bl hv)
  have htw := hide fun V (hv : Bl w V) => shelfTwinO B d H V hsm (hB.bl hv)
  have hadd := hide fun V (hv : Bl w V) => bagAdd A S c sc l o V hl (hA.bl hv) (ho.bl hv)
  have hdr := hide fun V (hv : Bl w V) => shelfDrop B d H (placeFin o.pl) V (by omega) hmok (hB.bl hv)
  have hxok := findE_ok hB.oksE (aheadS l (placeFin o.pl))
  have hyok := findE_ok hB.oksE (placeFin o.pl)
  have hdl := dropL_len H (placeFin o.pl)
  obtain ⟨Z, hZ⟩ : ∃ Z, Z = joinZ l H o := ⟨_, rfl⟩
  obtain ⟨L, hL⟩ : ∃ L, L = joinEL l H o := ⟨_, rfl⟩
  obtain ⟨N, hN⟩ : ∃ N, N = joinEN l H o := ⟨_, rfl⟩
  rw [← hL, ← hN]
  unfold joinEL someB joinH at hL
  unfold joinEN someB joinH at hN
  rw [← hZ] at hL hN
  unfold joinZ at hZ
  have hwl := hide fun X x V (hX : R cOp 0 V X (addL l o)) (hN : addN l o = 0) => shiftWhole X x (addL l o) (aheadS l (placeFin o.pl)) V (by have := addL_small hN; omega) hX
  obtain ⟨x0, x1, x2, x3, x4⟩ := at0.cells
  have hxl := at0.lt
  rw [his0, hwas0, if_neg (by decide)] at hL hN
  rw [his0] at hfa
  rw [hwas0] at hfm
  replace hL := hide hL
  generalize whereN l (placeFin o.pl) 1 = wn at *
  generalize aheadS l (placeFin o.pl) = a at *
  generalize placeFin o.pl = m at *
  generalize findE H a = x at *
  generalize findE H m = y at *
  generalize addL l o = l2 at *
  generalize addN l o = n2 at *
  generalize wholeB l2 a = wh at *
  replace hN := hide hN
  replace hZ := hide hZ
  go_enter Tryz.func74, Tryz.ntmps74
  go_wp2_with fail
  rw [← hW]
  clear hW
  refine hla.out.mono ?_
  rintro e w1 ⟨rfl, hb1⟩
  obtain ⟨V1, hV1⟩ : ∃ V1, V1 = w1.alloc (.cells #[Value.int IntKind.u32 m.t, Value.int IntKind.u8 m.r] 25) := ⟨_, rfl⟩
  have at1 : IdBox V1 w1.heap.size m := by rw [hV1]; exact IdBox.new w1 m _
  have hb1V : Bl w1 V1 := by rw [hV1]; exact (Bl.refl _).alloc _
  have hbW1 := hb1.trans hb1V
  clear x0 x1 x2 x3 x4 hxl hla
  go_wp2_with fail
  rw [← hV1]
  clear hV1
  refine (hah.out _ (hbW.trans hbW1)).mono ?_
  rintro e w2 ⟨rfl, hb2⟩
  obtain ⟨V2, hV2⟩ : ∃ V2, V2 = w2.alloc (.cells #[Value.int IntKind.u32 a.t, Value.int IntKind.u8 a.r] 25) := ⟨_, rfl⟩
  have at2 : IdBox V2 w2.heap.size a := by rw [hV2]; exact IdBox.new w2 a _
  have hb2V : Bl w2 V2 := by rw [hV2]; exact (Bl.refl _).alloc _
  have hb12 := hb2.trans hb2V
  have hbW2 := hbW1.trans hb12
  clear hah
  go_wp2_with fail
  rw [← hV2]
  clear hV2
  refine (hfa.out _ (hbW.trans hbW2)).mono ?_
  rintro e w3 ⟨XA, xc, XB, xd, rfl, -, -, -, -, -, -, hb3⟩
  obtain ⟨V3, hV3⟩ : ∃ V3, V3 = w3.alloc (.cells #[Value.int IntKind.u32 x.id.t, Value.int IntKind.u8 x.id.r, Value.bool x.ready, Value.bool x.pin, Value.int IntKind.i64 x.used, Value.bool x.known, Value.slice XA x.snap.length xc, Value.slice XB x.got.length xd] 62) := ⟨_, rfl⟩
  have at3 : EntAt V3 w3.heap.size x XA xc XB xd := by rw [hV3]; exact EntAt.new w3 x XA xc XB xd _
  have hb3V : Bl w3 V3 := by rw [hV3]; exact (Bl.refl _).alloc _
  have hb23 := hb3.trans hb3V
  obtain ⟨i0, i1, -, -⟩ := at1.bl (hb12.trans hb23)
  have hil := (at1.bl (hb12.trans hb23)).lt
  clear hfa
  go_upto_region 4 with fail
  rw [← hV3]
  clear hV3
  go_wp2_with fail
  refine (hfm.out _ (hbW.trans (hbW2.trans hb23))).mono ?_
  rintro e w4 ⟨YA, yc, YB, yd, rfl, -, -, -, -, -, -, hb4⟩
  obtain ⟨V4, hV4⟩ : ∃ V4, V4 = w4.alloc (.cells #[Value.int IntKind.u32 y.id.t, Value.int IntKind.u8 y.id.r, Value.bool y.ready, Value.bool y.pin, Value.int IntKind.i64 y.used, Value.bool y.known, Value.slice YA y.snap.length yc, Value.slice YB y.got.length yd] 62) := ⟨_, rfl⟩
  have at4 : EntAt V4 w4.heap.size y YA yc YB yd := by rw [hV4]; exact EntAt.new w4 y YA yc YB yd _
  have hb4V : Bl w4 V4 := by rw [hV4]; exact (Bl.refl _).alloc _
  have hb34 := hb3V.trans (hb4.trans hb4V)
  have at34 := at3.bl (hb4.trans hb4V)
  have hY4 : w3.heap.size < w4.heap.size := Nat.lt_of_lt_of_le at3.lt hb4.size
  have hbW3 := hbW2.trans hb3
  clear hfm i0 i1 hil
  clear hZ hwl hadd hdr his0 hwas0
  go_wp2_with fail
  rw [← hV4]
  clear hV4
  refine (htw.out _ (hbW.trans (hbW3.trans hb34))).mono ?_
  rintro e w5 ⟨v5, rfl, hown, hb5⟩
  obtain ⟨X, xc3, hvx, hX, y1, y2⟩ := hown.reads
  subst hvx
  go_wp2_with fail
  go_ret2
  rw [hL.out, hN.out]
  exact ⟨X, xc3, rfl, y1, y2, hX.more (hbW.trans (hbW3.trans hb34)).size, (hbW.trans (hbW3.trans hb34)).trans hb5⟩

theorem shiftJoined (A B S : Option Addr) (c d sc : Nat) (l : List Op) (H : List Entry) (o : Op) (w : World) (hl : l.length ≤ maxLen) (hh : H.length ≤ 65) (hsm : smallS H) (hA : R cOp 0 w A l) (hB : R cEntry 0 w B H) (ho : OpIn w o S sc) :
    Calls Tryz.prog 74 #[.slice A l.length c, .slice B H.length d, .agg #[.int .u8 o.kind, .int .u32 o.id.t, .int .u8 o.id.r, .slice S o.pl.length sc, .int .i64 o.pt]] w (New2 cEntry (joinEL l H o) (joinEN l H o) w) := by
  cases h1 : findB H (aheadS l (placeFin o.pl))
  · cases h2 : findB H (placeFin o.pl)
    · exact shiftJoinedFF A B S c d sc l H o w hl hh hsm hA hB ho h1 h2
    · exact shiftJoinedFT A B S c d sc l H o w hl hh hsm hA hB ho h1 h2
  · cases h2 : findB H (placeFin o.pl)
    · exact shiftJoinedTF A B S c d sc l H o w hl hh hsm hA hB ho h1 h2
    · exact shiftJoinedTT A B S c d sc l H o w hl hh hsm hA hB ho h1 h2
end Go.Proofs.YteoodmilcpmmpaaGreat

namespace Go.Proofs.YteoodmilcpmmpaaGreat
open Go.RowKit

/-- Which way the operation goes: 0 it may not be, or is content; 1 the shelf stays; 2 the bag is full; 3 a mark; 4 a join. -/
def turnK (l : List Op) (h : List Entry) (o : Op) : Nat :=
  if fitsB l h && opMay o then
    (if contentO o then 0 else if hasId l o.id then 1 else if l.length = 1024 then 2
      else if o.kind = 2 then (if endedF l o.id then 1 else 3)
      else if o.kind = 4 then (if memId (sectF (livesF l)) (placeFin o.pl) then 4 else 1) else 1)
  else 0

def turnL (l : List Op) (h : List Entry) (o : Op) : List Entry := match turnK l h o with
  | 1 => h
  | 3 => markL l h o
  | 4 => joinEL l h o
  | _ => []

def turnN (l : List Op) (h : List Entry) (o : Op) : Int := match turnK l h o with
  | 1 => 0
  | 2 => 9
  | 3 => markN l h o
  | 4 => joinEN l h o
  | _ => 8

set_option maxRecDepth 100000 in
set_option maxHeartbeats 1000000 in
theorem shiftLive (A S : Option Addr) (c sc : Nat) (l : List Op) (o : Op) (b3 b5 : Nat) (w : World) (hl : l.length ≤ maxLen) (hb : bagMay l = true) (hA : R cOp 0 w A l) (ho : OpIn w o S sc) (h3 : w.cell? ⟨b3, 0, none⟩ = some (.slice A l.length c)) (h5 : OpBox w b5 o S sc) :
    Calls Tryz.prog 69 #[.pointer (some ⟨b3, 0, none⟩), .pointer (some ⟨b5, 0, none⟩)] w fun e w' => e = .returned (.bool (memId (sectF (livesF l)) (placeFin o.pl))) ∧ Bl w w' := by
  have hall := hide (homeAll A c l w hl hA)
  have hla := hide fun V (hv : Bl w V) => placeLast S sc o.pl V ho.small (ho.hR.bl hv)
  have hal : allL l = sectF (livesF l) := by unfold allL; rw [hb]; rfl
  have hsl : (sectF (livesF l)).length ≤ maxLen := by rw [sect_length]; have := lives_small hb; unfold maxLen; omega
  rw [hb, hal] at hall
  have hcon := hide fun X x V (hX : R cId 0 V X (sectF (livesF l))) => idContains X x (sectF (livesF l)) (placeFin o.pl) V hsl hX
  have h3l := World.block_lt_of_cell? _ _ h3
  clear hb hal hsl
  generalize sectF (livesF l) = T at *
  generalize placeFin o.pl = m at *
  go_enter Tryz.func69, Tryz.ntmps69
  go_wp2_with fail
  refine hall.out.mono ?_
  rintro e w1 ⟨X, x, rfl, x1, x2, hX, hb1⟩
  obtain ⟨i0, i1, i2, i3, i4⟩ := (h5.bl hb1).cells
  have hil := (h5.bl hb1).lt
  clear hall
  go_wp2_with fail
  refine (hla.out _ hb1).mono ?_
  rintro e w2 ⟨rfl, hb2⟩
  clear i0 i1 i2 i3 i4 hil
  go_wp2_with fail
  refine (hcon.out X x w2 (hX.zero.bl hb2)).mono ?_
  rintro e w3 ⟨rfl, hb3⟩
  go_wp2_with fail
  go_ret
  exact ⟨rfl, hb1.trans (hb2.trans hb3)⟩

set_option maxRecDepth 100000 in
set_option maxHeartbeats 16000000 in
theorem shiftTurn (A B S : Option Addr) (c d sc : Nat) (l : List Op) (H : List Entry) (o : Op) (w : World) (hl : l.length ≤ maxLen) (hh : H.length ≤ maxLen) (hA : R cOp 0 w A l) (hB : R cEntry 0 w B H) (ho : OpIn w o S sc) :
    Calls Tryz.prog 22 #[.slice A l.length c, .slice B H.length d, .agg #[.int .u8 o.kind, .int .u32 o.id.t, .int .u8 o.id.r, .slice S o.pl.length sc, .int .i64 o.pt]] w (New2 cEntry (turnL l H o) (turnN l H o) w) := by
  obtain ⟨W, hW⟩ : ∃ W, W = (w.alloc (.cells #[.slice A l.length c] 22)).alloc (.cells #[Value.int IntKind.u8 o.kind, Value.int IntKind.u32 o.id.t, Value.int IntKind.u8 o.id.r, Value.slice S o.pl.length sc, Value.int IntKind.i64 o.pt] 47) := ⟨_, rfl⟩
  have hbW : Bl w W := by rw [hW]; exact ((Bl.refl _).alloc _).alloc _
  have at1 : OpBox W (w.heap.size + 1) o S sc := by
    have h := OpBox.new (w.alloc (.cells #[.slice A l.length c] 22)) o S sc 47
    rw [World.size_alloc w] at h
    rw [hW]
    exact h
  have at0 : W.cell? ⟨w.heap.size, 0, none⟩ = some (.slice A l.length c) := by
    have h := (At.new w [.slice A l.length c] 22 0 _ rfl).1
    rw [hW]
    exact (((Bl.refl _).alloc _).cell (World.block_lt_of_cell? _ _ h)).trans h
  have hl0 := World.block_lt_of_cell? _ _ at0
  have hck := hide fun V (hv : Bl w V) => shiftCheck A B c d l H V hl hh (hA.bl hv) (hB.bl hv)
  have hoc := hide fun V (hv : Bl w V) => opCheck o S sc V (ho.bl hv)
  have hfi := hide fun V (hv : Bl w V) => bagFind A c l o.id V hl ho.ok.2.1 (hA.bl hv)
  have hmf := run_makeFunc
  obtain ⟨L, hL⟩ : ∃ L, L = turnL l H o := ⟨_, rfl⟩
  obtain ⟨N, hN⟩ : ∃ N, N = turnN l H o := ⟨_, rfl⟩
  rw [← hL, ← hN]
  unfold turnL turnK at hL
  unfold turnN turnK at hN
  cases hf : fitsB l H
  · rw [hf, Bool.false_and, if_neg (by decide)] at hL hN
    rw [hf] at hck
    have e1 : L = [] := hL
    have e2 : N = 8 := hN
    subst e1 e2
    clear hL hN hf hoc hfi
    go_enter Tryz.func22, Tryz.ntmps22
    go_wp2_with fail
    rw [← hW]
    clear hW
    refine (hck.out _ hbW).mono ?_
    rintro e w1 ⟨rfl, hb1⟩
    go_wp2_with fail
    go_ret2
    exact ⟨none, 0, rfl, Nat.le_refl _, Nat.zero_le _, R.nil, hbW.trans hb1⟩
  rw [hf, Bool.true_and] at hL hN
  rw [hf] at hck
  cases hm : opMay o
  · rw [hm, if_neg (by decide)] at hL hN
    rw [hm] at hoc
    have e1 : L = [] := hL
    have e2 : N = 8 := hN
    subst e1 e2
    clear hL hN hf hm hfi
    go_enter Tryz.func22, Tryz.ntmps22
    go_wp2_with fail
    rw [← hW]
    clear hW
    refine (hck.out _ hbW).mono ?_
    rintro e w1 ⟨rfl, hb1⟩
    obtain ⟨i0, i1, i2, i3, i4⟩ := (at1.bl hb1).cells
    have hil := (at1.bl hb1).lt
    go_wp2_with fail
    refine (hoc.out _ (hbW.trans hb1)).mono ?_
    rintro e w2 ⟨rfl, hb2⟩
    go_wp2_with fail
    go_ret2
    exact ⟨none, 0, rfl, Nat.le_refl _, Nat.zero_le _, R.nil, hbW.trans (hb1.trans hb2)⟩
  rw [hm, if_pos rfl] at hL hN
  rw [hm] at hoc
  unfold fitsB at hf
  simp only [Bool.and_eq_true] at hf
  have hbm := hf.1
  have hsm := may_small hf.2.1
  have h65 := (may_from hf.2.1).1
  have hhas : findB11 l o.id = hasId l o.id := by unfold findB11; rw [hbm]; rfl
  rw [hhas] at hfi
  have htw := hide fun V (hv : Bl w V) => shelfTwinO B d H V hsm (hB.bl hv)
  have hmj := hide fun V (hv : Bl w V) => marksJoined A c l o.id V hl (hA.bl hv)
  rw [hbm, Bool.true_and] at hmj
  have hli := hide fun V (hv : Bl w V) (h3 : V.cell? ⟨w.heap.size, 0, none⟩ = some (.slice A l.length c)) (h5 : OpBox V (w.heap.size + 1) o S sc) => shiftLive A S c sc l o w.heap.size (w.heap.size + 1) V hl hbm (hA.bl hv) (ho.bl hv) h3 h5
  have hmk := hide fun V (hv : Bl w V) => shiftMarked A B S c d sc l H o V hl h65 hsm (hA.bl hv) (hB.bl hv) (ho.bl hv)
  have hjo := hide fun V (hv : Bl w V) => shiftJoined A B S c d sc l H o V hl h65 hsm (hA.bl hv) (hB.bl hv) (ho.bl hv)
  have hlen : ((l.length : Int) == 1024) = decide (l.length = 1024) := by
    by_cases h : l.length = 1024
    · rw [h]; rfl
    · rw [decide_eq_false h]; simp; omega
  clear hf hm hbm hhas
  unfold contentO at hL hN
  generalize hasId l o.id = has at *
  generalize endedF l o.id = en at *
  generalize memId (sectF (livesF l)) (placeFin o.pl) = me at *
  generalize markL l H o = mL at *
  generalize markN l H o = mN at *
  generalize joinEL l H o = jL at *
  generalize joinEN l H o = jN at *
  generalize findO l o.id = fo at *
  by_cases k1 : o.kind = 1
  · have e1 : (o.kind == 1) = true := by simp [k1]
    rw [decide_eq_true k1, Bool.true_or, if_pos rfl] at hL hN
    have l1 : L = [] := hL
    have l2 : N = 8 := hN
    subst l1 l2
    replace k1 := hide k1
    clear hL hN htw hmj hli hmk hjo
    go_enter Tryz.func22, Tryz.ntmps22
    go_wp2_with fail
    rw [← hW]
    clear hW
    refine (hck.out _ hbW).mono ?_
    rintro e w1 ⟨rfl, hb1⟩
    obtain ⟨i0, i1, i2, i3, i4⟩ := (at1.bl hb1).cells
    have hil := (at1.bl hb1).lt
    go_wp2_with fail
    refine (hoc.out _ (hbW.trans hb1)).mono ?_
    rintro e w2 ⟨rfl, hb2⟩
    have hb12 := hb1.trans hb2
    clear i0 i1 i2 i3 i4 hil
    obtain ⟨i0, i1, i2, i3, i4⟩ := (at1.bl hb12).cells
    have hil := (at1.bl hb12).lt
    have j0 := (hb12.cell hl0).trans at0
    go_wp2_with fail
    refine (hfi.out _ (hbW.trans hb12)).mono ?_
    rintro e w3 ⟨FA, fc, rfl, -, -, -, hb3⟩
    obtain ⟨V3, hV3⟩ : ∃ V3, V3 = w3.alloc (.cells #[Value.int IntKind.u8 fo.kind, Value.int IntKind.u32 fo.id.t, Value.int IntKind.u8 fo.id.r, Value.slice FA fo.pl.length fc, Value.int IntKind.i64 fo.pt] 47) := ⟨_, rfl⟩
    have hb3V : Bl w3 V3 := by rw [hV3]; exact (Bl.refl _).alloc _
    have hbW3 := hb12.trans (hb3.trans hb3V)
    have hbw3 := hbW.trans hbW3
    have at03 := (hbW3.cell hl0).trans at0
    have at13 := at1.bl hbW3
    clear i0 i1 i2 i3 i4 hil j0
    go_upto_region 4 with fail
    rw [← hV3]
    clear hV3
    obtain ⟨i0, i1, i2, i3, i4⟩ := at13.cells
    have hil := at13.lt
    go_wp2_with fail
    go_ret2
    exact ⟨none, 0, rfl, Nat.le_refl _, Nat.zero_le _, R.nil, hbw3⟩
  have e1 : (o.kind == 1) = false := by simp [k1]
  rw [decide_eq_false k1, Bool.false_or] at hL hN
  by_cases k3 : o.kind = 3
  · have e3 : (o.kind == 3) = true := by simp [k3]
    rw [decide_eq_true k3, if_pos rfl] at hL hN
    have l1 : L = [] := hL
    have l2 : N = 8 := hN
    subst l1 l2
    replace k1 := hide k1
    replace k3 := hide k3
    clear hL hN htw hmj hli hmk hjo
    go_enter Tryz.func22, Tryz.ntmps22
    go_wp2_with fail
    rw [← hW]
    clear hW
    refine (hck.out _ hbW).mono ?_
    rintro e w1 ⟨rfl, hb1⟩
    obtain ⟨i0, i1, i2, i3, i4⟩ := (at1.bl hb1).cells
    have hil := (at1.bl hb1).lt
    go_wp2_with fail
    refine (hoc.out _ (hbW.trans hb1)).mono ?_
    rintro e w2 ⟨rfl, hb2⟩
    have hb12 := hb1.trans hb2
    clear i0 i1 i2 i3 i4 hil
    obtain ⟨i0, i1, i2, i3, i4⟩ := (at1.bl hb12).cells
    have hil := (at1.bl hb12).lt
    have j0 := (hb12.cell hl0).trans at0
    go_wp2_with fail
    refine (hfi.out _ (hbW.trans hb12)).mono ?_
    rintro e w3 ⟨FA, fc, rfl, -, -, -, hb3⟩
    obtain ⟨V3, hV3⟩ : ∃ V3, V3 = w3.alloc (.cells #[Value.int IntKind.u8 fo.kind, Value.int IntKind.u32 fo.id.t, Value.int IntKind.u8 fo.id.r, Value.slice FA fo.pl.length fc, Value.int IntKind.i64 fo.pt] 47) := ⟨_, rfl⟩
    have hb3V : Bl w3 V3 := by rw [hV3]; exact (Bl.refl _).alloc _
    have hbW3 := hb12.trans (hb3.trans hb3V)
    have hbw3 := hbW.trans hbW3
    have at03 := (hbW3.cell hl0).trans at0
    have at13 := at1.bl hbW3
    clear i0 i1 i2 i3 i4 hil j0
    go_upto_region 4 with fail
    rw [← hV3]
    clear hV3
    obtain ⟨i0, i1, i2, i3, i4⟩ := at13.cells
    have hil := at13.lt
    go_wp2_with fail
    go_ret2
    exact ⟨none, 0, rfl, Nat.le_refl _, Nat.zero_le _, R.nil, hbw3⟩
  have e3 : (o.kind == 3) = false := by simp [k3]
  rw [decide_eq_false k3, if_neg (by decide)] at hL hN
  replace k1 := hide k1
  replace k3 := hide k3
  cases has
  rotate_left
  · rw [if_pos rfl] at hL hN
    have l1 : L = H := hL
    have l2 : N = 0 := hN
    subst l1 l2
    clear hL hN hmj hli hmk hjo
    go_enter Tryz.func22, Tryz.ntmps22
    go_wp2_with fail
    rw [← hW]
    clear hW
    refine (hck.out _ hbW).mono ?_
    rintro e w1 ⟨rfl, hb1⟩
    obtain ⟨i0, i1, i2, i3, i4⟩ := (at1.bl hb1).cells
    have hil := (at1.bl hb1).lt
    go_wp2_with fail
    refine (hoc.out _ (hbW.trans hb1)).mono ?_
    rintro e w2 ⟨rfl, hb2⟩
    have hb12 := hb1.trans hb2
    clear i0 i1 i2 i3 i4 hil
    obtain ⟨i0, i1, i2, i3, i4⟩ := (at1.bl hb12).cells
    have hil := (at1.bl hb12).lt
    have j0 := (hb12.cell hl0).trans at0
    go_wp2_with fail
    refine (hfi.out _ (hbW.trans hb12)).mono ?_
    rintro e w3 ⟨FA, fc, rfl, -, -, -, hb3⟩
    obtain ⟨V3, hV3⟩ : ∃ V3, V3 = w3.alloc (.cells #[Value.int IntKind.u8 fo.kind, Value.int IntKind.u32 fo.id.t, Value.int IntKind.u8 fo.id.r, Value.slice FA fo.pl.length fc, Value.int IntKind.i64 fo.pt] 47) := ⟨_, rfl⟩
    have hb3V : Bl w3 V3 := by rw [hV3]; exact (Bl.refl _).alloc _
    have hbW3 := hb12.trans (hb3.trans hb3V)
    have hbw3 := hbW.trans hbW3
    have at03 := (hbW3.cell hl0).trans at0
    have at13 := at1.bl hbW3
    clear i0 i1 i2 i3 i4 hil j0
    go_upto_region 4 with fail
    rw [← hV3]
    clear hV3
    obtain ⟨i0, i1, i2, i3, i4⟩ := at13.cells
    have hil := at13.lt
    go_wp2_with fail
    refine (htw.out _ (hbw3)).mono ?_
    rintro e w9 ⟨v9, rfl, hown, hb9⟩
    obtain ⟨X, xc, hvx, hX, y1, y2⟩ := hown.reads
    subst hvx
    go_wp2_with fail
    go_ret2
    exact ⟨X, xc, rfl, y1, y2, hX.more (hbw3).size, (hbw3).trans hb9⟩
  rw [if_neg (by decide)] at hL hN
  by_cases hfu : l.length = 1024
  · rw [if_pos hfu] at hL hN
    rw [decide_eq_true hfu] at hlen
    have l1 : L = [] := hL
    have l2 : N = 9 := hN
    subst l1 l2
    replace hfu := hide hfu
    clear hL hN htw hmj hli hmk hjo
    go_enter Tryz.func22, Tryz.ntmps22
    go_wp2_with fail
    rw [← hW]
    clear hW
    refine (hck.out _ hbW).mono ?_
    rintro e w1 ⟨rfl, hb1⟩
    obtain ⟨i0, i1, i2, i3, i4⟩ := (at1.bl hb1).cells
    have hil := (at1.bl hb1).lt
    go_wp2_with fail
    refine (hoc.out _ (hbW.trans hb1)).mono ?_
    rintro e w2 ⟨rfl, hb2⟩
    have hb12 := hb1.trans hb2
    clear i0 i1 i2 i3 i4 hil
    obtain ⟨i0, i1, i2, i3, i4⟩ := (at1.bl hb12).cells
    have hil := (at1.bl hb12).lt
    have j0 := (hb12.cell hl0).trans at0
    go_wp2_with fail
    refine (hfi.out _ (hbW.trans hb12)).mono ?_
    rintro e w3 ⟨FA, fc, rfl, -, -, -, hb3⟩
    obtain ⟨V3, hV3⟩ : ∃ V3, V3 = w3.alloc (.cells #[Value.int IntKind.u8 fo.kind, Value.int IntKind.u32 fo.id.t, Value.int IntKind.u8 fo.id.r, Value.slice FA fo.pl.length fc, Value.int IntKind.i64 fo.pt] 47) := ⟨_, rfl⟩
    have hb3V : Bl w3 V3 := by rw [hV3]; exact (Bl.refl _).alloc _
    have hbW3 := hb12.trans (hb3.trans hb3V)
    have hbw3 := hbW.trans hbW3
    have at03 := (hbW3.cell hl0).trans at0
    have at13 := at1.bl hbW3
    clear i0 i1 i2 i3 i4 hil j0
    go_upto_region 4 with fail
    rw [← hV3]
    clear hV3
    obtain ⟨i0, i1, i2, i3, i4⟩ := at13.cells
    have hil := at13.lt
    go_wp2_with fail
    go_ret2
    exact ⟨none, 0, rfl, Nat.le_refl _, Nat.zero_le _, R.nil, hbw3⟩
  rw [if_neg hfu] at hL hN
  rw [decide_eq_false hfu] at hlen
  replace hfu := hide hfu
  by_cases k2 : o.kind = 2
  · have e2 : (o.kind == 2) = true := by simp [k2]
    have e4 : (o.kind == 4) = false := by simp [k2]
    rw [if_pos k2] at hL hN
    replace k2 := hide k2
    cases en
    · rw [if_neg (by decide)] at hL hN
      have l1 : L = mL := hL
      have l2 : N = mN := hN
      subst l1 l2
      clear hL hN htw hli hjo
      go_enter Tryz.func22, Tryz.ntmps22
      go_wp2_with fail
      rw [← hW]
      clear hW
      refine (hck.out _ hbW).mono ?_
      rintro e w1 ⟨rfl, hb1⟩
      obtain ⟨i0, i1, i2, i3, i4⟩ := (at1.bl hb1).cells
      have hil := (at1.bl hb1).lt
      go_wp2_with fail
      refine (hoc.out _ (hbW.trans hb1)).mono ?_
      rintro e w2 ⟨rfl, hb2⟩
      have hb12 := hb1.trans hb2
      clear i0 i1 i2 i3 i4 hil
      obtain ⟨i0, i1, i2, i3, i4⟩ := (at1.bl hb12).cells
      have hil := (at1.bl hb12).lt
      have j0 := (hb12.cell hl0).trans at0
      go_wp2_with fail
      refine (hfi.out _ (hbW.trans hb12)).mono ?_
      rintro e w3 ⟨FA, fc, rfl, -, -, -, hb3⟩
      obtain ⟨V3, hV3⟩ : ∃ V3, V3 = w3.alloc (.cells #[Value.int IntKind.u8 fo.kind, Value.int IntKind.u32 fo.id.t, Value.int IntKind.u8 fo.id.r, Value.slice FA fo.pl.length fc, Value.int IntKind.i64 fo.pt] 47) := ⟨_, rfl⟩
      have hb3V : Bl w3 V3 := by rw [hV3]; exact (Bl.refl _).alloc _
      have hbW3 := hb12.trans (hb3.trans hb3V)
      have hbw3 := hbW.trans hbW3
      have at03 := (hbW3.cell hl0).trans at0
      have at13 := at1.bl hbW3
      clear i0 i1 i2 i3 i4 hil j0
      go_upto_region 4 with fail
      rw [← hV3]
      clear hV3
      obtain ⟨i0, i1, i2, i3, i4⟩ := at13.cells
      have hil := at13.lt
      go_wp2_with fail
      refine (hmj.out _ hbw3).mono ?_
      rintro e w4 ⟨rfl, hb4⟩
      clear i0 i1 i2 i3 i4 hil
      replace at03 := ((hb4).cell (World.block_lt_of_cell? _ _ at03)).trans at03
      obtain ⟨i0, i1, i2, i3, i4⟩ := (at13.bl hb4).cells
      have hil := (at13.bl hb4).lt
      go_wp2_with fail
      refine (hmk.out _ (hbw3.trans hb4)).mono ?_
      rintro e w5 ⟨X, x, rfl, x1, x2, hX, hb5⟩
      go_wp2_with fail
      go_ret2
      exact ⟨X, x, rfl, x1, x2, hX.more (hbw3.trans hb4).size, (hbw3.trans hb4).trans hb5⟩
    · rw [if_pos rfl] at hL hN
      have l1 : L = H := hL
      have l2 : N = 0 := hN
      subst l1 l2
      clear hL hN hli hmk hjo
      go_enter Tryz.func22, Tryz.ntmps22
      go_wp2_with fail
      rw [← hW]
      clear hW
      refine (hck.out _ hbW).mono ?_
      rintro e w1 ⟨rfl, hb1⟩
      obtain ⟨i0, i1, i2, i3, i4⟩ := (at1.bl hb1).cells
      have hil := (at1.bl hb1).lt
      go_wp2_with fail
      refine (hoc.out _ (hbW.trans hb1)).mono ?_
      rintro e w2 ⟨rfl, hb2⟩
      have hb12 := hb1.trans hb2
      clear i0 i1 i2 i3 i4 hil
      obtain ⟨i0, i1, i2, i3, i4⟩ := (at1.bl hb12).cells
      have hil := (at1.bl hb12).lt
      have j0 := (hb12.cell hl0).trans at0
      go_wp2_with fail
      refine (hfi.out _ (hbW.trans hb12)).mono ?_
      rintro e w3 ⟨FA, fc, rfl, -, -, -, hb3⟩
      obtain ⟨V3, hV3⟩ : ∃ V3, V3 = w3.alloc (.cells #[Value.int IntKind.u8 fo.kind, Value.int IntKind.u32 fo.id.t, Value.int IntKind.u8 fo.id.r, Value.slice FA fo.pl.length fc, Value.int IntKind.i64 fo.pt] 47) := ⟨_, rfl⟩
      have hb3V : Bl w3 V3 := by rw [hV3]; exact (Bl.refl _).alloc _
      have hbW3 := hb12.trans (hb3.trans hb3V)
      have hbw3 := hbW.trans hbW3
      have at03 := (hbW3.cell hl0).trans at0
      have at13 := at1.bl hbW3
      clear i0 i1 i2 i3 i4 hil j0
      go_upto_region 4 with fail
      rw [← hV3]
      clear hV3
      obtain ⟨i0, i1, i2, i3, i4⟩ := at13.cells
      have hil := at13.lt
      go_wp2_with fail
      refine (hmj.out _ hbw3).mono ?_
      rintro e w4 ⟨rfl, hb4⟩
      clear i0 i1 i2 i3 i4 hil
      replace at03 := ((hb4).cell (World.block_lt_of_cell? _ _ at03)).trans at03
      obtain ⟨i0, i1, i2, i3, i4⟩ := (at13.bl hb4).cells
      have hil := (at13.bl hb4).lt
      go_wp2_with fail
      refine (htw.out _ (hbw3.trans hb4)).mono ?_
      rintro e w9 ⟨v9, rfl, hown, hb9⟩
      obtain ⟨X, xc, hvx, hX, y1, y2⟩ := hown.reads
      subst hvx
      go_wp2_with fail
      go_ret2
      exact ⟨X, xc, rfl, y1, y2, hX.more (hbw3.trans hb4).size, (hbw3.trans hb4).trans hb9⟩
  have e2 : (o.kind == 2) = false := by simp [k2]
  rw [if_neg k2] at hL hN
  replace k2 := hide k2
  by_cases k4 : o.kind = 4
  rotate_left
  · have e4 : (o.kind == 4) = false := by simp [k4]
    rw [if_neg k4] at hL hN
    have l1 : L = H := hL
    have l2 : N = 0 := hN
    subst l1 l2
    replace k4 := hide k4
    clear hL hN hmj hli hmk hjo
    go_enter Tryz.func22, Tryz.ntmps22
    go_wp2_with fail
    rw [← hW]
    clear hW
    refine (hck.out _ hbW).mono ?_
    rintro e w1 ⟨rfl, hb1⟩
    obtain ⟨i0, i1, i2, i3, i4⟩ := (at1.bl hb1).cells
    have hil := (at1.bl hb1).lt
    go_wp2_with fail
    refine (hoc.out _ (hbW.trans hb1)).mono ?_
    rintro e w2 ⟨rfl, hb2⟩
    have hb12 := hb1.trans hb2
    clear i0 i1 i2 i3 i4 hil
    obtain ⟨i0, i1, i2, i3, i4⟩ := (at1.bl hb12).cells
    have hil := (at1.bl hb12).lt
    have j0 := (hb12.cell hl0).trans at0
    go_wp2_with fail
    refine (hfi.out _ (hbW.trans hb12)).mono ?_
    rintro e w3 ⟨FA, fc, rfl, -, -, -, hb3⟩
    obtain ⟨V3, hV3⟩ : ∃ V3, V3 = w3.alloc (.cells #[Value.int IntKind.u8 fo.kind, Value.int IntKind.u32 fo.id.t, Value.int IntKind.u8 fo.id.r, Value.slice FA fo.pl.length fc, Value.int IntKind.i64 fo.pt] 47) := ⟨_, rfl⟩
    have hb3V : Bl w3 V3 := by rw [hV3]; exact (Bl.refl _).alloc _
    have hbW3 := hb12.trans (hb3.trans hb3V)
    have hbw3 := hbW.trans hbW3
    have at03 := (hbW3.cell hl0).trans at0
    have at13 := at1.bl hbW3
    clear i0 i1 i2 i3 i4 hil j0
    go_upto_region 4 with fail
    rw [← hV3]
    clear hV3
    obtain ⟨i0, i1, i2, i3, i4⟩ := at13.cells
    have hil := at13.lt
    go_wp2_with fail
    refine (htw.out _ (hbw3)).mono ?_
    rintro e w9 ⟨v9, rfl, hown, hb9⟩
    obtain ⟨X, xc, hvx, hX, y1, y2⟩ := hown.reads
    subst hvx
    go_wp2_with fail
    go_ret2
    exact ⟨X, xc, rfl, y1, y2, hX.more (hbw3).size, (hbw3).trans hb9⟩
  have e4 : (o.kind == 4) = true := by simp [k4]
  rw [if_pos k4] at hL hN
  replace k4 := hide k4
  cases me
  · rw [if_neg (by decide)] at hL hN
    have l1 : L = H := hL
    have l2 : N = 0 := hN
    subst l1 l2
    clear hL hN hmj hmk hjo
    go_enter Tryz.func22, Tryz.ntmps22
    go_wp2_with fail
    rw [← hW]
    clear hW
    refine (hck.out _ hbW).mono ?_
    rintro e w1 ⟨rfl, hb1⟩
    obtain ⟨i0, i1, i2, i3, i4⟩ := (at1.bl hb1).cells
    have hil := (at1.bl hb1).lt
    go_wp2_with fail
    refine (hoc.out _ (hbW.trans hb1)).mono ?_
    rintro e w2 ⟨rfl, hb2⟩
    have hb12 := hb1.trans hb2
    clear i0 i1 i2 i3 i4 hil
    obtain ⟨i0, i1, i2, i3, i4⟩ := (at1.bl hb12).cells
    have hil := (at1.bl hb12).lt
    have j0 := (hb12.cell hl0).trans at0
    go_wp2_with fail
    refine (hfi.out _ (hbW.trans hb12)).mono ?_
    rintro e w3 ⟨FA, fc, rfl, -, -, -, hb3⟩
    obtain ⟨V3, hV3⟩ : ∃ V3, V3 = w3.alloc (.cells #[Value.int IntKind.u8 fo.kind, Value.int IntKind.u32 fo.id.t, Value.int IntKind.u8 fo.id.r, Value.slice FA fo.pl.length fc, Value.int IntKind.i64 fo.pt] 47) := ⟨_, rfl⟩
    have hb3V : Bl w3 V3 := by rw [hV3]; exact (Bl.refl _).alloc _
    have hbW3 := hb12.trans (hb3.trans hb3V)
    have hbw3 := hbW.trans hbW3
    have at03 := (hbW3.cell hl0).trans at0
    have at13 := at1.bl hbW3
    clear i0 i1 i2 i3 i4 hil j0
    go_upto_region 4 with fail
    rw [← hV3]
    clear hV3
    obtain ⟨i0, i1, i2, i3, i4⟩ := at13.cells
    have hil := at13.lt
    have hcl := hide (hli.out V3 hbw3 at03 at13)
    go_wp2_with fail
    refine hcl.out.mono ?_
    rintro e w4 ⟨rfl, hb4⟩
    go_wp2_with fail
    refine (htw.out _ (hbw3.trans hb4)).mono ?_
    rintro e w9 ⟨v9, rfl, hown, hb9⟩
    obtain ⟨X, xc, hvx, hX, y1, y2⟩ := hown.reads
    subst hvx
    go_wp2_with fail
    go_ret2
    exact ⟨X, xc, rfl, y1, y2, hX.more (hbw3.trans hb4).size, (hbw3.trans hb4).trans hb9⟩
  · rw [if_pos rfl] at hL hN
    have l1 : L = jL := hL
    have l2 : N = jN := hN
    subst l1 l2
    clear hL hN htw hmj hmk
    go_enter Tryz.func22, Tryz.ntmps22
    go_wp2_with fail
    rw [← hW]
    clear hW
    refine (hck.out _ hbW).mono ?_
    rintro e w1 ⟨rfl, hb1⟩
    obtain ⟨i0, i1, i2, i3, i4⟩ := (at1.bl hb1).cells
    have hil := (at1.bl hb1).lt
    go_wp2_with fail
    refine (hoc.out _ (hbW.trans hb1)).mono ?_
    rintro e w2 ⟨rfl, hb2⟩
    have hb12 := hb1.trans hb2
    clear i0 i1 i2 i3 i4 hil
    obtain ⟨i0, i1, i2, i3, i4⟩ := (at1.bl hb12).cells
    have hil := (at1.bl hb12).lt
    have j0 := (hb12.cell hl0).trans at0
    go_wp2_with fail
    refine (hfi.out _ (hbW.trans hb12)).mono ?_
    rintro e w3 ⟨FA, fc, rfl, -, -, -, hb3⟩
    obtain ⟨V3, hV3⟩ : ∃ V3, V3 = w3.alloc (.cells #[Value.int IntKind.u8 fo.kind, Value.int IntKind.u32 fo.id.t, Value.int IntKind.u8 fo.id.r, Value.slice FA fo.pl.length fc, Value.int IntKind.i64 fo.pt] 47) := ⟨_, rfl⟩
    have hb3V : Bl w3 V3 := by rw [hV3]; exact (Bl.refl _).alloc _
    have hbW3 := hb12.trans (hb3.trans hb3V)
    have hbw3 := hbW.trans hbW3
    have at03 := (hbW3.cell hl0).trans at0
    have at13 := at1.bl hbW3
    clear i0 i1 i2 i3 i4 hil j0
    go_upto_region 4 with fail
    rw [← hV3]
    clear hV3
    obtain ⟨i0, i1, i2, i3, i4⟩ := at13.cells
    have hil := at13.lt
    have hcl := hide (hli.out V3 hbw3 at03 at13)
    go_wp2_with fail
    refine hcl.out.mono ?_
    rintro e w4 ⟨rfl, hb4⟩
    clear i0 i1 i2 i3 i4 hil
    replace at03 := ((hb4).cell (World.block_lt_of_cell? _ _ at03)).trans at03
    obtain ⟨i0, i1, i2, i3, i4⟩ := (at13.bl hb4).cells
    have hil := (at13.bl hb4).lt
    go_wp2_with fail
    refine (hjo.out _ (hbw3.trans hb4)).mono ?_
    rintro e w5 ⟨X, x, rfl, x1, x2, hX, hb5⟩
    go_wp2_with fail
    go_ret2
    exact ⟨X, x, rfl, x1, x2, hX.more (hbw3.trans hb4).size, (hbw3.trans hb4).trans hb5⟩
end Go.Proofs.YteoodmilcpmmpaaGreat

namespace Go.Proofs.YteoodmilcpmmpaaGreat
open Go.RowKit

def markO : Op := ⟨2, ⟨5, 0⟩, [⟨5, 0, 1⟩], 0⟩

def joinO : Op := ⟨4, ⟨6, 0⟩, [⟨5, 0, 1⟩], 0⟩

def insO : Op := ⟨1, ⟨5, 0⟩, [⟨5, 0, 1⟩], 65⟩

def rdyE (t : Int) : Entry := ⟨⟨t, 0⟩, true, false, 0, false, [], []⟩

theorem markO_ok : markO.ok := by unfold markO Op.ok Id.ok u8ok i64ok; decide

theorem joinO_ok : joinO.ok := by unfold joinO Op.ok Id.ok u8ok i64ok; decide

theorem insO_ok : insO.ok := by unfold insO Op.ok Id.ok u8ok i64ok; decide

theorem rdyE_ok {t : Int} (h0 : 0 ≤ t) (h1 : t < 4294967296) : (rdyE t).ok := by
  refine ⟨⟨h0, h1, ?_, ?_⟩, ?_⟩
  · show (0 : Int) ≤ 0; decide
  · show (0 : Int) < 256; decide
  · show i64ok 0; unfold i64ok; decide

set_option maxRecDepth 100000 in
theorem plain20 : (turnN [] [rdyE 0] markO = 0 ∧ turnL [] [rdyE 0] markO = [rdyE 0, rdyE 5]) ∧ (turnN [] [] markO = 0 ∧ turnL [] [] markO = []) ∧ (turnN [markO] [rdyE 0, rdyE 5] joinO = 0 ∧ turnL [markO] [rdyE 0, rdyE 5] joinO = [rdyE 0]) := by decide +kernel

theorem lawReady20 (t : Int) (w : World) (_h0 : 0 ≤ t) (_h1 : t < 4294967296) :
    Calls Tryz.prog 23 #[.int .u32 t] w fun e w' => e = .returned (.agg #[.int .u32 t, .int .u8 0, .bool true, .bool false, .int .i64 0, .bool false, .slice none 0 0, .slice none 0 0]) ∧ Bl w w' := by
  go_enter Tryz.func23, Tryz.ntmps23
  go_wp2
  refine bodyPost_ret (v := .agg #[.int .u32 t, .int .u8 0, .bool true, .bool false, .int .i64 0, .bool false, .slice none 0 0, .slice none 0 0]) (by simp [results, Tryz.results23, go_sem]) rfl ?_
  exact ⟨rfl, (Bl.refl _).alloc _⟩

theorem lawMark20 (w : World) : Calls Tryz.prog 21 #[] w (NewOp markO w) := by
  go_enter Tryz.func21, Tryz.ntmps21
  go_wp2
  refine bodyPost_ret (v := .agg #[.int .u8 2, .int .u32 5, .int .u8 0, .slice (some ⟨w.heap.size + 1, 0, none⟩) 1 1, .int .i64 0]) (by simp [results, Tryz.results21, go_sem]) rfl ?_
  refine ⟨some ⟨w.heap.size + 1, 0, none⟩, 1, rfl, Nat.le_refl _, by decide, ?_, ((Bl.refl _).alloc _).alloc _⟩
  have h := R.single (C := cRun) (lo := w.heap.size) (w := w.alloc (Obj.cells #[Value.int IntKind.u8 2, Value.int IntKind.u32 5, Value.int IntKind.u8 0, .slice (some ⟨w.heap.size + 1, 0, none⟩) 1 1, .int .i64 0] 47)) (x := ⟨5, 0, 1⟩) (cs := [.int .u32 5, .int .u8 0, .int .i64 1]) (t := 40) ⟨by unfold Run.ok i64ok; decide, rfl⟩ (by simp)
  rw [World.size_alloc] at h
  exact h

set_option maxRecDepth 100000 in
set_option maxHeartbeats 1000000 in
theorem lawJoin20 (w : World) : Calls Tryz.prog 26 #[] w (NewOp joinO w) := by
  obtain ⟨W, hW⟩ : ∃ W, W = w.alloc (.cells #[Value.int IntKind.u8 0, Value.int IntKind.u32 0, Value.int IntKind.u8 0, Value.slice none 0 0, Value.int IntKind.i64 0] 47) := ⟨_, rfl⟩
  have hbW : Bl w W := by rw [hW]; exact (Bl.refl _).alloc _
  have at0 : OpBox W w.heap.size zeroOp none 0 := by rw [hW]; exact OpBox.new w zeroOp none 0 _
  go_enter Tryz.func26, Tryz.ntmps26
  go_wp2_with fail
  rw [← hW]
  clear hW
  refine (lawMark20 W).mono ?_
  rintro e w1 ⟨S, sc, rfl, m1, m2, hS, hb1⟩
  obtain ⟨c0, c1, c2, c3, c4⟩ := (at0.bl hb1).cells
  obtain ⟨f0, f1, f2, f3, f4⟩ := (at0.bl hb1).frozens
  have hl0 := (at0.bl hb1).lt
  have hS' : R cRun W.heap.size w1 S joinO.pl := hS
  have hfd : ∀ V : World, (Instr.field 47 (.agg #[.int .u8 markO.kind, .int .u32 markO.id.t, .int .u8 markO.id.r, .slice S markO.pl.length sc, .int .i64 markO.pt]) 2).run Tryz.prog V = .ok (.slice S markO.pl.length sc) V := by
    intro V
    kernel_rfl
  go_wp2_with fail
  refine bodyPost_ret (v := .agg #[.int .u8 joinO.kind, .int .u32 joinO.id.t, .int .u8 joinO.id.r, .slice S joinO.pl.length sc, .int .i64 joinO.pt]) (by simp [results, Tryz.results26, go_sem, c0, c1, c2, c3, c4]; exact ⟨rfl, rfl, rfl, rfl, rfl⟩) rfl ?_
  refine ⟨S, sc, rfl, m1, m2, ?_, ?_⟩
  · refine R.more (lo := W.heap.size) ?_ hbW.size
    have hlw0 := at0.lt
    repeat (refine R.set ?_ (by exact hlw0) _)
    exact hS'
  · have hb := hbW.trans hb1
    repeat (refine Bl.setCell ?_ (by simp) _)
    exact hb

/-- A shelf of one, of two, as the text lays it. -/
theorem rdy_rd (t : Int) (h0 : 0 ≤ t) (h1 : t < 4294967296) (w : World) (S : Nat → Prop) : cEntry.rd w S (rdyE t) [.int .u32 t, .int .u8 0, .bool true, .bool false, .int .i64 0, .bool false, .slice none 0 0, .slice none 0 0] :=
  ⟨rdyE_ok h0 h1, none, 0, none, 0, Nat.le_refl _, Nat.zero_le _, Nat.le_refl _, Nat.zero_le _, rfl, RS.nil, RS.nil⟩

theorem rdy_one (t : Int) (h0 : 0 ≤ t) (h1 : t < 4294967296) (w : World) : R cEntry 0 (w.alloc (.cells #[.int .u32 t, .int .u8 0, .bool true, .bool false, .int .i64 0, .bool false, .slice none 0 0, .slice none 0 0] 62)) (some ⟨w.heap.size, 0, none⟩) [rdyE t] :=
  R.rows (C := cEntry) (lo := 0) (w := w) (t := 62) (RdL.one1 (rdy_rd t h0 h1 w _)) (Nat.zero_le _)

theorem rdy_two (w : World) : R cEntry 0 (w.alloc (.cells #[.int .u32 0, .int .u8 0, .bool true, .bool false, .int .i64 0, .bool false, .slice none 0 0, .slice none 0 0, .int .u32 5, .int .u8 0, .bool true, .bool false, .int .i64 0, .bool false, .slice none 0 0, .slice none 0 0] 62)) (some ⟨w.heap.size, 0, none⟩) [rdyE 0, rdyE 5] :=
  R.rows (C := cEntry) (lo := 0) (w := w) (t := 62) ⟨_, _, rfl, rdy_rd 0 (by decide) (by decide) w _, RdL.one1 (rdy_rd 5 (by decide) (by decide) w _)⟩ (Nat.zero_le _)

set_option maxRecDepth 100000 in
set_option maxHeartbeats 2000000 in
theorem lawTurns20 (A B S D : Option Addr) (c d sc e : Nat) (l : List Op) (H : List Entry) (o : Op) (want : List Entry) (w : World) (hl : l.length ≤ maxLen) (hh : H.length ≤ maxLen) (hw : want.length ≤ maxLen) (hA : R cOp 0 w A l) (hB : R cEntry 0 w B H) (ho : OpIn w o S sc) (hD : R cEntry 0 w D want) (hp : turnN l H o = 0 ∧ turnL l H o = want) :
    Calls Tryz.prog 25 #[.slice A l.length c, .slice B H.length d, .agg #[.int .u8 o.kind, .int .u32 o.id.t, .int .u8 o.id.r, .slice S o.pl.length sc, .int .i64 o.pt], .slice D want.length e] w fun e w' => e = .returned (.bool true) ∧ Bl w w' := by
  obtain ⟨W, hW⟩ : ∃ W, W = w.alloc (.cells #[Value.int IntKind.u8 o.kind, Value.int IntKind.u32 o.id.t, Value.int IntKind.u8 o.id.r, Value.slice S o.pl.length sc, Value.int IntKind.i64 o.pt] 47) := ⟨_, rfl⟩
  have hbW : Bl w W := by rw [hW]; exact (Bl.refl _).alloc _
  have at0 : OpBox W w.heap.size o S sc := by rw [hW]; exact OpBox.new w o S sc _
  have htu := hide (shiftTurn A B S c d sc l H o W hl hh (hA.bl hbW) (hB.bl hbW) (ho.bl hbW))
  rw [hp.1, hp.2] at htu
  have hsa := hide fun X x V (hv : Bl w V) (hX : R cEntry 0 V X want) => refSame19 X D x e want want V hw hw hX (hD.bl hv)
  rw [show same want want = true by unfold same; simp] at hsa
  obtain ⟨i0, i1, i2, i3, i4⟩ := at0.cells
  have hil := at0.lt
  clear hp
  go_enter Tryz.func25, Tryz.ntmps25
  go_upto_region 1 with fail
  rw [← hW]
  clear hW
  go_wp2_with fail
  refine htu.out.mono ?_
  rintro e w1 ⟨X, x, rfl, x1, x2, hX, hb1⟩
  clear i0 i1 i2 i3 i4 hil
  go_wp2_with fail
  refine (hsa.out X x w1 (hbW.trans hb1) hX.zero).mono ?_
  rintro e w2 ⟨rfl, hb2⟩
  go_wp2_with fail
  go_ret
  exact ⟨rfl, hbW.trans (hb1.trans hb2)⟩

set_option maxRecDepth 100000 in
set_option maxHeartbeats 4000000 in
theorem lawAlive20 (w : World) : Calls Tryz.prog 24 #[] w fun e w' => e = .returned (.bool true) ∧ Bl w w' := by
  go_enter Tryz.func24, Tryz.ntmps24
  go_wp2_with fail
  refine (lawReady20 0 _ (by decide) (by decide)).mono ?_
  rintro e w1 ⟨rfl, hb1⟩
  have hr1 := rdy_one 0 (by decide) (by decide) w1
  have hb1V : Bl w (w1.alloc (.cells #[.int .u32 0, .int .u8 0, .bool true, .bool false, .int .i64 0, .bool false, .slice none 0 0, .slice none 0 0] 62)) := hb1.alloc _
  go_wp2_with fail
  refine (lawMark20 _).mono ?_
  rintro e w2 ⟨S2, c2, rfl, m1, m2, hS2, hb2⟩
  have hr2 := hr1.bl hb2
  have hb02 := hb1V.trans hb2
  replace hS2 := hS2.zero
  clear hr1 hb1V hb1 hb2
  go_wp2_with fail
  refine (lawReady20 0 _ (by decide) (by decide)).mono ?_
  rintro e w3 ⟨rfl, hb3⟩
  go_wp2_with fail
  refine (lawReady20 5 _ (by decide) (by decide)).mono ?_
  rintro e w4 ⟨rfl, hb4⟩
  have hb24 := hb3.trans hb4
  have hr4 := rdy_two w4
  have hb4V : Bl w4 (w4.alloc (.cells #[.int .u32 0, .int .u8 0, .bool true, .bool false, .int .i64 0, .bool false, .slice none 0 0, .slice none 0 0, .int .u32 5, .int .u8 0, .bool true, .bool false, .int .i64 0, .bool false, .slice none 0 0, .slice none 0 0] 62)) := (Bl.refl _).alloc _
  have hb2V := hb24.trans hb4V
  have hta := hide (lawTurns20 none _ S2 _ 0 1 c2 2 [] [rdyE 0] markO [rdyE 0, rdyE 5] _ (by decide) (by decide) (by decide) R.nil (hr2.bl hb2V) ⟨markO_ok, m1, m2, hS2.bl hb2V⟩ hr4 plain20.1)
  have hb0V := hb02.trans hb2V
  clear hr2 hr4 hS2 hb24 hb3 hb4 hb4V hb2V hb02
  go_wp2_with fail
  refine hta.out.mono ?_
  rintro e w5 ⟨rfl, hb5⟩
  have hb05 := hb0V.trans hb5
  clear hta hb0V hb5
  go_wp2_with fail
  refine (lawMark20 _).mono ?_
  rintro e w6 ⟨S6, c6, rfl, m3, m4, hS6, hb6⟩
  have htb := hide (lawTurns20 none none S6 none 0 0 c6 0 [] [] markO [] w6 (by decide) (by decide) (by decide) R.nil R.nil ⟨markO_ok, m3, m4, hS6.zero⟩ R.nil plain20.2.1)
  have hb06 := hb05.trans hb6
  clear hS6 hb05 hb6
  go_wp2_with fail
  refine htb.out.mono ?_
  rintro e w7 ⟨rfl, hb7⟩
  have hb07 := hb06.trans hb7
  clear htb hb06 hb7
  go_wp2_with fail
  refine (lawMark20 _).mono ?_
  rintro e w8 ⟨S8, c8, rfl, m5, m6, hS8, hb8⟩
  obtain ⟨V8, hV8⟩ : ∃ V8, V8 = w8.alloc (.cells #[Value.int IntKind.u8 markO.kind, Value.int IntKind.u32 markO.id.t, Value.int IntKind.u8 markO.id.r, Value.slice S8 markO.pl.length c8, Value.int IntKind.i64 markO.pt] 47) := ⟨_, rfl⟩
  have hr8 : R cOp 0 V8 (some ⟨w8.heap.size, 0, none⟩) [markO] := by rw [hV8]; exact rd_ops1 (w := w8) markO_ok m5 m6 hS8.zero 47
  have hb8V : Bl w8 V8 := by rw [hV8]; exact (Bl.refl _).alloc _
  have hb08 := hb07.trans (hb8.trans hb8V)
  clear hS8 hb07 hb8 hb8V
  go_wp2_with fail
  rw [← hV8]
  refine (lawReady20 0 V8 (by decide) (by decide)).mono ?_
  rintro e w9 ⟨rfl, hb9⟩
  clear hV8
  go_wp2_with fail
  refine (lawReady20 5 _ (by decide) (by decide)).mono ?_
  rintro e w10 ⟨rfl, hb10⟩
  have hr10 := rdy_two w10
  have hb10V : Bl w10 (w10.alloc (.cells #[.int .u32 0, .int .u8 0, .bool true, .bool false, .int .i64 0, .bool false, .slice none 0 0, .slice none 0 0, .int .u32 5, .int .u8 0, .bool true, .bool false, .int .i64 0, .bool false, .slice none 0 0, .slice none 0 0] 62)) := (Bl.refl _).alloc _
  have hr8' := hr8.bl ((hb9.trans hb10).trans hb10V)
  have hb010 := hb08.trans ((hb9.trans hb10).trans hb10V)
  clear hr8 hb9 hb10 hb10V hb08
  go_wp2_with fail
  refine (lawJoin20 _).mono ?_
  rintro e w11 ⟨S11, c11, rfl, m7, m8, hS11, hb11⟩
  have hr8b := hr8'.bl hb11
  have hr10b := hr10.bl hb11
  have hb011 := hb010.trans hb11
  replace hS11 := hS11.zero
  clear hr8' hr10 hb010 hb11
  go_wp2_with fail
  refine (lawReady20 0 _ (by decide) (by decide)).mono ?_
  rintro e w12 ⟨rfl, hb12⟩
  have hr12 := rdy_one 0 (by decide) (by decide) w12
  have hb12V : Bl w11 (w12.alloc (.cells #[.int .u32 0, .int .u8 0, .bool true, .bool false, .int .i64 0, .bool false, .slice none 0 0, .slice none 0 0] 62)) := hb12.alloc _
  have htc := hide (lawTurns20 _ _ S11 _ 1 2 c11 1 [markO] [rdyE 0, rdyE 5] joinO [rdyE 0] _ (by decide) (by decide) (by decide) (hr8b.bl hb12V) (hr10b.bl hb12V) ⟨joinO_ok, m7, m8, hS11.bl hb12V⟩ hr12 plain20.2.2)
  have hb012 := hb011.trans hb12V
  clear hr8b hr10b hS11 hr12 hb12 hb12V hb011
  go_wp2_with fail
  refine htc.out.mono ?_
  rintro e w13 ⟨rfl, hb13⟩
  go_wp2_with fail
  go_ret
  exact ⟨rfl, hb012.trans hb13⟩
end Go.Proofs.YteoodmilcpmmpaaGreat
