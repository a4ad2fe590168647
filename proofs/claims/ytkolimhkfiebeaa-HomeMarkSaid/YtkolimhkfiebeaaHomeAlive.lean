/-
  The walks of law 13's inner functions two, of, alive.
-/
import Derived.Test.YtkolimhkfiebeaaHomeTells
namespace Go.Proofs.Ytkolimhkfiebeaa
open Go.RowKit

def mk2 : Op := ⟨2, ⟨2, 0⟩, [⟨1, 0, 2⟩], 0⟩

def mk5 : Op := ⟨2, ⟨5, 1⟩, [⟨1, 0, 1⟩, ⟨5, 1, 1⟩], 0⟩

def L13 : List Op := [mk2, mk5]

theorem mk2_ok : mk2.ok := by unfold mk2 Op.ok Id.ok u8ok i64ok; decide

theorem mk5_ok : mk5.ok := by unfold mk5 Op.ok Id.ok u8ok i64ok; decide

set_option maxRecDepth 100000 in
theorem plain13 : bagMay L13 = true ∧ allL L13 = [⟨0, 0⟩, ⟨5, 1⟩, ⟨2, 0⟩] := by decide

set_option maxRecDepth 100000 in
theorem plainOf13 : (ofN L13 [⟨1, 0, 1⟩] = 0 ∧ ofS L13 [⟨1, 0, 1⟩] = ⟨0, 0⟩) ∧ (ofN L13 [⟨1, 0, 1⟩, ⟨5, 1, 2⟩] = 0 ∧ ofS L13 [⟨1, 0, 1⟩, ⟨5, 1, 2⟩] = ⟨5, 1⟩) ∧ (ofN L13 [⟨1, 0, 3⟩] = 0 ∧ ofS L13 [⟨1, 0, 3⟩] = ⟨2, 0⟩) ∧ (ofN L13 [] = 0 ∧ ofS L13 [] = ⟨0, 0⟩) := by decide

set_option maxRecDepth 100000 in
set_option maxHeartbeats 1000000 in
theorem lawTwo13 (w : World) : Calls Try.prog 40 #[] w fun e w' => ∃ A, e = .returned (.slice A 2 2) ∧ R cOp w.heap.size w' A L13 ∧ Bl w w' := by
  have hr1 := R.rows (C := cRun) (lo := w.heap.size) (w := w) (xs := [⟨1, 0, 2⟩]) (cs := [.int .u32 1, .int .u8 0, .int .i64 2]) (t := 57) (RdL.one1 ⟨by unfold Run.ok i64ok; decide, rfl⟩) (Nat.le_refl _)
  obtain ⟨V1, hV1⟩ : ∃ V1, V1 = w.alloc (.cells #[.int .u32 1, .int .u8 0, .int .i64 2] 57) := ⟨_, rfl⟩
  have hr1' : R cRun w.heap.size V1 (some ⟨w.heap.size, 0, none⟩) [⟨1, 0, 2⟩] := by rw [hV1]; exact hr1
  have hs1 : V1.heap.size = w.heap.size + 1 := by rw [hV1]; exact World.size_alloc _ _
  have hb1 : Bl w V1 := by rw [hV1]; exact (Bl.refl _).alloc _
  obtain ⟨V2, hV2⟩ : ∃ V2, V2 = V1.alloc (.cells #[.int .u8 2, .int .u32 2, .int .u8 0, .slice (some ⟨w.heap.size, 0, none⟩) 1 1, .int .i64 0] 68) := ⟨_, rfl⟩
  have hs2 : V2.heap.size = w.heap.size + 2 := by rw [hV2, World.size_alloc, hs1]
  have hb2 : Bl V1 V2 := by rw [hV2]; exact (Bl.refl _).alloc _
  have hr2 := R.rows (C := cRun) (lo := w.heap.size) (w := V2) (xs := [⟨1, 0, 1⟩, ⟨5, 1, 1⟩]) (cs := [.int .u32 1, .int .u8 0, .int .i64 1, .int .u32 5, .int .u8 1, .int .i64 1]) (t := 57) ⟨[.int .u32 1, .int .u8 0, .int .i64 1], [.int .u32 5, .int .u8 1, .int .i64 1], rfl, ⟨by unfold Run.ok i64ok; decide, rfl⟩, RdL.one1 ⟨by unfold Run.ok i64ok; decide, rfl⟩⟩ (by omega)
  rw [hs2] at hr2
  obtain ⟨V3, hV3⟩ : ∃ V3, V3 = V2.alloc (.cells #[.int .u32 1, .int .u8 0, .int .i64 1, .int .u32 5, .int .u8 1, .int .i64 1] 57) := ⟨_, rfl⟩
  have hr2' : R cRun w.heap.size V3 (some ⟨w.heap.size + 2, 0, none⟩) [⟨1, 0, 1⟩, ⟨5, 1, 1⟩] := by rw [hV3]; exact hr2
  have hs3 : V3.heap.size = w.heap.size + 3 := by rw [hV3, World.size_alloc, hs2]
  have hb3 : Bl V2 V3 := by rw [hV3]; exact (Bl.refl _).alloc _
  obtain ⟨V4, hV4⟩ : ∃ V4, V4 = V3.alloc (.cells #[.int .u8 2, .int .u32 5, .int .u8 1, .slice (some ⟨w.heap.size + 2, 0, none⟩) 2 2, .int .i64 0] 68) := ⟨_, rfl⟩
  have hs4 : V4.heap.size = w.heap.size + 4 := by rw [hV4, World.size_alloc, hs3]
  have hb4 : Bl V3 V4 := by rw [hV4]; exact (Bl.refl _).alloc _
  have hfin := R.rows (C := cOp) (lo := w.heap.size) (w := V4) (xs := L13) (cs := opCells mk2 (some ⟨w.heap.size, 0, none⟩) 1 ++ opCells mk5 (some ⟨w.heap.size + 2, 0, none⟩) 2) (t := 68)
    ⟨_, _, rfl, ⟨mk2_ok, _, 1, Nat.le_refl _, by decide, rfl, hr1'.bl (hb2.trans (hb3.trans hb4))⟩, RdL.one1 ⟨mk5_ok, _, 2, Nat.le_refl _, by decide, rfl, hr2'.bl hb4⟩⟩ (by omega)
  have hbl : Bl w V4 := hb1.trans (hb2.trans (hb3.trans hb4))
  replace hfin := hide (And.intro hfin (hbl.alloc (.cells (opCells mk2 (some ⟨w.heap.size, 0, none⟩) 1 ++ opCells mk5 (some ⟨w.heap.size + 2, 0, none⟩) 2).toArray 68)))
  rw [hs4] at hfin
  subst hV4 hV3 hV2 hV1
  clear hr1 hr1' hr2 hr2' hb1 hb2 hb3 hb4 hs1 hs2 hs3 hs4 hbl
  go_enter Try.func40, Try.ntmps40
  go_wp2
  go_ret
  exact ⟨_, rfl, hfin.out.1, hfin.out.2⟩

theorem homeOf13 (A B : Option Addr) (c d : Nat) (p : List Run) (w : World) (hp : p.length ≤ maxLen) (hA : R cOp 0 w A L13) (hB : R cRun 0 w B p) (want : Id) (h1 : ofN L13 p = 0) (h2 : ofS L13 p = want) :
    Calls Try.prog 25 #[.slice A 2 c, .slice B p.length d] w fun e w' => e = .returned (.tuple #[.agg #[.int .u32 want.t, .int .u8 want.r], .int .i64 0]) ∧ Bl w w' := by
  have h := homeOf A B c d L13 p w (by decide) hp hA hB
  rw [h1, h2] at h
  exact h

set_option maxRecDepth 100000 in
set_option maxHeartbeats 1000000 in
theorem lawOf13 (want : Id) (B : Option Addr) (d : Nat) (p : List Run) (w : World) (hp : p.length ≤ maxLen) (hB : R cRun 0 w B p) (h1 : ofN L13 p = 0) (h2 : ofS L13 p = want) :
    Calls Try.prog 97 #[.agg #[.int .u32 want.t, .int .u8 want.r], .slice B p.length d] w fun e w' => e = .returned (.bool true) ∧ Bl w w' := by
  obtain ⟨W, hW⟩ : ∃ W, W = w.alloc (.cells #[Value.int IntKind.u32 want.t, Value.int IntKind.u8 want.r] 36) := ⟨_, rfl⟩
  have hbW : Bl w W := by rw [hW]; exact (Bl.refl _).alloc _
  have at0 : IdBox W w.heap.size want := by rw [hW]; exact IdBox.new w want _
  have heq := eqSelfId want
  have hof := hide fun A V (hA : R cOp 0 V A L13) (hv : Bl w V) => homeOf13 A B 2 d p V hp hA (hB.bl hv) want h1 h2
  clear h1 h2
  go_enter Try.func97, Try.ntmps97
  go_wp2_with fail
  rw [← hW]
  clear hW
  refine (lawTwo13 _).mono ?_
  rintro e w1 ⟨A1, rfl, hr1, hb1⟩
  go_wp2_with fail
  refine (hof.out A1 _ hr1.zero (hbW.trans hb1)).mono ?_
  rintro e w2 ⟨rfl, hb2⟩
  have hb12 := hb1.trans hb2
  obtain ⟨x0, x1, -, -⟩ := at0.bl hb12
  have hxl := (at0.bl hb12).lt
  have hne : w.heap.size ≠ w2.heap.size := by omega
  go_wp2_with fail
  go_ret
  exact ⟨rfl, (hbW.trans hb12).alloc _⟩

theorem homeAll13 (A : Option Addr) (c : Nat) (w : World) (hA : R cOp 0 w A L13) :
    Calls Try.prog 23 #[.slice A 2 c] w fun e w' => ∃ A' c', e = .returned (.tuple #[.slice A' 3 c', .int .i64 0]) ∧ 3 ≤ c' ∧ c' ≤ maxLen ∧ R cId w.heap.size w' A' [⟨0, 0⟩, ⟨5, 1⟩, ⟨2, 0⟩] ∧ Bl w w' := by
  have h := homeAll A c L13 w (by decide) hA
  rw [plain13.1, plain13.2] at h
  exact h

theorem sameIds13 (A B : Option Addr) (c d : Nat) (w : World) (hA : R cId 0 w A [⟨0, 0⟩, ⟨5, 1⟩, ⟨2, 0⟩]) (hB : R cId 0 w B [⟨0, 0⟩, ⟨5, 1⟩, ⟨2, 0⟩]) :
    Calls Try.prog 31 #[.slice A 3 c, .slice B 3 d] w fun e w' => e = .returned (.bool true) ∧ Bl w w' := sameSelfIds [⟨0, 0⟩, ⟨5, 1⟩, ⟨2, 0⟩] (by decide) hA hB

theorem ofA13 (B : Option Addr) (d : Nat) (w : World) (hB : R cRun 0 w B [⟨1, 0, 1⟩]) : Calls Try.prog 97 #[.agg #[.int .u32 0, .int .u8 0], .slice B 1 d] w fun e w' => e = .returned (.bool true) ∧ Bl w w' :=
  lawOf13 ⟨0, 0⟩ B d [⟨1, 0, 1⟩] w (by decide) hB plainOf13.1.1 plainOf13.1.2

theorem ofB13 (B : Option Addr) (d : Nat) (w : World) (hB : R cRun 0 w B [⟨1, 0, 1⟩, ⟨5, 1, 2⟩]) : Calls Try.prog 97 #[.agg #[.int .u32 5, .int .u8 1], .slice B 2 d] w fun e w' => e = .returned (.bool true) ∧ Bl w w' :=
  lawOf13 ⟨5, 1⟩ B d [⟨1, 0, 1⟩, ⟨5, 1, 2⟩] w (by decide) hB plainOf13.2.1.1 plainOf13.2.1.2

theorem ofC13 (B : Option Addr) (d : Nat) (w : World) (hB : R cRun 0 w B [⟨1, 0, 3⟩]) : Calls Try.prog 97 #[.agg #[.int .u32 2, .int .u8 0], .slice B 1 d] w fun e w' => e = .returned (.bool true) ∧ Bl w w' :=
  lawOf13 ⟨2, 0⟩ B d [⟨1, 0, 3⟩] w (by decide) hB plainOf13.2.2.1.1 plainOf13.2.2.1.2

theorem ofD13 (w : World) : Calls Try.prog 97 #[.agg #[.int .u32 0, .int .u8 0], .slice none 0 0] w fun e w' => e = .returned (.bool true) ∧ Bl w w' :=
  lawOf13 ⟨0, 0⟩ none 0 [] w (by decide) R.nil plainOf13.2.2.2.1 plainOf13.2.2.2.2

theorem runs1 (w : World) (x : Run) (hx : x.ok) : R cRun 0 (w.alloc (.cells #[.int .u32 x.t, .int .u8 x.r, .int .i64 x.m] 57)) (some ⟨w.heap.size, 0, none⟩) [x] :=
  R.rows (C := cRun) (cs := [.int .u32 x.t, .int .u8 x.r, .int .i64 x.m]) (RdL.one1 ⟨hx, rfl⟩) (Nat.zero_le _)

theorem runs2 (w : World) (x y : Run) (hx : x.ok) (hy : y.ok) : R cRun 0 (w.alloc (.cells #[.int .u32 x.t, .int .u8 x.r, .int .i64 x.m, .int .u32 y.t, .int .u8 y.r, .int .i64 y.m] 57)) (some ⟨w.heap.size, 0, none⟩) [x, y] :=
  R.rows (C := cRun) (cs := [.int .u32 x.t, .int .u8 x.r, .int .i64 x.m, .int .u32 y.t, .int .u8 y.r, .int .i64 y.m]) ⟨[.int .u32 x.t, .int .u8 x.r, .int .i64 x.m], _, rfl, ⟨hx, rfl⟩, RdL.one1 ⟨hy, rfl⟩⟩ (Nat.zero_le _)

set_option maxRecDepth 100000 in
set_option maxHeartbeats 2000000 in
theorem lawAlive13 (w : World) : Calls Try.prog 37 #[] w fun e w' => e = .returned (.bool true) ∧ Bl w w' := by
  go_enter Try.func37, Try.ntmps37
  go_wp2_with fail
  refine (lawTwo13 _).mono ?_
  rintro e w1 ⟨A1, rfl, hr1, hb1⟩
  go_wp2_with fail
  refine (homeAll13 A1 2 _ hr1.zero).mono ?_
  rintro e w2 ⟨A2, c2, rfl, h21, h22, hr2, hb2⟩
  have hids : R cId 0 (w2.alloc (.cells #[.int .u32 0, .int .u8 0, .int .u32 5, .int .u8 1, .int .u32 2, .int .u8 0] 36)) (some ⟨w2.heap.size, 0, none⟩) [⟨0, 0⟩, ⟨5, 1⟩, ⟨2, 0⟩] :=
    R.rows (C := cId) (cs := [.int .u32 0, .int .u8 0, .int .u32 5, .int .u8 1, .int .u32 2, .int .u8 0]) ⟨[.int .u32 0, .int .u8 0], _, rfl, ⟨by unfold Id.ok; decide, rfl⟩, ⟨[.int .u32 5, .int .u8 1], _, rfl, ⟨by unfold Id.ok; decide, rfl⟩, RdL.one1 ⟨by unfold Id.ok; decide, rfl⟩⟩⟩ (Nat.zero_le _)
  go_wp2_with fail
  refine (sameIds13 A2 _ c2 _ _ (hr2.zero.bl ((Bl.refl _).alloc _)) hids).mono ?_
  rintro e w3 ⟨rfl, hb3⟩
  have hb13 : Bl w w3 := hb1.trans (hb2.trans (((Bl.refl _).alloc _).trans hb3))
  clear hids hr1 hr2
  have hrn := runs1 w3 ⟨1, 0, 1⟩ (by unfold Run.ok i64ok; decide)
  go_wp2_with fail
  refine (ofA13 _ _ _ hrn).mono ?_
  rintro e w4 ⟨rfl, hb4⟩
  have hb14 : Bl w w4 := hb13.trans (((Bl.refl _).alloc _).trans hb4)
  clear hrn
  have hrn := runs2 w4 ⟨1, 0, 1⟩ ⟨5, 1, 2⟩ (by unfold Run.ok i64ok; decide) (by unfold Run.ok i64ok; decide)
  go_wp2_with fail
  refine (ofB13 _ _ _ hrn).mono ?_
  rintro e w5 ⟨rfl, hb5⟩
  have hb15 : Bl w w5 := hb14.trans (((Bl.refl _).alloc _).trans hb5)
  clear hrn
  have hrn := runs1 w5 ⟨1, 0, 3⟩ (by unfold Run.ok i64ok; decide)
  go_wp2_with fail
  refine (ofC13 _ _ _ hrn).mono ?_
  rintro e w6 ⟨rfl, hb6⟩
  have hb16 : Bl w w6 := hb15.trans (((Bl.refl _).alloc _).trans hb6)
  clear hrn
  go_wp2_with fail
  refine (ofD13 _).mono ?_
  rintro e w7 ⟨rfl, hb7⟩
  go_wp2_with fail
  go_ret
  exact ⟨rfl, hb16.trans hb7⟩
end Go.Proofs.Ytkolimhkfiebeaa
