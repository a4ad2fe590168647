/-
  The walks of law 17's inner functions two, gone, found, alive.
-/
import Derived.Test.YteoodmilcpmmpaaGreatAncA
import Derived.Test.YteoodmilcpmmpaaGreatBagC
namespace Go.Proofs.YteoodmilcpmmpaaGreat
open Go.RowKit

def ins1 : Op := ⟨1, ⟨1, 0⟩, [⟨1, 0, 1⟩], 65⟩

def ins2 : Op := ⟨1, ⟨2, 0⟩, [⟨1, 0, 2⟩], 66⟩

def del1 : Op := ⟨3, ⟨10, 1⟩, [⟨1, 0, 1⟩], 0⟩

def L17 : List Op := [ins1, ins2]

def G17 : List Op := [ins1, ins2, del1]

theorem ins1_ok : ins1.ok := by unfold ins1 Op.ok Id.ok u8ok i64ok; decide

theorem ins2_ok : ins2.ok := by unfold ins2 Op.ok Id.ok u8ok i64ok; decide

theorem del1_ok : del1.ok := by unfold del1 Op.ok Id.ok u8ok i64ok; decide

set_option maxRecDepth 100000 in
theorem plainA17 : (atN L17 ⟨0, 0⟩ 1 = 0 ∧ (atX L17 ⟨0, 0⟩ 1).pl = ins2.pl) ∧ (atN L17 ⟨0, 0⟩ 2 = 2 ∧ (atX L17 ⟨0, 0⟩ 2).pl = []) ∧ (atN L17 ⟨2, 0⟩ 0 = 130 ∧ (atX L17 ⟨2, 0⟩ 0).pl = []) := by decide +kernel

set_option maxRecDepth 100000 in
theorem plainF17 : (fndB L17 ins2.pl = true ∧ fndS L17 ins2.pl = ⟨0, 0⟩ ∧ fndK L17 ins2.pl = 1) ∧ (fndB G17 ins2.pl = true ∧ fndS G17 ins2.pl = ⟨0, 0⟩ ∧ fndK G17 ins2.pl = 0) ∧ (fndB G17 ins1.pl = true ∧ fndS G17 ins1.pl = ⟨0, 0⟩ ∧ fndK G17 ins1.pl = 0) ∧ (fndB [ins1] ins2.pl = true ∧ fndS [ins1] ins2.pl = ⟨0, 0⟩ ∧ fndK [ins1] ins2.pl = 1) ∧ (fndB L17 [] = false ∧ fndS L17 [] = ⟨0, 0⟩ ∧ fndK L17 [] = 0) := by decide +kernel

/-- A new row of some elements' cells, the call's own. -/
theorem Own.rows {α : Type} {C : Codec α} {lo n : Nat} {w : World} {xs : List α} {cs : List Value} {e : TypeId} (h : RdL C w (Fresh lo w) xs cs) (hlo : lo ≤ w.heap.size) (hn : n = xs.length) (hm : n ≤ maxLen) :
    Own C e lo (w.alloc (.cells cs.toArray e)) (.slice (some ⟨w.heap.size, 0, none⟩) n n) xs := by
  subst hn
  have hl := h.length
  refine ⟨cs, ⟨hl, .inr ⟨w.heap.size, xs.length, cs.toArray, rfl, hlo, heap_alloc_new w _, Nat.le_refl _, hm, by simpa using hl, by simp [← hl]⟩⟩, RdL.keep h (fun b hb => Below.heap_alloc w _ b hb.2) (fun b hb => ⟨⟨hb.1, by have := hb.2; rw [World.size_alloc]; omega⟩, fun e => ?_⟩)⟩
  have := hb.2
  injection e with e
  have e' : w.heap.size = b := e
  omega

set_option maxRecDepth 100000 in
set_option maxHeartbeats 1000000 in
theorem lawTwo17 (w : World) : Calls Tryz.prog 51 #[] w fun e w' => ∃ g, e = .returned (.slice (some ⟨g, 0, none⟩) 2 2) ∧ R cOp w.heap.size w' (some ⟨g, 0, none⟩) L17 ∧ Own cOp 47 w.heap.size w' (.slice (some ⟨g, 0, none⟩) 2 2) L17 ∧ Bl w w' := by
  have hr1 := R.rows (C := cRun) (lo := w.heap.size) (w := w) (xs := [⟨1, 0, 1⟩]) (cs := [.int .u32 1, .int .u8 0, .int .i64 1]) (t := 40) (RdL.one1 ⟨by unfold Run.ok i64ok; decide, rfl⟩) (Nat.le_refl _)
  obtain ⟨V1, hV1⟩ : ∃ V1, V1 = w.alloc (.cells #[.int .u32 1, .int .u8 0, .int .i64 1] 40) := ⟨_, rfl⟩
  have hr1' : R cRun w.heap.size V1 (some ⟨w.heap.size, 0, none⟩) [⟨1, 0, 1⟩] := by rw [hV1]; exact hr1
  have hs1 : V1.heap.size = w.heap.size + 1 := by rw [hV1]; exact World.size_alloc _ _
  have hb1 : Bl w V1 := by rw [hV1]; exact (Bl.refl _).alloc _
  have hr2 := R.rows (C := cRun) (lo := w.heap.size) (w := V1) (xs := [⟨1, 0, 2⟩]) (cs := [.int .u32 1, .int .u8 0, .int .i64 2]) (t := 40) (RdL.one1 ⟨by unfold Run.ok i64ok; decide, rfl⟩) (by omega)
  rw [hs1] at hr2
  obtain ⟨V2, hV2⟩ : ∃ V2, V2 = V1.alloc (.cells #[.int .u32 1, .int .u8 0, .int .i64 2] 40) := ⟨_, rfl⟩
  have hr2' : R cRun w.heap.size V2 (some ⟨w.heap.size + 1, 0, none⟩) [⟨1, 0, 2⟩] := by rw [hV2]; exact hr2
  have hs2 : V2.heap.size = w.heap.size + 2 := by rw [hV2, World.size_alloc, hs1]
  have hb2 : Bl V1 V2 := by rw [hV2]; exact (Bl.refl _).alloc _
  have hrd : RdL cOp V2 (Fresh w.heap.size V2) L17 (opCells ins1 (some ⟨w.heap.size, 0, none⟩) 1 ++ opCells ins2 (some ⟨w.heap.size + 1, 0, none⟩) 1) :=
    ⟨_, _, rfl, ⟨ins1_ok, _, 1, Nat.le_refl _, by decide, rfl, hr1'.bl hb2⟩, RdL.one1 ⟨ins2_ok, _, 1, Nat.le_refl _, by decide, rfl, hr2'⟩⟩
  have hfin := R.rows (t := 47) hrd (by omega)
  have hown := Own.rows (n := 2) (e := 47) hrd (by omega) rfl (by decide)
  have hbl : Bl w V2 := hb1.trans hb2
  replace hfin := hide (And.intro hfin (And.intro hown (hbl.alloc (.cells (opCells ins1 (some ⟨w.heap.size, 0, none⟩) 1 ++ opCells ins2 (some ⟨w.heap.size + 1, 0, none⟩) 1).toArray 47))))
  rw [hs2] at hfin
  subst hV2 hV1
  clear hr1 hr1' hr2 hr2' hb1 hb2 hs1 hs2 hbl hrd hown
  go_enter Tryz.func51, Tryz.ntmps51
  go_wp2
  go_ret
  exact ⟨_, rfl, hfin.out.1, hfin.out.2.1, hfin.out.2.2⟩

set_option maxRecDepth 100000 in
set_option maxHeartbeats 1000000 in
theorem lawGone17 (w : World) : Calls Tryz.prog 54 #[] w fun e w' => ∃ A c, e = .returned (.slice A 3 c) ∧ R cOp w.heap.size w' A G17 ∧ Bl w w' := by
  obtain ⟨i0, hi, hz0, hz1, hz2⟩ := info_parts Tryz.infoOp
  go_enter Tryz.func54, Tryz.ntmps54
  go_wp2_with fail
  refine (lawTwo17 _).mono ?_
  rintro e w1 ⟨g1, rfl, hr1, hown1, hb1⟩
  go_wp2_with fail
  refine (lawTwo17 _).mono ?_
  rintro e w2 ⟨g2, rfl, hr2, hown2, hb2⟩
  obtain ⟨_, ho, S, sc, s1, s2, hS, c0, c1, c2, c3, c4⟩ := hr2.op (k := 0) (x := ins1) rfl
  have hgl := (hr2.get (k := 0) (x := ins1) rfl).1
  simp only [Nat.zero_mul, Nat.add_zero, Nat.zero_add] at c3
  have hown3 := hide ((hown1.bl hb2).bl ((Bl.refl w2).alloc (.cells (opCells del1 S sc).toArray 47)))
  have hsrc := hide (hown1.src (t := 47) (x := del1) (cs := opCells del1 S sc) hb2 hb1.size ⟨del1_ok, S, sc, s1, s2, rfl, hS⟩)
  have q1 : L17.length + [del1].length ≤ maxLen := by decide
  have q2 : (L17.length + [del1].length) * 48 ≤ 140737488355328 := by decide
  have q3 : w.heap.size ≤ (w2.alloc (.cells (opCells del1 S sc).toArray 47)).heap.size := by rw [World.size_alloc]; have := hb1.size; have := hb2.size; omega
  have hb12 := hb1.trans hb2
  clear hr1 hown1 hr2 hown2 hS c0 c1 c2 c4
  go_wp2_with (at_builtin; refine Hid.out ?_)
  refine hide ?_
  refine wpList_append_any2 (C := cOp) (xs := L17) (ys := [del1]) rfl (.tmp 1) (.tmp 8) _ rfl 47 i0 _ 48 Tryz.underlying22 hi hz0 hz1 hz2 rfl _ w.heap.size rfl hown3.out (some ⟨w2.heap.size, 0, none⟩) 1 1 rfl rfl hsrc.out q1 q2 q3 ?_
  intro v9 w9 hown9 hg9 hf9
  have hb9 : Bl w w9 := (hb12.alloc _).app hown3.out (Nat.le_refl _) hg9
  clear hown3 hsrc q1 q2 q3 hg9 hf9
  obtain ⟨X, x, rfl, hX, hx1, hx2⟩ := hown9.reads
  go_wp2_with fail
  go_ret
  exact ⟨X, x, rfl, hX, hb9⟩

theorem eqZeroId (W : World) : (binOp .eql 25 (.agg #[.int .u32 0, .int .u8 0]) (.agg #[.int .u32 0, .int .u8 0])).run Tryz.prog W = .ok (.bool true) W := by
  have h := run_eqId ⟨0, 0⟩ ⟨0, 0⟩ W
  rw [show neqId (⟨0, 0⟩ : Id) ⟨0, 0⟩ = false by decide] at h
  exact h

set_option maxRecDepth 100000 in
set_option maxHeartbeats 1000000 in
theorem lawFound17 (A B : Option Addr) (c d : Nat) (l : List Op) (p : List Run) (want : Int) (w : World) (hl : l.length ≤ maxLen) (hp : p.length ≤ maxLen) (hA : R cOp 0 w A l) (hB : R cRun 0 w B p) (h : fndB l p = true ∧ fndS l p = ⟨0, 0⟩ ∧ fndK l p = want) :
    Calls Tryz.prog 53 #[.slice A l.length c, .slice B p.length d, .int .i64 want] w fun e w' => e = .returned (.bool true) ∧ Bl w w' := by
  have hf := anchorFind A B c d l p w hl hp hA hB
  rw [h.1, h.2.1, h.2.2, okOr_true] at hf
  unfold IdKN at hf
  have heq := eqZeroId
  replace hf := hide hf
  clear h
  go_enter Tryz.func53, Tryz.ntmps53
  go_wp2_with fail
  refine hf.out.mono ?_
  rintro e w1 ⟨rfl, hb1⟩
  go_wp2_with fail
  go_ret
  exact ⟨rfl, hb1.alloc _⟩

theorem samePl17 {A B : Option Addr} {c d : Nat} {w : World} (hA : R cRun 0 w A ins2.pl) (hB : R cRun 0 w B ins2.pl) :
    Calls Tryz.prog 52 #[.slice A 1 c, .slice B 1 d] w fun e w' => e = .returned (.bool true) ∧ Bl w w' := by
  have h := placeSame A B c d ins2.pl ins2.pl w (by decide) (by decide) hA hB
  rw [show same ins2.pl ins2.pl = true by unfold same; simp] at h
  exact h

theorem makeA17 (A : Option Addr) (c : Nat) (w : World) (hA : R cOp 0 w A L17) : Calls Tryz.prog 11 #[.slice A 2 c, .agg #[.int .u32 0, .int .u8 0], .int .i64 1] w fun e w' => ∃ P pc, e = .returned (.tuple #[.slice P 1 pc, .int .i64 0]) ∧ R cRun 0 w' P ins2.pl ∧ Bl w w' := by
  have h := anchorMake A c L17 ⟨0, 0⟩ 1 w (by decide) hA
  rw [plainA17.1.1, plainA17.1.2] at h
  exact h.mono fun e w' ⟨P, pc, he, _, _, hP, hb⟩ => ⟨P, pc, he, hP.zero, hb⟩

theorem foundA17 (A B : Option Addr) (c d : Nat) (w : World) (hA : R cOp 0 w A L17) (hB : R cRun 0 w B ins2.pl) : Calls Tryz.prog 53 #[.slice A 2 c, .slice B 1 d, .int .i64 1] w fun e w' => e = .returned (.bool true) ∧ Bl w w' :=
  lawFound17 A B c d L17 ins2.pl 1 w (by decide) (by decide) hA hB plainF17.1

theorem foundB17 (A B : Option Addr) (c d : Nat) (w : World) (hA : R cOp 0 w A G17) (hB : R cRun 0 w B ins2.pl) : Calls Tryz.prog 53 #[.slice A 3 c, .slice B 1 d, .int .i64 0] w fun e w' => e = .returned (.bool true) ∧ Bl w w' :=
  lawFound17 A B c d G17 ins2.pl 0 w (by decide) (by decide) hA hB plainF17.2.1

theorem foundC17 (A B : Option Addr) (c d : Nat) (w : World) (hA : R cOp 0 w A G17) (hB : R cRun 0 w B ins1.pl) : Calls Tryz.prog 53 #[.slice A 3 c, .slice B 1 d, .int .i64 0] w fun e w' => e = .returned (.bool true) ∧ Bl w w' :=
  lawFound17 A B c d G17 ins1.pl 0 w (by decide) (by decide) hA hB plainF17.2.2.1

theorem foundD17 (A B : Option Addr) (c d : Nat) (w : World) (hA : R cOp 0 w A [ins1]) (hB : R cRun 0 w B ins2.pl) : Calls Tryz.prog 53 #[.slice A 1 c, .slice B 1 d, .int .i64 1] w fun e w' => e = .returned (.bool true) ∧ Bl w w' :=
  lawFound17 A B c d [ins1] ins2.pl 1 w (by decide) (by decide) hA hB plainF17.2.2.2.1

set_option maxRecDepth 100000 in
set_option maxHeartbeats 2000000 in
theorem lawAlive17 (w : World) : Calls Tryz.prog 17 #[] w fun e w' => e = .returned (.bool true) ∧ Bl w w' := by
  go_enter Tryz.func17, Tryz.ntmps17
  go_wp2_with fail
  refine (lawTwo17 _).mono ?_
  rintro e w1 ⟨g1, rfl, hr1, -, hb1⟩
  go_wp2_with fail
  refine (makeA17 _ 2 _ hr1.zero).mono ?_
  rintro e w2 ⟨P, pc, rfl, hP, hb2⟩
  have hb12 := hb1.trans hb2
  clear hr1
  go_wp2_with fail
  refine (lawTwo17 _).mono ?_
  rintro e w3 ⟨g3, rfl, hr3, -, hb3⟩
  obtain ⟨_, ho, S, sc, s1, s2, hS, c0, c1, c2, c3, c4⟩ := hr3.op (k := 1) (x := ins2) rfl
  have hSz := hS.zero
  have hP3 := hP.bl hb3
  have hb13 := hb12.trans hb3
  clear c0 c1 c2 c4
  simp only [Nat.one_mul, Nat.zero_add] at c3
  go_wp2_with fail
  refine (samePl17 hP3 hSz).mono ?_
  rintro e w4 ⟨rfl, hb4⟩
  have hP4 := hP3.bl hb4
  have hb14 := hb13.trans hb4
  clear c3 hSz hS hr3
  go_wp2_with fail
  refine (lawTwo17 _).mono ?_
  rintro e w5 ⟨g5, rfl, hr5, -, hb5⟩
  have hP5 := hP4.bl hb5
  have hb15 := hb14.trans hb5
  go_wp2_with fail
  refine (foundA17 _ _ _ _ _ hr5.zero hP5).mono ?_
  rintro e w6 ⟨rfl, hb6⟩
  have hP6 := hP5.bl hb6
  have hb16 := hb15.trans hb6
  clear hr5
  go_wp2_with fail
  refine (lawGone17 _).mono ?_
  rintro e w7 ⟨A7, c7, rfl, hr7, hb7⟩
  have hP7 := hP6.bl hb7
  have hb17 := hb16.trans hb7
  go_wp2_with fail
  refine (foundB17 _ _ _ _ _ hr7.zero hP7).mono ?_
  rintro e w8 ⟨rfl, hb8⟩
  have hb18 := hb17.trans hb8
  clear hr7 hP hP3 hP4 hP5 hP6 hP7
  go_wp2_with fail
  refine (lawGone17 _).mono ?_
  rintro e w9 ⟨A9, c9, rfl, hr9, hb9⟩
  have hb19 := hb18.trans hb9
  go_wp2_with fail
  refine (lawTwo17 _).mono ?_
  rintro e w10 ⟨g10, rfl, hr10, -, hb10⟩
  obtain ⟨_, ho', S', sc', s1', s2', hS', c0, c1, c2, c3, c4⟩ := hr10.op (k := 0) (x := ins1) rfl
  have hSz := hS'.zero
  have hA10 := hr9.zero.bl hb10
  have hb110 := hb19.trans hb10
  clear c0 c1 c2 c4
  simp only [Nat.zero_mul, Nat.add_zero, Nat.zero_add] at c3
  go_wp2_with fail
  refine (foundC17 _ _ _ _ _ hA10 hSz).mono ?_
  rintro e w11 ⟨rfl, hb11⟩
  go_wp2_with fail
  go_ret
  exact ⟨rfl, hb110.trans hb11⟩
end Go.Proofs.YteoodmilcpmmpaaGreat
