/-
  The walks of clock.Join, clock.Less, clock.one, clock.Add.
-/
import Derived.Test.YtkolimhkfiebeaaEach
namespace Go.Proofs.Ytkolimhkfiebeaa
open Go.RowKit

def cSetL (want : Bool → Bool → Bool) (a b : List Times) : List Times :=
  if clockMay a && clockMay b then outL (fun r => setL want (tabOf a r) (tabOf b r)) (fun r => setN want (tabOf a r) (tabOf b r)) else []

def cSetN (want : Bool → Bool → Bool) (a b : List Times) : Int :=
  if clockMay a && clockMay b then eachN (fun r => setN want (tabOf a r) (tabOf b r)) 8 else 8

set_option maxRecDepth 100000 in
set_option maxHeartbeats 1000000 in
theorem clockEach_bad (wf : FuncId) (ps : Array Value) (A B : Option Addr) (c d : Nat) (a b : List Times) (w : World) (hl : a.length ≤ 140737488355328) (hm : b.length ≤ 140737488355328) (hA : R cTimes 0 w A a) (hB : R cTimes 0 w B b)
    (hbad : (clockMay a && clockMay b) = false) :
    Calls Try.prog 70 #[.slice A a.length c, .slice B b.length d, .func (.func wf) #[] ps] w (New2 cTimes [] 8 w) := by
  have hc1 := fun V (hb : Bl w V) => clockCheck A c a V (by unfold maxLen; omega) (hA.bl hb)
  have hc2 := fun V (hb : Bl w V) => clockCheck B d b V (by unfold maxLen; omega) (hB.bl hb)
  cases hma : clockMay a
  · rw [hma, okOr_false] at hc1
    replace hc1 := hide hc1
    clear hma hbad
    go_enter Try.func70, Try.ntmps70
    go_wp2_with fail
    refine (hc1.out _ (Bl.refl _)).mono ?_
    rintro e w1 ⟨rfl, hb1⟩
    go_wp2_with fail
    go_ret2
    exact ⟨none, 0, rfl, Nat.le_refl _, Nat.zero_le _, R.nil, hb1⟩
  · rw [hma, Bool.true_and] at hbad
    rw [hma, okOr_true] at hc1
    rw [hbad, okOr_false] at hc2
    replace hc1 := hide hc1
    replace hc2 := hide hc2
    clear hma hbad
    go_enter Try.func70, Try.ntmps70
    go_wp2_with fail
    refine (hc1.out _ (Bl.refl _)).mono ?_
    rintro e w1 ⟨rfl, hb1⟩
    go_wp2_with fail
    refine (hc2.out _ hb1).mono ?_
    rintro e w2 ⟨rfl, hb2⟩
    go_wp2_with fail
    go_ret2
    exact ⟨none, 0, rfl, Nat.le_refl _, Nat.zero_le _, R.nil, hb1.trans hb2⟩

theorem clockSet (wf : FuncId) (want : Bool → Bool → Bool) (hwe : ∀ args w, (callFunc wf args).run Try.prog w = .ok (.enter wf args) w)
    (hset : ∀ (A B : Option Addr) (c d : Nat) (a b : List Span) (w : World), a.length ≤ maxLen → b.length ≤ maxLen → R cSpan 0 w A a → R cSpan 0 w B b → Calls Try.prog wf #[.slice A a.length c, .slice B b.length d] w (New2 cSpan (setL want a b) (setN want a b) w))
    (A B : Option Addr) (c d : Nat) (a b : List Times) (w : World) (hl : a.length ≤ 140737488355328) (hm : b.length ≤ 140737488355328) (hA : R cTimes 0 w A a) (hB : R cTimes 0 w B b) :
    Calls Try.prog 70 #[.slice A a.length c, .slice B b.length d, .func (.func wf) #[] #[]] w (New2 cTimes (cSetL want a b) (cSetN want a b) w) := by
  unfold cSetL cSetN
  cases h : clockMay a && clockMay b
  · exact clockEach_bad wf #[] A B c d a b w hl hm hA hB h
  · rw [Bool.and_eq_true] at h
    refine (clockEach (fun _ W => Bl w W) (fun r => setL want (tabOf a r) (tabOf b r)) (fun r => setN want (tabOf a r) (tabOf b r)) wf #[] hwe A B c d a b w hl hm hA hB h.1 h.2 (fun r W W' h1 h2 => h2.step h1) (Bl.refl _) ?_).mono ?_
    · intro r fm fn W hr hta htb hsz hq
      obtain ⟨A1, c1, e1, p1, p2, hR1⟩ := hta r
      obtain ⟨B1, d1, e2, q1, q2, hR2⟩ := htb r
      rw [e1, e2, Array.append_empty]
      refine (hset A1 B1 c1 d1 (tabOf a r) (tabOf b r) W (Nat.le_trans p1 p2) (Nat.le_trans q1 q2) (hR1.bl hq) (hR2.bl hq)).mono ?_
      rintro e W' ⟨X, x, he, h1, h2, h3, h4⟩
      exact ⟨X, x, he, h1, h2, h3, h4.abv, hq.trans h4⟩
    · rintro e w' ⟨X, x, he, h1, h2, h3, _, h4⟩
      exact ⟨X, x, he, h1, h2, h3, h4⟩

theorem clockJoin (A B : Option Addr) (c d : Nat) (a b : List Times) (w : World) (hl : a.length ≤ 140737488355328) (hm : b.length ≤ 140737488355328) (hA : R cTimes 0 w A a) (hB : R cTimes 0 w B b) :
    Calls Try.prog 16 #[.slice A a.length c, .slice B b.length d] w (New2 cTimes (cSetL orB a b) (cSetN orB a b) w) := by
  have hs := clockSet 71 orB (enters_of Try.func71 (by kernel_rfl) rfl) (fun A B c d a b w h1 h2 h3 h4 => spanJoin A B c d a b w h1 h2 h3 h4) A B c d a b w hl hm hA hB
  generalize cSetL orB a b = L at *
  generalize cSetN orB a b = N at *
  replace hs := hide hs
  go_enter Try.func16, Try.ntmps16
  go_wp2_with fail
  refine hs.out.mono ?_
  rintro e w1 ⟨A1, c1, rfl, h1, h2, h3, h4⟩
  go_wp2
  go_ret2
  exact ⟨A1, c1, rfl, h1, h2, h3, h4⟩

theorem clockLess (A B : Option Addr) (c d : Nat) (a b : List Times) (w : World) (hl : a.length ≤ 140737488355328) (hm : b.length ≤ 140737488355328) (hA : R cTimes 0 w A a) (hB : R cTimes 0 w B b) :
    Calls Try.prog 17 #[.slice A a.length c, .slice B b.length d] w (New2 cTimes (cSetL lessB a b) (cSetN lessB a b) w) := by
  have hs := clockSet 72 lessB (enters_of Try.func72 (by kernel_rfl) rfl) (fun A B c d a b w h1 h2 h3 h4 => spanLess A B c d a b w h1 h2 h3 h4) A B c d a b w hl hm hA hB
  generalize cSetL lessB a b = L at *
  generalize cSetN lessB a b = N at *
  replace hs := hide hs
  go_enter Try.func17, Try.ntmps17
  go_wp2_with fail
  refine hs.out.mono ?_
  rintro e w1 ⟨A1, c1, rfl, h1, h2, h3, h4⟩
  go_wp2
  go_ret2
  exact ⟨A1, c1, rfl, h1, h2, h3, h4⟩

/-- The clock of a stamp. -/
def oneT (x : Id) : List Times := [⟨x.r, [⟨x.t, x.t⟩]⟩]

theorem R.new1 {α : Type} {C : Codec α} {lo : Nat} {w : World} {x : α} {cs : List Value} {t : TypeId} (h : C.rd w (Fresh lo w) x cs) (hlo : lo ≤ w.heap.size) :
    R C lo (w.alloc (.cells cs.toArray t)) (some ⟨w.heap.size, 0, none⟩) [x] := by
  refine ⟨cs, RdL.one1 (C.keep (fun b hb => Below.heap_alloc w _ b hb.2) (fun b hb => ⟨hb.1, by have := hb.2; rw [World.size_alloc]; omega⟩) h), fun _ => ⟨w.heap.size, 0, rfl, ⟨hlo, by rw [World.size_alloc]; omega⟩, fun j u hu => ⟨?_, ?_⟩⟩⟩
  · rw [Nat.zero_add, cell_of_row _ w.heap.size j cs.toArray t (0, 0) (heap_alloc_new w _)]
    simpa using hu
  · rw [Nat.zero_add]
    exact frozen_new w _ t j

theorem R.oneT {w : World} {lo : Nat} (x : Id) (hx : x.ok) (hlo : lo ≤ w.heap.size) (t s : TypeId) :
    R cTimes lo ((w.alloc (.cells #[.int .u32 x.t, .int .u32 x.t] s)).alloc (.cells #[.int .u8 x.r, .slice (some ⟨w.heap.size, 0, none⟩) 1 1] t)) (some ⟨w.heap.size + 1, 0, none⟩) (oneT x) := by
  obtain ⟨h1, h2, h3, h4⟩ := hx
  have hs : R cSpan lo (w.alloc (.cells #[.int .u32 x.t, .int .u32 x.t] s)) (some ⟨w.heap.size, 0, none⟩) [⟨x.t, x.t⟩] := R.new1 (C := cSpan) (cs := [.int .u32 x.t, .int .u32 x.t]) ⟨⟨h1, h2, h1, h2⟩, rfl⟩ hlo
  have h := R.new1 (C := cTimes) (t := t) (x := ⟨x.r, [⟨x.t, x.t⟩]⟩) (cs := [.int .u8 x.r, .slice (some ⟨w.heap.size, 0, none⟩) 1 1]) ⟨⟨h3, h4⟩, _, 1, Nat.le_refl _, by decide, rfl, hs⟩ (by rw [World.size_alloc]; omega)
  rw [World.size_alloc] at h
  exact h

set_option maxRecDepth 100000 in
theorem clockOne (x : Id) (w : World) (hx : x.ok) :
    Calls Try.prog 123 #[.agg #[.int .u32 x.t, .int .u8 x.r]] w fun e w' => ∃ A c, e = .returned (.slice A (oneT x).length c) ∧ (oneT x).length ≤ c ∧ c ≤ maxLen ∧ R cTimes w.heap.size w' A (oneT x) ∧ Bl w w' := by
  have h := R.oneT (w := w.alloc (.cells #[.int .u32 x.t, .int .u8 x.r] 36)) (lo := w.heap.size) x hx (by rw [World.size_alloc]; omega) 96 93
  rw [World.size_alloc w] at h
  replace h := hide h
  have hb : Bl w (((w.alloc (.cells #[.int .u32 x.t, .int .u8 x.r] 36)).alloc (.cells #[.int .u32 x.t, .int .u32 x.t] 93)).alloc (.cells #[.int .u8 x.r, .slice (some ⟨w.heap.size + 1, 0, none⟩) 1 1] 96)) := (((Bl.refl w).alloc _).alloc _).alloc _
  go_enter Try.func123, Try.ntmps123
  go_wp2
  go_ret
  exact ⟨_, 1, rfl, Nat.le_refl _, by decide, h.out, hb⟩

set_option maxRecDepth 100000 in
theorem clockAdd (A : Option Addr) (c : Nat) (a : List Times) (x : Id) (w : World) (hl : a.length ≤ 140737488355328) (hx : x.ok) (hA : R cTimes 0 w A a) :
    Calls Try.prog 67 #[.slice A a.length c, .agg #[.int .u32 x.t, .int .u8 x.r]] w (New2 cTimes (cSetL orB a (oneT x)) (cSetN orB a (oneT x)) w) := by
  have h1 := hide fun V => clockOne x V hx
  have h2 := fun B d V (hb : Bl w V) (hB : R cTimes 0 V B (oneT x)) => clockJoin A B c d a (oneT x) V hl (by simp [oneT]) (hA.bl hb) hB
  generalize oneT x = O at *
  generalize cSetL orB a O = L at *
  generalize cSetN orB a O = N at *
  replace h2 := hide h2
  go_enter Try.func67, Try.ntmps67
  go_wp2_with fail
  refine (h1.out _).mono ?_
  rintro e w1 ⟨B, d, rfl, p1, p2, hB, hb1⟩
  have hb01 := ((Bl.refl w).alloc _).trans hb1
  go_wp2_with fail
  refine (h2.out B d _ hb01 hB.zero).mono ?_
  rintro e w2 ⟨A1, c1, rfl, h1, h2, h3, h4⟩
  go_wp2
  go_ret2
  exact ⟨A1, c1, rfl, h1, h2, h3.more hb01.size, hb01.trans h4⟩
end Go.Proofs.Ytkolimhkfiebeaa
