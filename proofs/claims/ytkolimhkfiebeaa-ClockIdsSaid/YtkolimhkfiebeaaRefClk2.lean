/-
  The walks of the references of layer 8: One, told, Join, Less, Add; they answer as the program does.
-/
import Derived.Test.YtkolimhkfiebeaaRefClk
namespace Go.Proofs.Ytkolimhkfiebeaa
open Go.RowKit

/-! ### Plain -/

/-- Two clocks, replica by replica, as the references say. -/
def rcL (f : List Span → List Span → List Span) (a b : List Times) : List Times :=
  if clockMay a && clockMay b then (if eachOk (fun r => f (firstOf a r) (firstOf b r)) 8 then eachL (fun r => f (firstOf a r) (firstOf b r)) 8 else []) else []

def rcN (f : List Span → List Span → List Span) (a b : List Times) : Int :=
  if clockMay a && clockMay b then okOr 4 (eachOk (fun r => f (firstOf a r) (firstOf b r)) 8) else 8

theorem each_told {Ls Fs : Nat → List Span} {Ns : Nat → Int} (h : ∀ r, Ls r = toldL (Fs r) ∧ Ns r = toldN (Fs r)) : ∀ k, (eachOk Fs k = true ∧ eachN Ns k = 0 ∧ eachL Ls k = eachL Fs k) ∨ (eachOk Fs k = false ∧ eachN Ns k = 4)
  | 0 => .inl ⟨rfl, rfl, rfl⟩
  | k + 1 => by
    obtain ⟨h1, h2⟩ := h k
    unfold eachOk eachN eachL
    rcases each_told h k with ⟨e1, e2, e3⟩ | ⟨e1, e2⟩
    · rw [e1, e2, e3, h1, h2]
      unfold toldL toldN
      by_cases hl : 1024 < (Fs k).length
      · right
        simp [hl]
      · left
        simp [hl]
        omega
    · right
      rw [e1, e2]
      simp

theorem cset_eq (want : Bool → Bool → Bool) (f : List Span → List Span → List Span) (hf : ∀ x y, spansMay x = true → spansMay y = true → setL want x y = toldL (f x y) ∧ setN want x y = toldN (f x y)) (a b : List Times) : cSetL want a b = rcL f a b ∧ cSetN want a b = rcN f a b := by
  unfold cSetL cSetN rcL rcN outL
  cases h : clockMay a && clockMay b
  · exact ⟨rfl, rfl⟩
  · rw [Bool.and_eq_true] at h
    have hh : ∀ r : Nat, setL want (tabOf a r) (tabOf b r) = toldL (f (firstOf a r) (firstOf b r)) ∧ setN want (tabOf a r) (tabOf b r) = toldN (f (firstOf a r) (firstOf b r)) := fun r => by
      rw [tab_first h.1, tab_first h.2]
      exact hf _ _ (first_may h.1 r) (first_may h.2 r)
    rcases each_told hh 8 with ⟨e1, e2, e3⟩ | ⟨e1, e2⟩
    · rw [e1, e2, e3]; exact ⟨rfl, rfl⟩
    · rw [e1, e2]; exact ⟨rfl, rfl⟩

theorem cjoin_eq (a b : List Times) : cSetL orB a b = rcL bothF a b ∧ cSetN orB a b = rcN bothF a b :=
  cset_eq orB bothF (fun x y hx hy => by
    have h := join_eq x y
    rw [h.1, h.2]
    unfold rJoinL rJoinN
    rw [hx, hy]
    exact ⟨rfl, rfl⟩) a b

theorem cless_eq (a b : List Times) : cSetL lessB a b = rcL leftF a b ∧ cSetN lessB a b = rcN leftF a b :=
  cset_eq lessB leftF (fun x y hx hy => by
    have h := less_eq7 x y
    rw [h.1, h.2]
    unfold rLessL7 rLessN7
    rw [hx, hy]
    exact ⟨rfl, rfl⟩) a b

theorem one_may {x : Id} (hx : x.ok) : clockMay (oneT x) = idMay x := by
  unfold clockMay oneT clockFrom clockFrom idMay
  rw [may_one]
  unfold okX
  have := hx.2.2.1
  simp
  by_cases h1 : 1 ≤ x.t <;> by_cases h2 : x.t ≤ 1073741824 <;> by_cases h3 : x.r < 8 <;> simp [h1, h2, h3] <;> omega

/-! ### Walks -/

set_option maxRecDepth 100000 in
theorem refOne08 (x : Id) (w : World) (hx : x.ok) :
    Calls Try.prog 148 #[.agg #[.int .u32 x.t, .int .u8 x.r]] w fun e w' => ∃ A c, e = .returned (.slice A (oneT x).length c) ∧ (oneT x).length ≤ c ∧ c ≤ maxLen ∧ R cTimes w.heap.size w' A (oneT x) ∧ Bl w w' := by
  have h := R.oneT (w := w.alloc (.cells #[.int .u32 x.t, .int .u8 x.r] 36)) (lo := w.heap.size) x hx (by rw [World.size_alloc]; omega) 96 93
  rw [World.size_alloc w] at h
  replace h := hide h
  have hb : Bl w (((w.alloc (.cells #[.int .u32 x.t, .int .u8 x.r] 36)).alloc (.cells #[.int .u32 x.t, .int .u32 x.t] 93)).alloc (.cells #[.int .u8 x.r, .slice (some ⟨w.heap.size + 1, 0, none⟩) 1 1] 96)) := (((Bl.refl w).alloc _).alloc _).alloc _
  go_enter Try.func148, Try.ntmps148
  go_wp2
  go_ret
  exact ⟨_, 1, rfl, Nat.le_refl _, by decide, h.out, hb⟩

/-- What is behind the check: told of what was made. -/
def RcP (f : List Span → List Span → List Span) (a b : List Times) (w : World) (e : Ending) (w' : World) : Prop := New2 cTimes (rcL f a b) (rcN f a b) w e w'

theorem rc_bad {f : List Span → List Span → List Span} {a b : List Times} (h : (clockMay a && clockMay b) = false) : rcL f a b = [] ∧ rcN f a b = 8 := by
  unfold rcL rcN
  rw [h]
  exact ⟨rfl, rfl⟩

theorem rc_good {f : List Span → List Span → List Span} {a b : List Times} (h : (clockMay a && clockMay b) = true) : rcL f a b = (if eachOk (fun r => f (firstOf a r) (firstOf b r)) 8 then eachL (fun r => f (firstOf a r) (firstOf b r)) 8 else []) ∧ rcN f a b = okOr 4 (eachOk (fun r => f (firstOf a r) (firstOf b r)) 8) := by
  unfold rcL rcN
  rw [h]
  exact ⟨rfl, rfl⟩

end Go.Proofs.Ytkolimhkfiebeaa
