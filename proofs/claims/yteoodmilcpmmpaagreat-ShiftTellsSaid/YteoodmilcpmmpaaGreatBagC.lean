/-
  Plain laws of bags: what is put is there, and all that was there, in the order of the stamps; the order in which things come counts for nothing. No program in sight.
  The walks of law 11's own functions: one, put, unlike.
  The walk of the reference Great of layer 10.
  The walk of law 11's alive.
-/
import Derived.Test.YteoodmilcpmmpaaGreatBagB
import Derived.Test.YteoodmilcpmmpaaGreatOp3B
namespace Go.Proofs.YteoodmilcpmmpaaGreat

open Go.RowKit

theorem Srt.ext : ∀ {a b : List Op}, Srt a → Srt b → (∀ x, x ∈ a ↔ x ∈ b) → a = b
  | [], [], _, _, _ => rfl
  | [], y :: b, _, _, h => by have := (h y).2 (by simp); simp at this
  | x :: a, [], _, _, h => by have := (h x).1 (by simp); simp at this
  | x :: a, y :: b, ha, hb, h => by
    have hxa := List.pairwise_cons.1 ha
    have hyb := List.pairwise_cons.1 hb
    have hxy : x = y := by
      rcases List.mem_cons.1 ((h x).1 (by simp)) with e | e
      · exact e
      rcases List.mem_cons.1 ((h y).2 (by simp)) with e' | e'
      · exact e'.symm
      have h1 := hyb.1 x e
      have h2 := hxa.1 y e'
      rw [idLess_as h1] at h2
      cases h2
    subst hxy
    rw [Srt.ext hxa.2 hyb.2 fun z => ?_]
    have hz := h z
    simp only [List.mem_cons] at hz
    constructor
    · intro hza
      rcases hz.1 (.inr hza) with e | e
      · subst e
        have := hxa.1 z hza
        rw [idLess_irr] at this
        cases this
      · exact e
    · intro hzb
      rcases hz.2 (.inr hzb) with e | e
      · subst e
        have := hyb.1 z hzb
        rw [idLess_irr] at this
        cases this
      · exact e

theorem opMay_less {x : Op} (h : opMay x = true) : idLess ⟨0, 0⟩ x.id = true := by
  unfold opMay at h
  simp only [Bool.and_eq_true] at h
  have := h.1.1.2
  unfold idMay at this
  unfold idLess
  simp at this ⊢
  omega

theorem bagFrom_of : ∀ (l : List Op) (last : Id), Srt l → (∀ x ∈ l, opMay x = true ∧ idLess last x.id = true) → bagFrom last l = true
  | [], _, _, _ => rfl
  | x :: l, last, hs, h => by
    have hx := List.pairwise_cons.1 hs
    rw [bagFrom, (h x (by simp)).1, (h x (by simp)).2, bagFrom_of l x.id hx.2 fun y hy => ⟨(h y (by simp [hy])).1, hx.1 y hy⟩]
    rfl

theorem bagMay_of {l : List Op} (hl : l.length ≤ 1024) (hs : Srt l) (h : ∀ x ∈ l, opMay x = true) : bagMay l = true := by
  unfold bagMay
  rw [decide_eq_true hl, bagFrom_of l ⟨0, 0⟩ hs fun x hx => ⟨h x hx, opMay_less (h x hx)⟩]
  rfl

theorem take_less {l : List Op} {s : Id} : ∀ x ∈ l.take (posOf l s), idLess x.id s = true := by
  intro x hx
  have h : l.take (posOf l s) = l.takeWhile fun o => idLess o.id s := by
    unfold posOf
    conv => lhs; arg 2; rw [← List.takeWhile_append_dropWhile (p := fun o : Op => idLess o.id s) (l := l)]
    rw [List.take_left']
    rfl
  rw [h] at hx
  have := List.all_takeWhile (l := l) (p := fun o : Op => idLess o.id s)
  rw [List.all_eq_true] at this
  exact this x hx

theorem drop_not {l : List Op} {s : Id} (hs : Srt l) : ∀ x ∈ l.drop (posOf l s), idLess x.id s = false := by
  have h : l.drop (posOf l s) = l.dropWhile fun o => idLess o.id s := by
    unfold posOf
    conv => lhs; arg 2; rw [← List.takeWhile_append_dropWhile (p := fun o : Op => idLess o.id s) (l := l)]
    rw [List.drop_left']
    rfl
  rw [h]
  intro x hx
  have hsd : Srt (l.dropWhile fun o => idLess o.id s) := List.Pairwise.sublist (List.dropWhile_sublist _) hs
  cases hd : l.dropWhile fun o => idLess o.id s with
  | nil => rw [hd] at hx; cases hx
  | cons y r =>
    have hy : idLess y.id s = false := by
      have := List.head?_dropWhile_not (p := fun o : Op => idLess o.id s) (l := l)
      rw [hd] at this
      simpa using this
    rw [hd] at hx hsd
    rcases List.mem_cons.1 hx with rfl | hx
    · exact hy
    · have h1 := (List.pairwise_cons.1 hsd).1 x hx
      cases h2 : idLess x.id s
      · rfl
      · rw [idLess_tr h1 h2] at hy; cases hy

theorem hasId_false {l : List Op} {s : Id} (h : hasId l s = false) : ∀ x ∈ l, x.id ≠ s := by
  intro x hx e
  unfold hasId at h
  rw [List.any_eq_false] at h
  exact h x hx (by simpa using e)

theorem hasId_true {l : List Op} {s : Id} (h : hasId l s = true) : ∃ x ∈ l, x.id = s := by
  unfold hasId at h
  rw [List.any_eq_true] at h
  obtain ⟨x, hx, e⟩ := h
  exact ⟨x, hx, by simpa using e⟩

theorem ins_srt {l : List Op} {o : Op} (hs : Srt l) (h : hasId l o.id = false) : Srt (l.take (posOf l o.id) ++ o :: l.drop (posOf l o.id)) := by
  have hxs : l.take (posOf l o.id) ++ l.drop (posOf l o.id) = l := List.take_append_drop _ _
  have hs' := hs
  rw [← hxs] at hs'
  obtain ⟨h1, h2, h3⟩ := List.pairwise_append.1 hs'
  have hgt : ∀ x ∈ l.drop (posOf l o.id), idLess o.id x.id = true := fun x hx => by
    have h4 := drop_not hs x hx
    cases h5 : idLess o.id x.id
    · exact absurd (idLess_tot h4 h5) (hasId_false h x (List.mem_of_mem_drop hx))
    · rfl
  refine List.pairwise_append.2 ⟨h1, List.pairwise_cons.2 ⟨hgt, h2⟩, fun x hx y hy => ?_⟩
  rcases List.mem_cons.1 hy with rfl | hy
  · exact take_less x hx
  · exact h3 x hx y hy

theorem ins_mem {l : List Op} {o x : Op} (n : Nat) : x ∈ l.take n ++ o :: l.drop n ↔ x = o ∨ x ∈ l := by
  conv => rhs; rw [← List.take_append_drop n l]
  simp only [List.mem_append, List.mem_cons]
  constructor
  · rintro (h | h | h) <;> simp [h]
  · rintro (h | h | h) <;> simp [h]

theorem addN_parts {l : List Op} {o : Op} (h : addN l o = 0) : bagMay l = true ∧ opMay o = true := by
  unfold addN at h
  split at h
  · rename_i h1; simpa using h1
  · cases h

end Go.Proofs.YteoodmilcpmmpaaGreat

namespace Go.Proofs.YteoodmilcpmmpaaGreat

open Go.RowKit

end Go.Proofs.YteoodmilcpmmpaaGreat

namespace Go.Proofs.YteoodmilcpmmpaaGreat

open Go.RowKit

/-- What statements go through. -/
def fewO (l : List Op) (many : Int) : Prop := (l.length : Int) ≤ many ∧ ∀ x ∈ l.take 300, x.pl.length ≤ 100

def GreatPost10 (l : List Op) (many : Int) (w : World) (e : Ending) (w' : World) : Prop := ∃ b, e = .returned (.bool b) ∧ (b = false → fewO l many) ∧ Bl w w'

set_option maxRecDepth 100000 in
set_option maxHeartbeats 2000000 in
theorem refGreat10 (A : Option Addr) (c : Nat) (l : List Op) (many : Int) (w : World) (hl : l.length ≤ 140737488355328) (hA : R cOp 0 w A l) :
    Calls Tryz.prog 9 #[.slice A l.length c, .int .i64 many] w (GreatPost10 l many w) := by
  go_enter Tryz.func9, Tryz.ntmps9
  go_wp2
  go_loopw [5, 6] (fun s5 s6 wr => Bl w wr ∧ ∃ (k : Nat) (n : Int), k ≤ l.length ∧ k ≤ 300 ∧ s6 = .int .i64 k ∧ s5 = .int .i64 n ∧ 0 ≤ n ∧ n ≤ 50100 * k ∧ Hid (∀ x ∈ l.take k, x.pl.length ≤ 100)) (fun _ s6 _ => l.length - (intOf s6).toNat)
  case atStart => exact ⟨Bl.refl _, 0, 0, Nat.zero_le _, Nat.zero_le _, rfl, rfl, by omega, by omega, fun x hx => by simp at hx⟩
  case round =>
    obtain ⟨hbl, k, n, hk, hk3, rfl, rfl, hn0, hn1, hf⟩ := hrel
    by_cases hlt : k < l.length
    · have hki : (k : Int) < (l.length : Int) := by omega
      have hki2 : decide ((k : Int) < (l.length : Int)) = true := by simpa using hki
      by_cases h3 : k < 300
      · have hk3i : (k : Int) < 300 := by omega
        obtain ⟨b, off, rfl, _, hb⟩ := hA.addr (by omega)
        obtain ⟨x, hx⟩ := get_lt hlt
        obtain ⟨_, ho, S, sc, s1, s2, hS, c0, c1, c2, c3, c4⟩ := (hA.bl hbl).op hx
        by_cases hbig : 100 < x.pl.length
        · have hbi : (100 : Int) < (x.pl.length : Int) := by omega
          clear hf hx
          go_wp2
          go_ret
          exact ⟨true, rfl, (fun h => by cases h), hbl⟩
        · have hbi : ¬ (100 : Int) < (x.pl.length : Int) := by omega
          have hp100 : x.pl.length ≤ 100 := by omega
          have g := hide (show ∀ y ∈ l.take (k + 1), y.pl.length ≤ 100 from fun y hy => by
            rw [take_snoc hx, List.mem_append] at hy
            rcases hy with hy | hy
            · exact hf.out y hy
            · rw [List.mem_singleton] at hy; subst hy; exact hp100)
          have hx' := hide hx
          have hkA : ∀ V, Bl wr V → V.cell? ⟨b, off + k * 5 + 3, none⟩ = some (.slice S x.pl.length sc) ∧ b < V.heap.size := fun V hV => ⟨(hV.cell (Nat.lt_of_lt_of_le hb hbl.size)).trans c3, Nat.lt_of_lt_of_le hb (hbl.trans hV).size⟩
          replace hkA := hide hkA
          clear hx hf hbig
          go_wp2
          go_loopw [5, 7] (fun s5 s7 wq => Bl wr wq ∧ ∃ (j : Nat) (n : Int), j ≤ x.pl.length ∧ s7 = .int .i64 j ∧ s5 = .int .i64 n ∧ 0 ≤ n ∧ n ≤ 50100 * k + 501 * j) (fun _ s7 _ => x.pl.length - (intOf s7).toNat)
          case atStart => exact ⟨Bl.refl _, 0, n, Nat.zero_le _, rfl, rfl, hn0, by omega⟩
          case round =>
            clear hn0 hn1
            obtain ⟨hbq, j, n, hj, rfl, rfl, hn0, hn1⟩ := hrel
            obtain ⟨c3, hbv⟩ := hkA.out _ hbq
            by_cases hjt : j < x.pl.length
            · have hji : (j : Int) < (x.pl.length : Int) := by omega
              obtain ⟨b2, off2, rfl, _, hb2⟩ := hS.addr (by omega)
              obtain ⟨r, hr⟩ := get_lt hjt
              obtain ⟨_, ⟨_, _, _, _, o4, o5⟩, _, _, d2⟩ := (R.bl hS hbq).run hr
              have hv : 0 ≤ min (max r.m 0) 5000 ∧ min (max r.m 0) 5000 ≤ 5000 := by omega
              have hjm : (j : Int) ≤ 100 := by omega
              have hkm : (k : Int) ≤ 300 := by omega
              clear hr
              rcases (show r.m < 0 ∨ (¬ r.m < 0 ∧ ¬ 5000 < r.m) ∨ (¬ r.m < 0 ∧ 5000 < r.m) by omega) with h | ⟨h, h'⟩ | ⟨h, h'⟩
              all_goals
                go_wp2
                go_roundw
                case rel => exact ⟨hbq, j + 1, _, by omega, by go_num, rfl, by omega, by push_cast; omega⟩
                case measure => simp [intOf]; omega
            · have hji : ¬ (j : Int) < (x.pl.length : Int) := by omega
              go_wp2
              go_roundw
              case rel => exact ⟨hbl.trans hbq, k + 1, n, by omega, by omega, by go_num, rfl, hn0, by push_cast; omega, g.out⟩
              case measure => simp [intOf]; omega
      · have hk3i : ¬ (k : Int) < 300 := by omega
        have hk300 : k = 300 := by omega
        have hml : l.length ≤ 9223372036854775807 := by omega
        by_cases hm : many < (l.length : Int)
        · clear hf
          go_wp2
          go_ret
          exact ⟨true, rfl, (fun h => by cases h), hbl⟩
        · have hm' : (l.length : Int) ≤ many := by omega
          have g := hide (show fewO l many from ⟨hm', by rw [← hk300]; exact hf.out⟩)
          clear hf hk300
          by_cases hn3 : 3000 < n
          · go_wp2
            go_ret
            exact ⟨true, rfl, (fun h => by cases h), hbl⟩
          · go_wp2
            go_ret
            exact ⟨false, rfl, (fun _ => g.out), hbl⟩
    · have hki : ¬ (k : Int) < (l.length : Int) := by omega
      have hki2 : decide ((k : Int) < (l.length : Int)) = false := by simpa using hki
      have hkl : l.length ≤ k := by omega
      by_cases hm : many < (l.length : Int)
      · clear hf
        go_wp2
        go_ret
        exact ⟨true, rfl, (fun h => by cases h), hbl⟩
      · have hm' : (l.length : Int) ≤ many := by omega
        have g := hide (show fewO l many from ⟨hm', by
          have := hf.out
          rw [List.take_of_length_le hkl] at this
          exact fun x hx => this x (List.mem_of_mem_take hx)⟩)
        clear hf hkl
        by_cases hn3 : 3000 < n
        · go_wp2
          go_ret
          exact ⟨true, rfl, (fun h => by cases h), hbl⟩
        · go_wp2
          go_ret
          exact ⟨false, rfl, (fun _ => g.out), hbl⟩

end Go.Proofs.YteoodmilcpmmpaaGreat

namespace Go.Proofs.YteoodmilcpmmpaaGreat

open Go.RowKit

end Go.Proofs.YteoodmilcpmmpaaGreat
