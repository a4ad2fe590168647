/-
  Slices of uint32: how they read; slices.Sort and slices.Compact on them.
-/
import Derived.Test.YtkolimhkfiebeaaBase
import Derived.Test.YtkolimhkfiebeaaSortC
namespace Go.Proofs.Ytkolimhkfiebeaa
open Go.RowKit

def u32ok (x : Int) : Prop := 0 ≤ x ∧ x < 4294967296

def cU32 : Codec Int where
  size := 1
  pos := by omega
  rd _ _ x cs := u32ok x ∧ cs = [.int .u32 x]
  len h := by rw [h.2]; rfl
  keep _ _ h := h
  one h := by rw [h.2]; intro u hu; simp at hu; subst hu; rfl

theorem Try.infoU32 : (Try.prog.info? 31).map (fun i => (i.zero, i.size, i.bytes)) = some (some (.int .u32 0), 1, 4) := by kernel_rfl

theorem R.u32 {w : World} {lo b off k : Nat} {l : List Int} {x : Int} (h : R cU32 lo w (some ⟨b, off, none⟩) l) (hk : l[k]? = some x) :
    (lo ≤ b ∧ b < w.heap.size) ∧ u32ok x ∧ w.cell? ⟨b, off + k, none⟩ = some (.int .u32 x) ∧ w.frozen? ⟨b, off + k, none⟩ = false := by
  obtain ⟨h1, m, ⟨ho, rfl⟩, ha⟩ := R.get h hk
  have := ha 0 _ rfl
  simp [cU32] at this
  exact ⟨h1, ho, this⟩

theorem rdl_u32 {w : World} {S : Nat → Prop} : ∀ (l : List Int), (∀ x ∈ l, u32ok x) → RdL cU32 w S l (l.map (Value.int .u32))
  | [], _ => rfl
  | x :: l, h => ⟨[.int .u32 x], _, rfl, ⟨h x (List.mem_cons_self ..), rfl⟩, rdl_u32 l fun y hy => h y (List.mem_cons_of_mem _ hy)⟩

theorem rdl_u32_inv {w : World} {S : Nat → Prop} : ∀ {l : List Int} {cells : List Value}, RdL cU32 w S l cells → cells = l.map (Value.int .u32) ∧ ∀ x ∈ l, u32ok x
  | [], _, h => ⟨h, fun x hx => by cases hx⟩
  | x :: l, cells, h => by
    obtain ⟨a, b, rfl, ⟨ha, rfl⟩, hb⟩ := h
    obtain ⟨rfl, h2⟩ := rdl_u32_inv hb
    exact ⟨rfl, fun y hy => (List.mem_cons.1 hy).elim (fun e => by subst e; exact ha) (h2 y)⟩

theorem R.oksU {w : World} {lo : Nat} {A : Option Addr} {l : List Int} (h : R cU32 lo w A l) : ∀ x ∈ l, u32ok x := by
  obtain ⟨cells, hr, _⟩ := h
  exact (rdl_u32_inv hr).2

theorem R.holdsU {w : World} {lo b off : Nat} {l : List Int} (h : R cU32 lo w (some ⟨b, off, none⟩) l) : Sort.Holds (Value.int .u32) w b off l.toArray := fun j hj => by
  have hj' : j < l.length := by simpa using hj
  obtain ⟨_, _, h1, h2⟩ := R.u32 h (List.getElem?_eq_getElem hj')
  refine ⟨?_, h2⟩
  rw [h1]
  simp [hj']

theorem R.ofU {w : World} {lo b off : Nat} {l : List Int} (hb : lo ≤ b ∧ b < w.heap.size) (hk : ∀ x ∈ l, u32ok x) (h : ∀ (j : Nat) x, l[j]? = some x → w.cell? ⟨b, off + j, none⟩ = some (.int .u32 x) ∧ w.frozen? ⟨b, off + j, none⟩ = false) : R cU32 lo w (some ⟨b, off, none⟩) l :=
  ⟨_, rdl_u32 l hk, fun _ => ⟨b, off, rfl, hb, fun j u hu => by
    rw [List.getElem?_map] at hu
    cases hx : l[j]? with
    | none => rw [hx] at hu; cases hu
    | some x =>
      rw [hx] at hu
      cases hu
      exact h j x hx⟩⟩

theorem Below.putRow {α : Type} [Inhabited α] {enc : α → Value} {w : World} {base blk off n : Nat} {d : Array α} {os : Array Obj} (hb : base ≤ blk) (hw : base ≤ w.heap.size) :
    Below base w (Sort.grow (Sort.putRow enc (Sort.ahead w n) blk off d) os) := by
  refine ⟨rfl, rfl, rfl, by simp, fun k hk => ?_⟩
  rw [Sort.heap_grow_old _ _ (by simp; omega)]
  show (w.heap.modify blk _)[k]? = _
  rw [Array.getElem?_modify, if_neg (by omega)]

/-! ### slices.Sort -/
def srt (l : List Int) : List Int := l.mergeSort fun x y => decide (x ≤ y)

theorem srt_len (l : List Int) : (srt l).length = l.length := by unfold srt; exact List.length_mergeSort l

theorem srt_mem {l : List Int} {x : Int} : x ∈ srt l ↔ x ∈ l := by unfold srt; exact List.mem_mergeSort

theorem srt_sorted (l : List Int) : (srt l).Pairwise (· ≤ ·) := by
  have := List.pairwise_mergeSort (le := fun x y : Int => decide (x ≤ y)) (by intro a b c h1 h2; simp at *; omega) (by intro a b; simp; omega) l
  exact this.imp fun h => by simpa using h

theorem sortU (base : Nat) (A : Option Addr) (c : Nat) (l : List Int) (w : World) (hw : base ≤ w.heap.size) (hl : l.length ≤ 1099511627776) (hA : R cU32 base w A l) :
    Calls Try.prog 93 #[.slice A l.length c] w fun e w' => e = .returned (.tuple #[]) ∧ R cU32 base w' A (srt l) ∧ Below base w w' := by
  by_cases h0 : l = []
  · subst h0
    refine (Sort_u32_nil A c w).mono ?_
    rintro e w' ⟨rfl, rfl⟩
    exact ⟨rfl, by rw [show srt [] = [] by unfold srt; simp]; exact R.nil, Below.refl _ _⟩
  · obtain ⟨b, off, rfl, hb1, hb2⟩ := hA.addr (List.length_pos_iff.2 h0)
    have hok := hA.oksU
    refine (slices_Sort_u32 b off c l w hA.holdsU hb2 (by omega)).mono ?_
    rintro e w' ⟨rfl, n, os, rfl⟩
    refine ⟨rfl, ?_, Below.putRow hb1 hw⟩
    have hsz : (srt l).toArray.size = l.toArray.size := by simp [srt_len]
    have hH := Sort.holds_grow (Value.int .u32) (Sort.putRow (Value.int .u32) (Sort.ahead w n) b off (srt l).toArray) os b off (srt l).toArray (by simp; exact hb2) (Sort.holds_putRow _ _ b off l.toArray _ (Sort.holds_ahead _ _ n _ _ _ hA.holdsU) hsz)
    refine R.ofU ⟨hb1, by simp; omega⟩ (fun x hx => hok x (srt_mem.1 hx)) fun j x hx => ?_
    have hj : j < (srt l).length := (List.getElem?_eq_some_iff.1 hx).1
    have := hH j (by simpa using hj)
    rw [show (srt l).toArray[j]! = x by simp [hj]; exact (List.getElem?_eq_some_iff.1 hx).2] at this
    exact this

/-! ### slices.Compact -/
def cmp (l : List Int) : List Int := Lib.compactUpTo l.toArray l.toArray.size

theorem cmp_le (l : List Int) : (cmp l).length ≤ l.length := by
  unfold cmp Lib.compactUpTo
  rw [List.length_map]
  refine Nat.le_trans (List.length_filter_le _ _) ?_
  simp

theorem cmp_mem1 {l : List Int} {x : Int} (h : x ∈ cmp l) : x ∈ l := by
  unfold cmp Lib.compactUpTo at h
  obtain ⟨j, hj, rfl⟩ := List.mem_map.1 h
  have hj' : j < l.length := by simpa using List.mem_range.1 (List.mem_filter.1 hj).1
  simp [hj']

theorem compactUpTo_pw {d : Array Int} (hs : ∀ i j, i < j → j < d.size → d[i]! ≤ d[j]!) : ∀ m, m ≤ d.size → (Lib.compactUpTo d m).Pairwise (· < ·) ∧ (∀ x ∈ Lib.compactUpTo d m, ∃ i, i < m ∧ d[i]! = x) ∧ (∀ i, i < m → d[i]! ∈ Lib.compactUpTo d m)
  | 0, _ => ⟨by simp [Lib.compactUpTo], by simp [Lib.compactUpTo], fun i hi => absurd hi (Nat.not_lt_zero _)⟩
  | m + 1, h => by
    obtain ⟨h1, h2, h3⟩ := compactUpTo_pw hs m (by omega)
    rw [Lib.compactUpTo_succ]
    by_cases hk : Lib.keeps d m = true
    · rw [if_pos hk]
      refine ⟨List.pairwise_append.2 ⟨h1, by simp, fun x hx y hy => ?_⟩, fun x hx => ?_, fun i hi => ?_⟩
      · rw [List.mem_singleton] at hy
        subst hy
        obtain ⟨i, hi, rfl⟩ := h2 x hx
        have hk' : m = 0 ∨ d[m]! ≠ d[m - 1]! := by unfold Lib.keeps at hk; exact of_decide_eq_true hk
        have hne : d[m]! ≠ d[m - 1]! := hk'.resolve_left (by omega)
        have a1 := hs (m - 1) m (by omega) (by omega)
        have a2 : d[i]! ≤ d[m - 1]! := by
          by_cases e : i = m - 1
          · rw [e]; exact Int.le_refl _
          · exact hs i (m - 1) (by omega) (by omega)
        omega
      · rcases List.mem_append.1 hx with hx | hx
        · obtain ⟨i, hi, e⟩ := h2 x hx; exact ⟨i, by omega, e⟩
        · rw [List.mem_singleton] at hx; exact ⟨m, by omega, hx.symm⟩
      · by_cases e : i = m
        · subst e; simp
        · exact List.mem_append_left _ (h3 i (by omega))
    · rw [if_neg hk, List.append_nil]
      refine ⟨h1, fun x hx => ?_, fun i hi => ?_⟩
      · obtain ⟨i, hi, e⟩ := h2 x hx; exact ⟨i, by omega, e⟩
      · by_cases e : i = m
        · subst e
          have hk' : ¬ (i = 0 ∨ d[i]! ≠ d[i - 1]!) := by unfold Lib.keeps at hk; simpa using hk
          have he : d[i]! = d[i - 1]! := by
            by_cases h : d[i]! = d[i - 1]!
            · exact h
            · exact absurd (Or.inr h) hk'
          rw [he]
          exact h3 (i - 1) (by
            have : i ≠ 0 := fun e => hk' (Or.inl e)
            omega)
        · exact h3 i (by omega)

/-- What compacting a sorted list gives. -/
theorem cmp_srt (l : List Int) : (cmp (srt l)).Pairwise (· < ·) ∧ ∀ x, x ∈ cmp (srt l) ↔ x ∈ l := by
  obtain ⟨h1, h2, h3⟩ := compactUpTo_pw (d := (srt l).toArray) (fun i j hij hj => by
    have hj' : j < (srt l).length := by simpa using hj
    have hi' : i < (srt l).length := by omega
    have := List.pairwise_iff_getElem.1 (srt_sorted l) i j hi' hj' hij
    simpa [hi', hj'] using this) (srt l).toArray.size (Nat.le_refl _)
  refine ⟨h1, fun x => ⟨fun hx => srt_mem.1 (cmp_mem1 hx), fun hx => ?_⟩⟩
  obtain ⟨j, hj⟩ := List.getElem?_of_mem (srt_mem.2 hx)
  have hjl : j < (srt l).length := (List.getElem?_eq_some_iff.1 hj).1
  have := h3 j (by simpa using hjl)
  rw [show (srt l).toArray[j]! = x by simp [hjl]; exact (List.getElem?_eq_some_iff.1 hj).2] at this
  exact this

theorem cmpU (base : Nat) (A : Option Addr) (c : Nat) (l : List Int) (w : World) (hw : base ≤ w.heap.size) (hl : l.length ≤ 1099511627776) (hc : l.length ≤ c) (hA : R cU32 base w A l) (h0 : l ≠ []) :
    Calls Try.prog 94 #[.slice A l.length c] w fun e w' => e = .returned (.slice A (cmp l).length c) ∧ R cU32 base w' A (cmp l) ∧ Below base w w' := by
  obtain ⟨b, off, rfl, hb1, hb2⟩ := hA.addr (List.length_pos_iff.2 h0)
  have hok := hA.oksU
  have h := compactU b off c l.toArray w hA.holdsU (by simp; omega) (by simpa using hc)
  rw [show l.toArray.size = l.length by simp] at h
  refine h.mono ?_
  rintro e w' ⟨rfl, q, rfl⟩
  have hcl := cmp_le l
  have hcm : cmp l = Lib.compactUpTo l.toArray l.length := by unfold cmp; simp
  rw [← hcm]
  have hB := Below.putRow (enc := Value.int .u32) (w := w) (off := off) (n := q) (d := (cmp l ++ List.replicate (l.length - (cmp l).length) 0).toArray) (os := #[]) hb1 hw
  rw [Sort.grow_empty] at hB
  refine ⟨rfl, ?_, hB⟩
  have hH := Sort.holds_putRow (Value.int .u32) (Sort.ahead w q) b off l.toArray (cmp l ++ List.replicate (l.length - (cmp l).length) 0).toArray (Sort.holds_ahead _ _ q _ _ _ hA.holdsU) (by simp; omega)
  refine R.ofU ⟨hb1, by simp; omega⟩ (fun x hx => hok x (cmp_mem1 hx)) fun j x hx => ?_
  have hj : j < (cmp l).length := (List.getElem?_eq_some_iff.1 hx).1
  have := hH j (by simp; omega)
  have hxe : (cmp l ++ List.replicate (l.length - (cmp l).length) 0).toArray[j]! = x := by
    rw [getElem!_pos _ _ (by simp; omega)]
    simp only [List.getElem_toArray]
    rw [List.getElem_append_left hj]
    exact (List.getElem?_eq_some_iff.1 hx).2
  rw [hxe] at this
  exact this

/-- .. of no element. -/
theorem cmpU_nil (A : Option Addr) (c : Nat) (w : World) :
    Calls Try.prog 94 #[.slice A 0 c] w fun e w' => e = .returned (.slice A 0 c) ∧ w' = w := by
  go_enter Try.func94, Try.ntmps94
  go_wp2
  go_ret
  exact ⟨rfl, rfl⟩
end Go.Proofs.Ytkolimhkfiebeaa
