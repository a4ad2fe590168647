/-
  slices.Insert of one entry, into a slice of the call's own: what it reads as.
-/
import Derived.Test.YteoodmilcpmmpaaGreatInsert
namespace Go.Proofs.YteoodmilcpmmpaaGreat

open Go.RowKit Go.Shelf Go.Lib

theorem below_setCells {B : Nat} {w : World} {g : Nat} (hg : B ≤ g) : ∀ (vs : List Value) (o : Nat) {w' : World}, Below B w w' → Below B w (w'.setCells g o vs)
  | [], _, _, h => h
  | v :: r, o, _, h => below_setCells hg r (o + 1) (h.setCell (p := ⟨g, o, none⟩) hg v)

theorem keeps_setCells {S : Nat → Prop} {g : Nat} (hg : ∀ b, S b → b ≠ g) : ∀ (vs : List Value) (o : Nat) (w : World), Keeps S w (w.setCells g o vs)
  | [], _, w => Keeps.refl _ _
  | v :: r, o, w => fun b hb => (keeps_setCells hg r (o + 1) (w.setCell ⟨g, o, none⟩ v) b hb).trans (Below.heap_setCell w ⟨g, o, none⟩ v b (by intro e; exact hg b hb e))

theorem Keeps.trans {S : Nat → Prop} {a b c : World} (h : Keeps S a b) (k : Keeps S b c) : Keeps S a c := fun x hx => (k x hx).trans (h x hx)

theorem Keeps.drew (S : Nat → Prop) (w : World) : Keeps S w w.drew := fun _ _ => rfl

theorem drew_heap (w : World) : w.drew.heap = w.heap := rfl

theorem drew_frozen (w : World) (a : Addr) : w.drew.frozen? a = w.frozen? a := rfl

theorem size_setCells (g : Nat) : ∀ (vs : List Value) (o : Nat) (w : World), (w.setCells g o vs).heap.size = w.heap.size
  | [], _, _ => rfl
  | v :: r, o, w => by rw [World.setCells, size_setCells g r, show (w.setCell ⟨g, o, none⟩ v).heap.size = w.heap.size by simp [World.setCell]]

/-- The cells of a row behind the two copies, in either order. -/
theorem ins_cells {W : World} {g p q : Nat} {a vs b : List Value} (ha : a.length = p) (hv : vs.length = q) (hs : ∀ j, j < p + q + b.length → (W.cell? ⟨g, j, none⟩).isSome = true) (hh : ∀ (j : Nat) u, a[j]? = some u → W.cell? ⟨g, j, none⟩ = some u) :
    (∀ (j : Nat) u, (a ++ (vs ++ b))[j]? = some u → ((W.setCells g (p + q) b).setCells g p vs).cell? ⟨g, j, none⟩ = some u) ∧ (∀ (j : Nat) u, (a ++ (vs ++ b))[j]? = some u → ((W.setCells g p vs).setCells g (p + q) b).cell? ⟨g, j, none⟩ = some u) := by
  have hk : ∀ (j : Nat) u, (a ++ (vs ++ b))[j]? = some u → (j < p ∧ a[j]? = some u) ∨ (p ≤ j ∧ j < p + q ∧ vs[j - p]? = some u) ∨ (p + q ≤ j ∧ j < p + q + b.length ∧ b[j - (p + q)]? = some u) := by
    intro j u hu
    by_cases h1 : j < p
    · rw [List.getElem?_append_left (by omega)] at hu
      exact .inl ⟨h1, hu⟩
    · rw [List.getElem?_append_right (by omega), ha] at hu
      by_cases h2 : j - p < q
      · rw [List.getElem?_append_left (by omega)] at hu
        exact .inr (.inl ⟨by omega, by omega, hu⟩)
      · rw [List.getElem?_append_right (by omega), hv] at hu
        have := (List.getElem?_eq_some_iff.1 hu).1
        exact .inr (.inr ⟨by omega, by omega, by rwa [show j - p - q = j - (p + q) by omega] at hu⟩)
  constructor
  · intro j u hu
    rcases hk j u hu with ⟨h1, h2⟩ | ⟨h1, h2, h3⟩ | ⟨h1, h2, h3⟩
    · rw [World.cell?_setCells_out g vs p _ ⟨g, j, none⟩ (fun _ _ => .inl h1), World.cell?_setCells_out g b (p + q) _ ⟨g, j, none⟩ (fun _ _ => .inl (by show j < p + q; omega))]
      exact hh j u h2
    · have hj : j - p < vs.length := by omega
      have := World.cell?_setCells_in g vs p (W.setCells g (p + q) b) (fun t ht => isSome_setCells g b (p + q) W (fun t' ht' => hs _ (by omega)) _ (hs _ (by omega))) (j - p) hj
      rw [show p + (j - p) = j by omega] at this
      rw [this, ← List.getElem?_eq_getElem hj]
      exact h3
    · rw [World.cell?_setCells_out g vs p _ ⟨g, j, none⟩ (fun _ _ => .inr (by show p + vs.length ≤ j; omega))]
      have hj : j - (p + q) < b.length := by omega
      have := World.cell?_setCells_in g b (p + q) W (fun t ht => hs _ (by omega)) (j - (p + q)) hj
      rw [show p + q + (j - (p + q)) = j by omega] at this
      rw [this, ← List.getElem?_eq_getElem hj]
      exact h3
  · intro j u hu
    rcases hk j u hu with ⟨h1, h2⟩ | ⟨h1, h2, h3⟩ | ⟨h1, h2, h3⟩
    · rw [World.cell?_setCells_out g b (p + q) _ ⟨g, j, none⟩ (fun _ _ => .inl (by show j < p + q; omega)), World.cell?_setCells_out g vs p _ ⟨g, j, none⟩ (fun _ _ => .inl h1)]
      exact hh j u h2
    · rw [World.cell?_setCells_out g b (p + q) _ ⟨g, j, none⟩ (fun _ _ => .inl h2)]
      have hj : j - p < vs.length := by omega
      have := World.cell?_setCells_in g vs p W (fun t ht => hs _ (by omega)) (j - p) hj
      rw [show p + (j - p) = j by omega] at this
      rw [this, ← List.getElem?_eq_getElem hj]
      exact h3
    · have hj : j - (p + q) < b.length := by omega
      have := World.cell?_setCells_in g b (p + q) (W.setCells g p vs) (fun t ht => isSome_setCells g vs p W (fun t' ht' => hs _ (by omega)) _ (hs _ (by omega))) (j - (p + q)) hj
      rw [show p + q + (j - (p + q)) = j by omega] at this
      rw [this, ← List.getElem?_eq_getElem hj]
      exact h3

theorem add_plain' (b off j : Nat) : (⟨b, off, none⟩ : Addr).add j = ⟨b, off + j, none⟩ := by
  unfold Addr.add
  split
  · rename_i h; subst h; rfl
  · rfl

/-- What a call that hands back a list says: whatever lay below base is as it was. -/
def NewFrom {α : Type} (C : Codec α) (base : Nat) (l : List α) (w : World) (e : Ending) (w' : World) : Prop := ∃ A c, e = .returned (.slice A l.length c) ∧ l.length ≤ c ∧ c ≤ maxLen ∧ R C base w' A l ∧ Below base w w'

set_option maxRecDepth 100000 in
set_option maxHeartbeats 2000000 in
theorem insertC (base : Nat) (v : Value) (xs : List Entry) (i : Nat) (y : Entry) (A B : Option Addr) (c d : Nat) (w1 : World) (hown : Own cEntry 62 base w1 v xs) (hbase : base ≤ w1.heap.size) (hi : i ≤ xs.length) (hl : xs.length ≤ 1048576)
    (hy : cEntry.rd w1 (fun b => (base ≤ b ∧ b < w1.heap.size) ∧ v.ownBlock ≠ some b) y (entryCells y A c B d)) :
    Calls Tryz.prog 180 #[v, .int .i64 i, .slice (some ⟨w1.heap.size, 0, none⟩) 1 1] (w1.alloc (.cells (entryCells y A c B d).toArray 62)) (NewFrom cEntry base (xs.take i ++ y :: xs.drop i) w1) := by
  obtain ⟨w, hw⟩ : ∃ w, w = w1.alloc (.cells (entryCells y A c B d).toArray 62) := ⟨_, rfl⟩
  have hbw : Bl w1 w := by rw [hw]; exact (Bl.refl _).alloc _
  have hzw : w.heap.size = w1.heap.size + 1 := by rw [hw, World.size_alloc]
  have hnew := heap_alloc_new w1 (.cells (entryCells y A c B d).toArray 62)
  rw [← hw] at hnew ⊢
  have hvs : ∀ (j : Nat) u, (entryCells y A c B d)[j]? = some u → w.cell? ⟨w1.heap.size, j, none⟩ = some u := fun j u hu => by
    rw [cell_of_row w w1.heap.size j _ _ (0, 0) hnew]; simpa using hu
  have hvf : ∀ o, w.frozen? ⟨w1.heap.size, o, none⟩ = false := fun o => by rw [hw]; exact frozen_new w1 _ _ o
  have h1v := cEntry.one hy
  have hvl : (entryCells y A c B d).length = 8 := rfl
  obtain ⟨i0, hi0, hz0, hz1, hz2⟩ := info_parts Tryz.infoEntry
  have hown2 := hown.bl hbw
  have hfn : ∀ v2 w2, Own cEntry 62 base w2 v2 (xs ++ [y]) → w.grownBy w2 v.ownBlock → NewFrom cEntry base (xs ++ [y]) w1 (.returned v2) w2 := fun v2 w2 ho hg => by
    obtain ⟨A', c', rfl, hr, k1, k2⟩ := ho.reads
    exact ⟨A', c', rfl, k1, k2, hr, Below.grown (Below.mono hbw hbase) hg (by omega) (fun k hk => (hown2.lt hk).1)⟩
  have hsrc : ∃ news, RdL cEntry w (fun b => (base ≤ b ∧ b < w.heap.size) ∧ v.ownBlock ≠ some b) [y] news ∧ (∀ ad, some (⟨w1.heap.size, 0, none⟩ : Addr) = some ad → ∀ (j : Nat) (u : Value), news[j]? = some u → w.cell? (ad.add j) = some u) ∧ (some (⟨w1.heap.size, 0, none⟩ : Addr) = none → [y] = []) :=
    ⟨entryCells y A c B d, RdL.one1 (cEntry.keep (hbw.keeps fun b hb => hb.1.2) (fun b hb => ⟨⟨hb.1.1, by have := hb.1.2; omega⟩, hb.2⟩) hy), fun ad e j u hu => by
      cases e
      rw [add_plain', Nat.zero_add]
      exact hvs j u hu, fun e => by cases e⟩
  have hlx : xs.length ≤ 9223372036854775807 := by omega
  replace hfn := hide hfn
  clear hw
  obtain ⟨cells, ho, hr⟩ := hown
  obtain ⟨hcl, hnl | ⟨g, cap, cur, hv, hbg, hgc, hnc, hcm, hsz, htk⟩⟩ := ho
  · obtain ⟨rfl, hx0⟩ := hnl
    obtain rfl := List.eq_nil_of_length_eq_zero hx0
    obtain rfl : i = 0 := by simpa using hi
    clear hr hcl hnew hvs hvf hx0
    go_enter Tryz.func180, Tryz.ntmps180
    go_wp2_with (at_builtin
                 (refine wpList_append_any2 (C := cEntry) (xs := []) (ys := [y]) rfl (.tmp 23) (.tmp 24) _ rfl 62 i0 _ 80 Tryz.underlying56 hi0 hz0 hz1 hz2 rfl _ base rfl hown2 (some ⟨w1.heap.size, 0, none⟩) 1 1 rfl rfl hsrc ?c1 ?c2 ?c3 ?_)
                 case c1 => simp [maxLen]
                 case c2 => simp
                 case c3 => omega
                 intro v2 w2 hown3 hg2 _)
    go_ret
    exact hfn.out _ _ hown3 hg2
  have hcm' := hcm
  unfold maxLen at hcm'
  by_cases hin : i = xs.length
  · subst hin
    have hE := hide (show xs.take xs.length ++ y :: xs.drop xs.length = xs ++ [y] by rw [List.take_length, List.drop_length])
    have hee : ((xs.length : Int) == (xs.length : Int)) = true := by simp
    subst hv
    clear hr hcl hnew hvs hvf hgc htk
    by_cases hce : cap = xs.length
    · subst hce
      go_enter Tryz.func180, Tryz.ntmps180
      go_wp2_with (at_builtin
                   (refine wpList_append_any2 (C := cEntry) (xs := xs) (ys := [y]) rfl (.tmp 23) (.tmp 24) _ rfl 62 i0 _ 80 Tryz.underlying56 hi0 hz0 hz1 hz2 rfl _ base rfl hown2 (some ⟨w1.heap.size, 0, none⟩) 1 1 rfl rfl hsrc ?c1 ?c2 ?c3 ?_)
                   case c1 => simp [maxLen]; omega
                   case c2 => simp; omega
                   case c3 => omega
                   intro v2 w2 hown3 hg2 _)
      go_ret
      rw [hE.out]
      exact hfn.out _ _ hown3 hg2
    · go_enter Tryz.func180, Tryz.ntmps180
      go_wp2_with (at_builtin
                   (refine wpList_append_any2 (C := cEntry) (xs := xs) (ys := [y]) rfl (.tmp 23) (.tmp 24) _ rfl 62 i0 _ 80 Tryz.underlying56 hi0 hz0 hz1 hz2 rfl _ base rfl hown2 (some ⟨w1.heap.size, 0, none⟩) 1 1 rfl rfl hsrc ?c1 ?c2 ?c3 ?_)
                   case c1 => simp [maxLen]; omega
                   case c2 => simp; omega
                   case c3 => omega
                   intro v2 w2 hown3 hg2 _)
      go_ret
      rw [hE.out]
      exact hfn.out _ _ hown3 hg2
  -- in the midst
  have hin' : i < xs.length := by omega
  subst hv
  have hg1 : g < w1.heap.size := (Array.getElem?_eq_some_iff.1 hgc).1
  have hgc2 : w.heap[g]? = some (.cells cur 62 (0, 0)) := (hbw.block g hg1).trans hgc
  have hne : w1.heap.size ≠ g := by omega
  have hcs : ∀ (j : Nat) u, cells[j]? = some u → w.cell? ⟨g, j, none⟩ = some u := fun j u hu => by
    rw [cell_of_row w g j cur _ (0, 0) hgc2]
    rw [← htk, List.getElem?_take] at hu
    split at hu
    · simpa using hu
    · cases hu
  have h1c := hr.one
  have hfr : ∀ o, w.frozen? ⟨g, o, none⟩ = false := fun o => by simp [World.frozen?, hgc2]
  -- the pieces
  have hxs : xs = xs.take i ++ xs.drop i := (List.take_append_drop i xs).symm
  have hr2 := hr
  rw [hxs] at hr2
  obtain ⟨ca, cb, hcc, hra, hrb⟩ := hr2.split
  have hcal : ca.length = i * 8 := by
    have := hra.length
    rw [List.length_take, Nat.min_eq_left (by omega)] at this
    exact this
  have hcat : cells.take (i * 8) = ca := by rw [hcc, List.take_append_of_le_length (by omega), List.take_of_length_le (by omega)]
  have hcad : cells.drop (i * 8) = cb := by rw [hcc, List.drop_append_of_le_length (by omega), List.drop_of_length_le (by omega)]; rfl
  have hcbl : cb.length = (xs.length - i) * 8 := by
    have := congrArg List.length hcc
    rw [List.length_append, hcl, hcal] at this
    have h8 : cEntry.size = 8 := rfl
    rw [h8] at this
    omega
  have hcl8 : cells.length = xs.length * 8 := hcl
  have hrall : RdL cEntry w1 (fun b => (base ≤ b ∧ b < w1.heap.size) ∧ (Value.slice (some ⟨g, 0, none⟩) xs.length cap).ownBlock ≠ some b) (xs.take i ++ y :: xs.drop i) (ca ++ (entryCells y A c B d ++ cb)) := hra.append ((RdL.one1 hy).append hrb)
  have hylen : (xs.take i ++ y :: xs.drop i).length = xs.length + 1 := by simp; omega
  have hob : ∀ b, ((base ≤ b ∧ b < w1.heap.size) ∧ (Value.slice (some ⟨g, 0, none⟩) xs.length cap).ownBlock ≠ some b) → b ≠ g := fun b hb e => hb.2 (by rw [e]; rfl)
  by_cases hroom : xs.length + 1 ≤ cap
  · have hsp : ∀ j, j < (xs.length + 1) * 8 → (w.cell? ⟨g, j, none⟩).isSome = true := fun j hj => by
      rw [cell_of_row w g j cur _ (0, 0) hgc2, Array.getElem?_eq_getElem (by have h8 : cEntry.size = 8 := rfl; rw [h8] at hsz; omega)]
      rfl
    have hins := (ins_cells (W := w.drew) (g := g) (p := i * 8) (q := 8) (a := ca) (vs := entryCells y A c B d) (b := cb) hcal hvl (fun j hj => hsp j (by omega)) (fun j u hu => hcs j u (by rw [hcc, List.getElem?_append_left (by exact (List.getElem?_eq_some_iff.1 hu).1)]; exact hu))).1
    refine (insert_shift g xs.length cap i w1.heap.size 1 cells (entryCells y A c B d) w hin' hroom hcm' hne hcl8 hvl hcs hsp (fun j _ => hfr j) hvs h1c h1v 62 62 8 cur.size ?_ ?_ ?_ (hvf 0) (hvf 8)).mono ?_
    · simp [World.shape?, hnew, hvl]
    · simp [World.shape?, hgc2]
    · have h8 : cEntry.size = 8 := rfl
      rw [h8] at hsz
      omega
    rintro e w' ⟨rfl, rfl⟩
    rw [hcad, show (i + 1) * 8 = i * 8 + 8 by omega]
    refine ⟨some ⟨g, 0, none⟩, cap, by rw [hylen], by rw [hylen]; exact hroom, hcm, ⟨_, hrall.keep (fun b hb => ?_) (fun b hb => ⟨hb.1.1, ?_⟩), fun _ => ⟨g, 0, rfl, ⟨hbg, ?_⟩, fun j u hu => ⟨?_, ?_⟩⟩⟩, ?_⟩
    · exact ((((hbw.keeps fun _ h => h.1.2).trans (Keeps.drew _ _)).trans (keeps_setCells hob _ _ _)).trans (keeps_setCells hob _ _ _)) b hb
    · rw [size_setCells, size_setCells]; show b < w.heap.size; have := hb.1.2; omega
    · rw [size_setCells, size_setCells]; show g < w.heap.size; omega
    · rw [Nat.zero_add]; exact hins j u hu
    · rw [World.frozen?_setCells, World.frozen?_setCells]; exact hfr _
    · exact below_setCells hbg _ _ (below_setCells hbg _ _ (Below.mono hbw.drew hbase))
  · refine (insert_grow g xs.length cap i w1.heap.size 1 cells (entryCells y A c B d) w hin' hnc (by omega) (by omega) hcl8 hvl hcs hvs h1c h1v).mono ?_
    rintro e w' ⟨G, ROW, hG1, hG2, hRs, hRt, rfl, rfl⟩
    rw [hcad, show (i + 1) * 8 = i * 8 + 8 by omega]
    have hH : w.heap.size = w1.heap.size + 1 := hzw
    have hal := heap_alloc_new w (.cells ROW 62)
    have hins := (ins_cells (W := (w.alloc (.cells ROW 62)).drew.drew) (g := w.heap.size) (p := i * 8) (q := 8) (a := ca) (vs := entryCells y A c B d) (b := cb) hcal hvl (fun j hj => by
        show ((w.alloc (.cells ROW 62)).cell? ⟨w.heap.size, j, none⟩).isSome = true
        rw [cell_of_row _ w.heap.size j ROW _ (0, 0) hal, Array.getElem?_eq_getElem (by omega)]; rfl) (fun j u hu => by
        show (w.alloc (.cells ROW 62)).cell? ⟨w.heap.size, j, none⟩ = some u
        rw [cell_of_row _ w.heap.size j ROW _ (0, 0) hal]
        rw [← hcat, ← hRt, List.getElem?_take] at hu
        split at hu
        · simpa using hu
        · cases hu)).2
    have hob2 : ∀ b, ((base ≤ b ∧ b < w1.heap.size) ∧ (Value.slice (some ⟨g, 0, none⟩) xs.length cap).ownBlock ≠ some b) → b ≠ w.heap.size := fun b hb e => by have := hb.1.2; omega
    refine ⟨some ⟨w.heap.size, 0, none⟩, G, by rw [hylen], by rw [hylen]; exact hG1, hG2, ⟨_, hrall.keep (fun b hb => ?_) (fun b hb => ⟨hb.1.1, ?_⟩), fun _ => ⟨w.heap.size, 0, rfl, ⟨by omega, ?_⟩, fun j u hu => ⟨?_, ?_⟩⟩⟩, ?_⟩
    · exact (((((((hbw.alloc _).keeps fun _ h => h.1.2).trans (Keeps.drew _ _)).trans (keeps_setCells hob2 _ _ _)).trans (Keeps.drew _ _)).trans (keeps_setCells hob2 _ _ _))) b hb
    · simp only [size_setCells, drew_heap, World.size_alloc]
      have := hb.1.2
      omega
    · simp only [size_setCells, drew_heap, World.size_alloc]
      omega
    · rw [Nat.zero_add, drew_setCells]
      exact hins j u hu
    · rw [World.frozen?_setCells, drew_frozen, World.frozen?_setCells, drew_frozen]
      exact frozen_new w ROW _ _
    · exact below_setCells (by omega) _ _ (Below.drew (below_setCells (g := w.heap.size) (by omega) _ _ (Below.drew (Below.mono (hbw.alloc (.cells ROW 62)) hbase))))

end Go.Proofs.YteoodmilcpmmpaaGreat
