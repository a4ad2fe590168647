/-
  slices.SortFunc at api.Op: the kit's contract laid at this program's own numbers (printed by gen_sortf.py).
  slices.SortFunc over a row of structs whose elements lead to memory of their own: the kit's contract said in lists. No program in sight.
-/
import Derived.Test.YtkolimhkfiebeaaBase
import Derived.Test.YtkolimhkfiebeaaChecked
import Derived.Shelf.SlSortCmp.WholeK
namespace Go.Proofs.Ytkolimhkfiebeaa
open Go.RowKit Go.Shelf

def sortO_ren : Go.Shelf.Ren := ⟨fun | 6 => 130 | 14 => 158 | 15 => 139 | 20 => 194 | 21 => 195 | 22 => 196 | 23 => 197 | 24 => 198 | 25 => 199 | 26 => 200 | 27 => 201 | 28 => 177 | 29 => 178 | 46 => 216 | 47 => 203 | 48 => 204 | 49 => 217 | 50 => 218 | 57 => 233 | n => n, fun | 0 => 0 | 3 => 3 | 4 => 4 | 5 => 5 | 9 => 9 | 22 => 33 | 24 => 68 | 25 => 161 | 39 => 162 | 45 => 197 | 46 => 198 | 50 => 113 | 53 => 31 | 55 => 206 | 66 => 224 | 70 => 228 | 76 => 243 | 77 => 244 | n => n, fun n => n⟩

theorem sortO_lays : SlLaysF0.n6 Try.prog sortO_ren := {
  mixed := by kernel_rfl
  f6 := ⟨Try.f130.name, by decide, Try.func130.trans (congrArg some (by kernel_rfl))⟩
  f14 := ⟨Try.f158.name, by decide, Try.func158.trans (congrArg some (by kernel_rfl))⟩
  f15 := Try.func139.trans (congrArg some (by kernel_rfl))
  f20 := ⟨Try.f194.name, by decide, Try.func194.trans (congrArg some (by kernel_rfl))⟩
  f21 := ⟨Try.f195.name, by decide, Try.func195.trans (congrArg some (by kernel_rfl))⟩
  f22 := ⟨Try.f196.name, by decide, Try.func196.trans (congrArg some (by kernel_rfl))⟩
  f23 := ⟨Try.f197.name, by decide, Try.func197.trans (congrArg some (by kernel_rfl))⟩
  f24 := ⟨Try.f198.name, by decide, Try.func198.trans (congrArg some (by kernel_rfl))⟩
  f25 := ⟨Try.f199.name, by decide, Try.func199.trans (congrArg some (by kernel_rfl))⟩
  f26 := ⟨Try.f200.name, by decide, Try.func200.trans (congrArg some (by kernel_rfl))⟩
  f27 := ⟨Try.f201.name, by decide, Try.func201.trans (congrArg some (by kernel_rfl))⟩
  f28 := Try.func177.trans (congrArg some (by kernel_rfl))
  f29 := Try.func178.trans (congrArg some (by kernel_rfl))
  f46 := ⟨Try.f216.name, by decide, Try.func216.trans (congrArg some (by kernel_rfl))⟩
  f47 := Try.func203.trans (congrArg some (by kernel_rfl))
  f48 := Try.func204.trans (congrArg some (by kernel_rfl))
  f49 := ⟨Try.f217.name, by decide, Try.func217.trans (congrArg some (by kernel_rfl))⟩
  f50 := ⟨Try.f218.name, by decide, Try.func218.trans (congrArg some (by kernel_rfl))⟩
  f57 := ⟨Try.f233.name, by decide, Try.func233.trans (congrArg some (by kernel_rfl))⟩
  t0 := Try.underlying0
  a0 := Try.isAgg0
  z0 := Try.sizeOf0
  v0 := Try.zeroValue0
  t3 := Try.underlying3
  a3 := Try.isAgg3
  z3 := Try.sizeOf3
  v3 := Try.zeroValue3
  t4 := Try.underlying4
  a4 := Try.isAgg4
  z4 := Try.sizeOf4
  v4 := Try.zeroValue4
  t5 := Try.underlying5
  a5 := Try.isAgg5
  z5 := Try.sizeOf5
  v5 := Try.zeroValue5
  t9 := Try.underlying9
  a9 := Try.isAgg9
  z9 := Try.sizeOf9
  v9 := Try.zeroValue9
  t22 := Try.underlying33
  a22 := Try.isAgg33
  z22 := Try.sizeOf33
  v22 := Try.zeroValue33
  t25 := Try.underlying161
  a25 := Try.isAgg161
  z25 := Try.sizeOf161
  v25 := Try.zeroValue161
  t39 := Try.underlying162
  a39 := Try.isAgg162
  z39 := Try.sizeOf162
  v39 := Try.zeroValue162
  t45 := Try.underlying197
  a45 := Try.isAgg197
  z45 := Try.sizeOf197
  v45 := Try.zeroValue197
  t46 := Try.underlying198
  a46 := Try.isAgg198
  z46 := Try.sizeOf198
  v46 := Try.zeroValue198
  t50 := Try.underlying113
  a50 := Try.isAgg113
  z50 := Try.sizeOf113
  v50 := Try.zeroValue113
  t53 := Try.underlying31
  a53 := Try.isAgg31
  z53 := Try.sizeOf31
  v53 := Try.zeroValue31
  t55 := Try.underlying206
  a55 := Try.isAgg206
  z55 := Try.sizeOf206
  v55 := Try.zeroValue206
  t66 := Try.underlying224
  a66 := Try.isAgg224
  z66 := Try.sizeOf224
  v66 := Try.zeroValue224
  t70 := Try.underlying228
  a70 := Try.isAgg228
  z70 := Try.sizeOf228
  v70 := Try.zeroValue228
  t76 := Try.underlying243
  a76 := Try.isAgg243
  z76 := Try.sizeOf243
  v76 := Try.zeroValue243
  t77 := Try.underlying244
  a77 := Try.isAgg244
  z77 := Try.sizeOf244
  v77 := Try.zeroValue244 }
end Go.Proofs.Ytkolimhkfiebeaa

namespace Go.Proofs.Ytkolimhkfiebeaa
open Go.RowKit Go.Shelf Go.Sort

section
variable {α : Type} {C : Codec α} {w w' : World} {S S' : Nat → Prop} {xs : List α} {cells : List Value}

/-- The cells of each element. -/
theorem RdL.pieces : ∀ {xs : List α} {cells : List Value}, RdL C w S xs cells → ∃ f : Fin xs.length → List Value, (∀ i, C.rd w S (xs.get i) (f i)) ∧ ∀ t, t < xs.length * C.size → ∀ h : t / C.size < xs.length, cells[t]? = (f ⟨t / C.size, h⟩)[t % C.size]?
  | [], cells, _ => ⟨fun i => i.elim0, fun i => i.elim0, fun t ht => by simp at ht⟩
  | x :: xs, cells, h => by
    obtain ⟨a, b, rfl, ha, hb⟩ := h
    obtain ⟨f, h1, h2⟩ := RdL.pieces hb
    have hl := C.len ha
    have hp := C.pos
    refine ⟨fun i => match i with | ⟨0, _⟩ => a | ⟨i + 1, hi⟩ => f ⟨i, Nat.lt_of_succ_lt_succ hi⟩, ?_, ?_⟩
    · rintro ⟨i, hi⟩
      cases i with
      | zero => exact ha
      | succ i => exact h1 ⟨i, Nat.lt_of_succ_lt_succ hi⟩
    · intro t ht hd
      by_cases h0 : t < C.size
      · have e : t / C.size = 0 := Nat.div_eq_of_lt h0
        have e2 : t % C.size = t := Nat.mod_eq_of_lt h0
        rw [List.getElem?_append_left (by omega), e2]
        generalize hq : (⟨t / C.size, hd⟩ : Fin (x :: xs).length) = q
        have hq0 : q.1 = 0 := by rw [← hq]; exact e
        obtain ⟨q, hqq⟩ := q
        cases hq0
        rfl
      · obtain ⟨u, rfl⟩ : ∃ u, t = u + C.size := ⟨t - C.size, by omega⟩
        have e : (u + C.size) / C.size = u / C.size + 1 := Nat.add_div_right _ hp
        have e2 : (u + C.size) % C.size = u % C.size := Nat.add_mod_right _ _
        have hu : u < xs.length * C.size := by rw [List.length_cons, Nat.succ_mul] at ht; omega
        have hu2 : u / C.size < xs.length := Nat.div_lt_of_lt_mul (by rw [Nat.mul_comm]; exact hu)
        rw [List.getElem?_append_right (by omega), hl, Nat.add_sub_cancel, e2, h2 u hu hu2]
        generalize hq : (⟨(u + C.size) / C.size, hd⟩ : Fin (x :: xs).length) = q
        have hq0 : q.1 = u / C.size + 1 := by rw [← hq]; exact e
        obtain ⟨q, hqq⟩ := q
        cases hq0
        rfl

theorem RdL.flat {f : Fin xs.length → List Value} (h : ∀ i, C.rd w S (xs.get i) (f i)) : ∀ l : List (Fin xs.length), RdL C w S (l.map xs.get) (l.map f).flatten
  | [] => rfl
  | i :: l => ⟨f i, (l.map f).flatten, rfl, h i, RdL.flat h l⟩

theorem flat_get {n k : Nat} (f : Fin n → List Value) (hf : ∀ i, (f i).length = k) (hk : 0 < k) : ∀ (l : List (Fin n)) (t : Nat), t < l.length * k → ∀ h : t / k < l.length, (l.map f).flatten[t]? = (f l[t / k])[t % k]?
  | [], t, ht, _ => by simp at ht
  | i :: l, t, ht, h => by
    rw [List.map_cons, List.flatten_cons]
    by_cases h0 : t < k
    · have e : t / k = 0 := Nat.div_eq_of_lt h0
      rw [List.getElem?_append_left (by rw [hf]; exact h0), Nat.mod_eq_of_lt h0]
      simp [e]
    · obtain ⟨u, rfl⟩ : ∃ u, t = u + k := ⟨t - k, by omega⟩
      have e : (u + k) / k = u / k + 1 := Nat.add_div_right _ hk
      have hu : u < l.length * k := by rw [List.length_cons, Nat.succ_mul] at ht; omega
      have hu2 : u / k < l.length := Nat.div_lt_of_lt_mul (by rw [Nat.mul_comm]; exact hu)
      rw [List.getElem?_append_right (by rw [hf]; omega), hf, Nat.add_sub_cancel, Nat.add_mod_right, flat_get f hf hk l u hu hu2]
      simp [e]

/-- Behind the sort's stores: other blocks are as they were. -/
theorem sortWorld_block {β : Type} [Inhabited β] {enc : β → List Value} {k blk off m b : Nat} {d : Array β} {os : Array Obj} (hb : b < w.heap.size) (hne : b ≠ blk) : (sortWorldK enc k w blk off m d os).heap[b]? = w.heap[b]? := by
  unfold sortWorldK putRowK
  rw [heap_grow_old _ _ (by simpa using hb)]
  simp [putRow, mapBlock, Sort.ahead, Array.getElem?_modify, Ne.symm hne]

theorem sortWorld_below {β : Type} [Inhabited β] {enc : β → List Value} {k blk off m B : Nat} {d : Array β} {os : Array Obj} (hB : B ≤ blk) (hs : blk < w.heap.size) : Below B w (sortWorldK enc k w blk off m d os) :=
  ⟨rfl, rfl, rfl, by unfold sortWorldK putRowK; rw [size_grow, size_putRow]; exact Nat.le_add_right _ _, fun b hb => sortWorld_block (Nat.lt_of_lt_of_le hb (Nat.le_of_lt (Nat.lt_of_le_of_lt hB hs))) (by omega)⟩

/-- What is sorted: all of it, in order, in the same row. -/
theorem sort_lists {P : Program} {ρ : Ren} (L : SlLaysF0.n6 P ρ) (aE : ∀ w, (isAgg (ρ.t 24)).run P w = .ok true w) (zE : ∀ w, (Go.sizeOf (ρ.t 24)).run P w = .ok C.size w) (cf : α → α → Int) (hO : SWO fun x y => decide (cf x y < 0)) (g : Nat) (eg : ∀ args w, (callFunc g args).run P w = .ok (.enter g args) w)
    (base blk cap : Nat) (hlo : base ≤ blk) (hblk : blk < w.heap.size) (hsz : xs.length < 4611686018427387904) (hne : 0 < xs.length)
    (hr : RdL C w (fun b => (base ≤ b ∧ b < w.heap.size) ∧ b ≠ blk) xs cells) (hat : At w blk 0 cells)
    (hc : ∀ (W : World) (x y : α) (cx cy : List Value), x ∈ xs → y ∈ xs → Below base w W → C.rd W (fun b => (base ≤ b ∧ b < w.heap.size) ∧ b ≠ blk) x cx → C.rd W (fun b => (base ≤ b ∧ b < w.heap.size) ∧ b ≠ blk) y cy → w.heap.size ≤ W.heap.size →
      Calls P g #[.agg cx.toArray, .agg cy.toArray] W fun e w' => e = .returned (.int .i64 (cf x y)) ∧ ∃ q os, w' = grow (W.drewN q) os) :
    Calls P (ρ.f 6) #[.slice (some ⟨blk, 0, none⟩) xs.length cap, .func (.func g) #[] #[]] w fun e w' =>
      e = .returned (.tuple #[]) ∧ ∃ ys, ys.Perm xs ∧ ys.Pairwise (fun a b => ¬ cf b a < 0) ∧ R C base w' (some ⟨blk, 0, none⟩) ys ∧ Below base w w' := by
  obtain ⟨f, h1, h2⟩ := RdL.pieces hr
  have hp := C.pos
  have hlen : ∀ i, (f i).length = C.size := fun i => C.len (h1 i)
  haveI : Inhabited (Fin xs.length) := ⟨⟨0, hne⟩⟩
  obtain ⟨d, hd⟩ : ∃ d : Array (Fin xs.length), d = (List.finRange xs.length).toArray := ⟨_, rfl⟩
  have hds : d.size = xs.length := by rw [hd]; simp
  have hdl : d.toList = List.finRange xs.length := by rw [hd]
  have hget : ∀ (D : Array (Fin xs.length)) (t : Nat), t < D.size * C.size → (flatK f C.size D)[t]! = (f D[t / C.size]!)[t % C.size]! := fun D t ht => get_flatK f C.size D t ht
  have hmod : ∀ t, t % C.size < C.size := fun t => Nat.mod_lt _ hp
  have hH : HoldsK f C.size w blk 0 d := by
    intro t ht
    rw [size_flatK, hds] at ht
    have hdv : t / C.size < xs.length := Nat.div_lt_of_lt_mul (by rw [Nat.mul_comm]; exact ht)
    have e1 : d[t / C.size]! = ⟨t / C.size, hdv⟩ := by
      rw [getElem!_pos d _ (by rw [hds]; exact hdv)]
      subst hd
      simp
    have e2 : cells[t]? = some ((flatK f C.size d)[t]!) := by
      rw [hget d t (by rw [hds]; exact ht), e1, h2 t ht hdv]
      rw [List.getElem?_eq_getElem (by rw [hlen]; exact hmod t), getElem!_pos (f ⟨t / C.size, hdv⟩) _ (by rw [hlen]; exact hmod t)]
    exact hat t _ e2
  have hkeep : ∀ (m : Nat) (os : Array Obj) (dk : Array (Fin xs.length)), Keeps (fun b => (base ≤ b ∧ b < w.heap.size) ∧ b ≠ blk) w (sortWorldK f C.size w blk 0 m dk os) := fun m os dk b hb => sortWorld_block hb.1.2 hb.2
  have hcmp : CmpLays P g #[] f C.size (fun i j => cf (xs.get i) (xs.get j)) blk 0 d.size w := by
    intro m os dk _ i j
    have hx := C.keep (hkeep m os dk) (fun _ h => h) (h1 i)
    have hy := C.keep (hkeep m os dk) (fun _ h => h) (h1 j)
    exact hc _ _ _ _ _ (List.get_mem xs i) (List.get_mem xs j) (sortWorld_below hlo hblk) hx hy (size_sortWorldK_c f C.size w blk 0 m dk os)
  have hO2 : SWO (ltOf fun i j : Fin xs.length => cf (xs.get i) (xs.get j)) := ⟨fun i => hO.irrefl (xs.get i), fun i j k => hO.trans (xs.get i) (xs.get j) (xs.get k), fun i j k => hO.ntrans (xs.get i) (xs.get j) (xs.get k)⟩
  have hcall := AnyQ.slices_SortFunc L C.size aE zE f hlen (fun i v hv => C.one (h1 i) v hv) (fun i j => cf (xs.get i) (xs.get j)) hO2 g #[] blk 0 cap d w eg hcmp hH hblk (by rw [hds]; exact hsz)
  rw [hds] at hcall
  refine hcall.mono ?_
  rintro e w' ⟨rfl, D, n, os, ⟨hDs, _, hDp⟩, hDo, rfl⟩
  rw [hds] at hDs
  refine ⟨rfl, D.toList.map xs.get, ?_, ?_, ?_, sortWorld_below hlo hblk⟩
  · have e1 : (D.extract 0 xs.length).toList = D.toList := by simp [← hDs]
    have e2 : (d.extract 0 xs.length).toList = d.toList := by simp [← hds]
    rw [e1, e2] at hDp
    have h3 := hDp.map xs.get
    rw [hdl] at h3
    have e3 : (List.finRange xs.length).map xs.get = xs := by
      apply List.ext_getElem
      · simp
      · intro i _ _; simp
    rw [e3] at h3
    exact h3
  · rw [List.pairwise_map, List.pairwise_iff_getElem]
    intro i j hi hj hij
    have hi' : i < D.size := by simpa using hi
    have hj' : j < D.size := by simpa using hj
    have h3 := hDo i j (Nat.zero_le _) hij (by omega)
    rw [getElem!_pos D i hi', getElem!_pos D j hj'] at h3
    unfold ltOf at h3
    rw [decide_eq_false_iff_not] at h3
    simpa using h3
  · refine ⟨(D.toList.map f).flatten, ?_, fun _ => ⟨blk, 0, rfl, ⟨hlo, ?_⟩, ?_⟩⟩
    · refine RdL.flat (xs := xs) (fun i => C.keep (S := fun b => (base ≤ b ∧ b < w.heap.size) ∧ b ≠ blk) (hkeep n os D) (fun b hb => ⟨hb.1.1, Nat.lt_of_lt_of_le hb.1.2 (size_sortWorldK_c f C.size w blk 0 n D os)⟩) (h1 i)) D.toList
    · exact Nat.lt_of_lt_of_le hblk (size_sortWorldK_c f C.size w blk 0 n D os)
    · have hH2 := holdsK_sortWorldK_c f C.size w blk 0 d D n os hH hblk (by rw [hds]; exact hDs)
      intro t u hu
      have ht : t < D.size * C.size := by
        have h3 := (List.getElem?_eq_some_iff.1 hu).1
        have h4 : (D.toList.map f).flatten.length = D.size * C.size := by
          have h5 := (RdL.flat h1 D.toList).length
          rw [h5, List.length_map, Array.length_toList]
        omega
      have hdv : t / C.size < D.size := Nat.div_lt_of_lt_mul (by rw [Nat.mul_comm]; exact ht)
      have h3 := hH2 t (by rw [size_flatK]; exact ht)
      rw [hget D t ht, getElem!_pos D _ hdv] at h3
      rw [flat_get f hlen hp D.toList t (by simpa using ht) (by simpa using hdv)] at hu
      rw [getElem!_pos (f D[t / C.size]) _ (by rw [hlen]; exact hmod t)] at h3
      rw [List.getElem?_eq_getElem (by rw [hlen]; exact hmod t)] at hu
      cases hu
      simpa using h3
end
end Go.Proofs.Ytkolimhkfiebeaa
