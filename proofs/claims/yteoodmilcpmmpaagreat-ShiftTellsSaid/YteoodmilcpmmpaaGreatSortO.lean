/-
  slices.SortFunc at api.Op: the kit's contract laid at this program's own numbers (printed by gen_sortf.py).
  slices.SortFunc over a row of structs whose elements lead to memory of their own: the kit's contract said in lists. No program in sight.
-/
import Derived.Test.YteoodmilcpmmpaaGreatBase
import Derived.Test.YteoodmilcpmmpaaGreatChecked
import Derived.Shelf.SlSortCmp.WholeK
namespace Go.Proofs.YteoodmilcpmmpaaGreat

open Go.RowKit Go.Shelf

def sortO_ren : Go.Shelf.Ren := ⟨fun | 6 => 147 | 14 => 194 | 15 => 118 | 20 => 216 | 21 => 217 | 22 => 218 | 23 => 219 | 24 => 220 | 25 => 221 | 26 => 222 | 27 => 223 | 28 => 177 | 29 => 178 | 46 => 229 | 47 => 204 | 48 => 205 | 49 => 230 | 50 => 231 | 57 => 233 | n => n, fun | 0 => 0 | 3 => 3 | 4 => 4 | 5 => 5 | 9 => 9 | 22 => 22 | 24 => 47 | 25 => 181 | 39 => 151 | 45 => 195 | 46 => 196 | 50 => 95 | 53 => 23 | 55 => 203 | 66 => 222 | 70 => 226 | 76 => 239 | 77 => 240 | n => n, fun n => n⟩

theorem sortO_lays : SlLaysF0.n6 Tryz.prog sortO_ren := {
  mixed := by kernel_rfl
  f6 := ⟨Tryz.f147.name, by decide, Tryz.func147.trans (congrArg some (by kernel_rfl))⟩
  f14 := ⟨Tryz.f194.name, by decide, Tryz.func194.trans (congrArg some (by kernel_rfl))⟩
  f15 := Tryz.func118.trans (congrArg some (by kernel_rfl))
  f20 := ⟨Tryz.f216.name, by decide, Tryz.func216.trans (congrArg some (by kernel_rfl))⟩
  f21 := ⟨Tryz.f217.name, by decide, Tryz.func217.trans (congrArg some (by kernel_rfl))⟩
  f22 := ⟨Tryz.f218.name, by decide, Tryz.func218.trans (congrArg some (by kernel_rfl))⟩
  f23 := ⟨Tryz.f219.name, by decide, Tryz.func219.trans (congrArg some (by kernel_rfl))⟩
  f24 := ⟨Tryz.f220.name, by decide, Tryz.func220.trans (congrArg some (by kernel_rfl))⟩
  f25 := ⟨Tryz.f221.name, by decide, Tryz.func221.trans (congrArg some (by kernel_rfl))⟩
  f26 := ⟨Tryz.f222.name, by decide, Tryz.func222.trans (congrArg some (by kernel_rfl))⟩
  f27 := ⟨Tryz.f223.name, by decide, Tryz.func223.trans (congrArg some (by kernel_rfl))⟩
  f28 := Tryz.func177.trans (congrArg some (by kernel_rfl))
  f29 := Tryz.func178.trans (congrArg some (by kernel_rfl))
  f46 := ⟨Tryz.f229.name, by decide, Tryz.func229.trans (congrArg some (by kernel_rfl))⟩
  f47 := Tryz.func204.trans (congrArg some (by kernel_rfl))
  f48 := Tryz.func205.trans (congrArg some (by kernel_rfl))
  f49 := ⟨Tryz.f230.name, by decide, Tryz.func230.trans (congrArg some (by kernel_rfl))⟩
  f50 := ⟨Tryz.f231.name, by decide, Tryz.func231.trans (congrArg some (by kernel_rfl))⟩
  f57 := ⟨Tryz.f233.name, by decide, Tryz.func233.trans (congrArg some (by kernel_rfl))⟩
  t0 := Tryz.underlying0
  a0 := Tryz.isAgg0
  z0 := Tryz.sizeOf0
  v0 := Tryz.zeroValue0
  t3 := Tryz.underlying3
  a3 := Tryz.isAgg3
  z3 := Tryz.sizeOf3
  v3 := Tryz.zeroValue3
  t4 := Tryz.underlying4
  a4 := Tryz.isAgg4
  z4 := Tryz.sizeOf4
  v4 := Tryz.zeroValue4
  t5 := Tryz.underlying5
  a5 := Tryz.isAgg5
  z5 := Tryz.sizeOf5
  v5 := Tryz.zeroValue5
  t9 := Tryz.underlying9
  a9 := Tryz.isAgg9
  z9 := Tryz.sizeOf9
  v9 := Tryz.zeroValue9
  t22 := Tryz.underlying22
  a22 := Tryz.isAgg22
  z22 := Tryz.sizeOf22
  v22 := Tryz.zeroValue22
  t25 := Tryz.underlying181
  a25 := Tryz.isAgg181
  z25 := Tryz.sizeOf181
  v25 := Tryz.zeroValue181
  t39 := Tryz.underlying151
  a39 := Tryz.isAgg151
  z39 := Tryz.sizeOf151
  v39 := Tryz.zeroValue151
  t45 := Tryz.underlying195
  a45 := Tryz.isAgg195
  z45 := Tryz.sizeOf195
  v45 := Tryz.zeroValue195
  t46 := Tryz.underlying196
  a46 := Tryz.isAgg196
  z46 := Tryz.sizeOf196
  v46 := Tryz.zeroValue196
  t50 := Tryz.underlying95
  a50 := Tryz.isAgg95
  z50 := Tryz.sizeOf95
  v50 := Tryz.zeroValue95
  t53 := Tryz.underlying23
  a53 := Tryz.isAgg23
  z53 := Tryz.sizeOf23
  v53 := Tryz.zeroValue23
  t55 := Tryz.underlying203
  a55 := Tryz.isAgg203
  z55 := Tryz.sizeOf203
  v55 := Tryz.zeroValue203
  t66 := Tryz.underlying222
  a66 := Tryz.isAgg222
  z66 := Tryz.sizeOf222
  v66 := Tryz.zeroValue222
  t70 := Tryz.underlying226
  a70 := Tryz.isAgg226
  z70 := Tryz.sizeOf226
  v70 := Tryz.zeroValue226
  t76 := Tryz.underlying239
  a76 := Tryz.isAgg239
  z76 := Tryz.sizeOf239
  v76 := Tryz.zeroValue239
  t77 := Tryz.underlying240
  a77 := Tryz.isAgg240
  z77 := Tryz.sizeOf240
  v77 := Tryz.zeroValue240 }

end Go.Proofs.YteoodmilcpmmpaaGreat

namespace Go.Proofs.YteoodmilcpmmpaaGreat

open Go.RowKit Go.Shelf Go.Sort

section

variable {α : Type} {C : Codec α} {w w' : World} {S S' : Nat → Prop} {xs : List α} {cells : List Value}

/-- The cells of each element. -/
theorem RdL.pieces : ∀ {xs : List α} {cells : List Value}, RdL C w S xs cells → ∃ f : Fin xs.length → List Value, (∀ i, C.rd w S (xs.get i) (f i)) ∧ ∀ t, t < xs.length * C.size → ∀ h : t / C.size < xs.length, cells[t]? = (f ⟨t / C.size, h⟩)[t % C.size]?
  | [], cells, _ => ⟨fun i => i.elim0, fun i => i.elim0, fun t ht => by simp at ht⟩
  | x :: xs, cells, h => by
    obtain ⟨a, b, rfl, ha, hb⟩ := h
    obtain ⟨f, h1, h2⟩ := RdL.pieces hb
    have hl := C.len ha
    have hp := C.pos
    refine ⟨fun i => match i with | ⟨0, _⟩ => a | ⟨i + 1, hi⟩ => f ⟨i, Nat.lt_of_succ_lt_succ hi⟩, ?_, ?_⟩
    · rintro ⟨i, hi⟩
      cases i with
      | zero => exact ha
      | succ i => exact h1 ⟨i, Nat.lt_of_succ_lt_succ hi⟩
    · intro t ht hd
      by_cases h0 : t < C.size
      · have e : t / C.size = 0 := Nat.div_eq_of_lt h0
        have e2 : t % C.size = t := Nat.mod_eq_of_lt h0
        rw [List.getElem?_append_left (by omega), e2]
        generalize hq : (⟨t / C.size, hd⟩ : Fin (x :: xs).length) = q
        have hq0 : q.1 = 0 := by rw [← hq]; exact e
        obtain ⟨q, hqq⟩ := q
        cases hq0
        rfl
      · obtain ⟨u, rfl⟩ : ∃ u, t = u + C.size := ⟨t - C.size, by omega⟩
        have e : (u + C.size) / C.size = u / C.size + 1 := Nat.add_div_right _ hp
        have e2 : (u + C.size) % C.size = u % C.size := Nat.add_mod_right _ _
        have hu : u < xs.length * C.size := by rw [List.length_cons, Nat.succ_mul] at ht; omega
        have hu2 : u / C.size < xs.length := Nat.div_lt_of_lt_mul (by rw [Nat.mul_comm]; exact hu)
        rw [List.getElem?_append_right (by omega), hl, Nat.add_sub_cancel, e2, h2 u hu hu2]
        generalize hq : (⟨(u + C.size) / C.size, hd⟩ : Fin (x :: xs).length) = q
        have hq0 : q.1 = u / C.size + 1 := by rw [← hq]; exact e
        obtain ⟨q, hqq⟩ := q
        cases hq0
        rfl

theorem RdL.flat {f : Fin xs.length → List Value} (h : ∀ i, C.rd w S (xs.get i) (f i)) : ∀ l : List (Fin xs.length), RdL C w S (l.map xs.get) (l.map f).flatten
  | [] => rfl
  | i :: l => ⟨f i, (l.map f).flatten, rfl, h i, RdL.flat h l⟩

theorem flat_get {n k : Nat} (f : Fin n → List Value) (hf : ∀ i, (f i).length = k) (hk : 0 < k) : ∀ (l : List (Fin n)) (t : Nat), t < l.length * k → ∀ h : t / k < l.length, (l.map f).flatten[t]? = (f l[t / k])[t % k]?
  | [], t, ht, _ => by simp at ht
  | i :: l, t, ht, h => by
    rw [List.map_cons, List.flatten_cons]
    by_cases h0 : t < k
    · have e : t / k = 0 := Nat.div_eq_of_lt h0
      rw [List.getElem?_append_left (by rw [hf]; exact h0), Nat.mod_eq_of_lt h0]
      simp [e]
    · obtain ⟨u, rfl⟩ : ∃ u, t = u + k := ⟨t - k, by omega⟩
      have e : (u + k) / k = u / k + 1 := Nat.add_div_right _ hk
      have hu : u < l.length * k := by rw [List.length_cons, Nat.succ_mul] at ht; omega
      have hu2 : u / k < l.length := Nat.div_lt_of_lt_mul (by rw [Nat.mul_comm]; exact hu)
      rw [List.getElem?_append_right (by rw [hf]; omega), hf, Nat.add_sub_cancel, Nat.add_mod_right, flat_get f hf hk l u hu hu2]
      simp [e]

/-- Behind the sort's stores: other blocks are as they were. -/
theorem sortWorld_block {β : Type} [Inhabited β] {enc : β → List Value} {k blk off m b : Nat} {d : Array β} {os : Array Obj} (hb : b < w.heap.size) (hne : b ≠ blk) : (sortWorldK enc k w blk off m d os).heap[b]? = w.heap[b]? := by
  unfold sortWorldK putRowK
  rw [heap_grow_old _ _ (by simpa using hb)]
  simp [putRow, mapBlock, Sort.ahead, Array.getElem?_modify, Ne.symm hne]

theorem sortWorld_below {β : Type} [Inhabited β] {enc : β → List Value} {k blk off m B : Nat} {d : Array β} {os : Array Obj} (hB : B ≤ blk) (hs : blk < w.heap.size) : Below B w (sortWorldK enc k w blk off m d os) :=
  ⟨rfl, rfl, rfl, by unfold sortWorldK putRowK; rw [size_grow, size_putRow]; exact Nat.le_add_right _ _, fun b hb => sortWorld_block (Nat.lt_of_lt_of_le hb (Nat.le_of_lt (Nat.lt_of_le_of_lt hB hs))) (by omega)⟩

/-- What is sorted: all of it, in order, in the same row. -/
theorem sort_lists {P : Program} {ρ : Ren} (L : SlLaysF0.n6 P ρ) (aE : ∀ w, (isAgg (ρ.t 24)).run P w = .ok true w) (zE : ∀ w, (Go.sizeOf (ρ.t 24)).run P w = .ok C.size w) (cf : α → α → Int) (hO : SWO fun x y => decide (cf x y < 0)) (g : Nat) (eg : ∀ args w, (callFunc g args).run P w = .ok (.enter g args) w)
    (base blk cap : Nat) (hlo : base ≤ blk) (hblk : blk < w.heap.size) (hsz : xs.length < 4611686018427387904) (hne : 0 < xs.length)
    (hr : RdL C w (fun b => (base ≤ b ∧ b < w.heap.size) ∧ b ≠ blk) xs cells) (hat : At w blk 0 cells)
    (hc : ∀ (W : World) (x y : α) (cx cy : List Value), x ∈ xs → y ∈ xs → Below base w W → C.rd W (fun b => (base ≤ b ∧ b < w.heap.size) ∧ b ≠ blk) x cx → C.rd W (fun b => (base ≤ b ∧ b < w.heap.size) ∧ b ≠ blk) y cy → w.heap.size ≤ W.heap.size →
      Calls P g #[.agg cx.toArray, .agg cy.toArray] W fun e w' => e = .returned (.int .i64 (cf x y)) ∧ ∃ q os, w' = grow (W.drewN q) os) :
    Calls P (ρ.f 6) #[.slice (some ⟨blk, 0, none⟩) xs.length cap, .func (.func g) #[] #[]] w fun e w' =>
      e = .returned (.tuple #[]) ∧ ∃ ys, ys.Perm xs ∧ ys.Pairwise (fun a b => ¬ cf b a < 0) ∧ R C base w' (some ⟨blk, 0, none⟩) ys ∧ Below base w w' := by
  obtain ⟨f, h1, h2⟩ := RdL.pieces hr
  have hp := C.pos
  have hlen : ∀ i, (f i).length = C.size := fun i => C.len (h1 i)
  haveI : Inhabited (Fin xs.length) := ⟨⟨0, hne⟩⟩
  obtain ⟨d, hd⟩ : ∃ d : Array (Fin xs.length), d = (List.finRange xs.length).toArray := ⟨_, rfl⟩
  have hds : d.size = xs.length := by rw [hd]; simp
  have hdl : d.toList = List.finRange xs.length := by rw [hd]
  have hget : ∀ (D : Array (Fin xs.length)) (t : Nat), t < D.size * C.size → (flatK f C.size D)[t]! = (f D[t / C.size]!)[t % C.size]! := fun D t ht => get_flatK f C.size D t ht
  have hmod : ∀ t, t % C.size < C.size := fun t => Nat.mod_lt _ hp
  have hH : HoldsK f C.size w blk 0 d := by
    intro t ht
    rw [size_flatK, hds] at ht
    have hdv : t / C.size < xs.length := Nat.div_lt_of_lt_mul (by rw [Nat.mul_comm]; exact ht)
    have e1 : d[t / C.size]! = ⟨t / C.size, hdv⟩ := by
      rw [getElem!_pos d _ (by rw [hds]; exact hdv)]
      subst hd
      simp
    have e2 : cells[t]? = some ((flatK f C.size d)[t]!) := by
      rw [hget d t (by rw [hds]; exact ht), e1, h2 t ht hdv]
      rw [List.getElem?_eq_getElem (by rw [hlen]; exact hmod t), getElem!_pos (f ⟨t / C.size, hdv⟩) _ (by rw [hlen]; exact hmod t)]
    exact hat t _ e2
  have hkeep : ∀ (m : Nat) (os : Array Obj) (dk : Array (Fin xs.length)), Keeps (fun b => (base ≤ b ∧ b < w.heap.size) ∧ b ≠ blk) w (sortWorldK f C.size w blk 0 m dk os) := fun m os dk b hb => sortWorld_block hb.1.2 hb.2
  have hcmp : CmpLays P g #[] f C.size (fun i j => cf (xs.get i) (xs.get j)) blk 0 d.size w := by
    intro m os dk _ i j
    have hx := C.keep (hkeep m os dk) (fun _ h => h) (h1 i)
    have hy := C.keep (hkeep m os dk) (fun _ h => h) (h1 j)
    exact hc _ _ _ _ _ (List.get_mem xs i) (List.get_mem xs j) (sortWorld_below hlo hblk) hx hy (size_sortWorldK_c f C.size w blk 0 m dk os)
  have hO2 : SWO (ltOf fun i j : Fin xs.length => cf (xs.get i) (xs.get j)) := ⟨fun i => hO.irrefl (xs.get i), fun i j k => hO.trans (xs.get i) (xs.get j) (xs.get k), fun i j k => hO.ntrans (xs.get i) (xs.get j) (xs.get k)⟩
  have hcall := AnyQ.slices_SortFunc L C.size aE zE f hlen (fun i v hv => C.one (h1 i) v hv) (fun i j => cf (xs.get i) (xs.get j)) hO2 g #[] blk 0 cap d w eg hcmp hH hblk (by rw [hds]; exact hsz)
  rw [hds] at hcall
  refine hcall.mono ?_
  rintro e w' ⟨rfl, D, n, os, ⟨hDs, _, hDp⟩, hDo, rfl⟩
  rw [hds] at hDs
  refine ⟨rfl, D.toList.map xs.get, ?_, ?_, ?_, sortWorld_below hlo hblk⟩
  · have e1 : (D.extract 0 xs.length).toList = D.toList := by simp [← hDs]
    have e2 : (d.extract 0 xs.length).toList = d.toList := by simp [← hds]
    rw [e1, e2] at hDp
    have h3 := hDp.map xs.get
    rw [hdl] at h3
    have e3 : (List.finRange xs.length).map xs.get = xs := by
      apply List.ext_getElem
      · simp
      · intro i _ _; simp
    rw [e3] at h3
    exact h3
  · rw [List.pairwise_map, List.pairwise_iff_getElem]
    intro i j hi hj hij
    have hi' : i < D.size := by simpa using hi
    have hj' : j < D.size := by simpa using hj
    have h3 := hDo i j (Nat.zero_le _) hij (by omega)
    rw [getElem!_pos D i hi', getElem!_pos D j hj'] at h3
    unfold ltOf at h3
    rw [decide_eq_false_iff_not] at h3
    simpa using h3
  · refine ⟨(D.toList.map f).flatten, ?_, fun _ => ⟨blk, 0, rfl, ⟨hlo, ?_⟩, ?_⟩⟩
    · refine RdL.flat (xs := xs) (fun i => C.keep (S := fun b => (base ≤ b ∧ b < w.heap.size) ∧ b ≠ blk) (hkeep n os D) (fun b hb => ⟨hb.1.1, Nat.lt_of_lt_of_le hb.1.2 (size_sortWorldK_c f C.size w blk 0 n D os)⟩) (h1 i)) D.toList
    · exact Nat.lt_of_lt_of_le hblk (size_sortWorldK_c f C.size w blk 0 n D os)
    · have hH2 := holdsK_sortWorldK_c f C.size w blk 0 d D n os hH hblk (by rw [hds]; exact hDs)
      intro t u hu
      have ht : t < D.size * C.size := by
        have h3 := (List.getElem?_eq_some_iff.1 hu).1
        have h4 : (D.toList.map f).flatten.length = D.size * C.size := by
          have h5 := (RdL.flat h1 D.toList).length
          rw [h5, List.length_map, Array.length_toList]
        omega
      have hdv : t / C.size < D.size := Nat.div_lt_of_lt_mul (by rw [Nat.mul_comm]; exact ht)
      have h3 := hH2 t (by rw [size_flatK]; exact ht)
      rw [hget D t ht, getElem!_pos D _ hdv] at h3
      rw [flat_get f hlen hp D.toList t (by simpa using ht) (by simpa using hdv)] at hu
      rw [getElem!_pos (f D[t / C.size]) _ (by rw [hlen]; exact hmod t)] at h3
      rw [List.getElem?_eq_getElem (by rw [hlen]; exact hmod t)] at hu
      cases hu
      simpa using h3

end

end Go.Proofs.YteoodmilcpmmpaaGreat
