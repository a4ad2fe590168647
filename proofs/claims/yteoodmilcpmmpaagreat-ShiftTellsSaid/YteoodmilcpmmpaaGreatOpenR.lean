/-
  A row's last step where the world's elder blocks stand as they stood.
  Arguments opened: what a reading says of the memory.
  A row's last step, the arguments as they stood; what the rows' proofs share.
  More kinds of arguments opened: whole numbers, stamps, lists of them, lists of entries.
  Arguments opened: lists of spans, times.
  Arguments opened: operations, lists of them, lists of runs.
  Slices of runs as arguments. No walk in it.
-/
import Derived.Test.YteoodmilcpmmpaaGreatRows
import Derived.Test.YteoodmilcpmmpaaGreatBase
import Derived.WalkKit
import Derived.ProofKit
import Derived.OpenShut
import Derived.Below
import Derived.ChangeSame
import Derived.Deep.Slices
import Derived.Deep.Fields
import Derived.Carry
import Derived.SizedLaws
import Derived.Test.YteoodmilcpmmpaaGreatRunB
namespace Go.Proofs.YteoodmilcpmmpaaGreat

open Go.ChangeShapes Go.WideShapes Go.ChangeAt Go.RowKit

end Go.Proofs.YteoodmilcpmmpaaGreat

namespace Go.Proofs.YteoodmilcpmmpaaGreat

open Go.ChangeShapes Go.WideShapes Go.ChangeAt Go.RowKit Go.Deep

section

variable {α : Type} {C : Codec α} {H : Type} {enc : TypeId × Value → H} {w : World}

abbrev Rd (enc : TypeId × Value → H) (w : World) (n : Nat) (t : TypeId) (cs : List Value) (x : DataW H × List MemPlace) : Prop := DataW.trod enc Tryz.prog w 0 (fun _ => true) true n t cs = some x

theorem addr_of_cell {a : Addr} {u : Value} (h : w.cell? a = some u) : a = ⟨a.block, a.off, none⟩ := by
  unfold World.cell? at h
  split at h
  · split at h
    · cases h
    · rename_i hs
      obtain ⟨b, o, s⟩ := a
      cases s with
      | none => rfl
      | some z => simp at hs
  · cases h

theorem add_add (a : Addr) (i j : Nat) : (a.add i).add j = a.add (i + j) := by
  unfold Addr.add
  by_cases hi : i = 0
  · subst hi; simp
  · by_cases hj : j = 0
    · subst hj; simp [hi]
    · simp [hi, hj]; omega

theorem add_plain (b off j : Nat) : (⟨b, off, none⟩ : Addr).add j = ⟨b, off + j, none⟩ := by
  unfold Addr.add
  by_cases hj : j = 0
  · subst hj; simp
  · simp [hj]

/-- All that is read within the reach. -/
def Fits (t : TypeId) (d : DataW H) : Prop := ∀ n ∈ d.weights Tryz.prog t, n ≤ reachBytes

theorem weightsAll_mem {P : Program} {e : TypeId} {d : DataW H} {n : Nat} (hn : n ∈ d.weights P e) : ∀ {l : List (DataW H)}, d ∈ l → n ∈ DataW.weightsAll P e l := by
  intro l
  induction l with
  | nil => intro h; cases h
  | cons y l ih =>
    intro h
    simp only [DataW.weightsAll, List.mem_append]
    rcases List.mem_cons.1 h with rfl | h
    · exact .inl hn
    · exact .inr (ih h)

/-- A slice's reading, an element's being known. -/
theorem r_of_slice {t e : TypeId} (ht : Tryz.prog.underlying t = some (.slice e)) (hC : Tryz.prog.cellsOf e = C.size)
    {Q : α → Prop} (helem : ∀ n cs x, Rd enc w n e cs x → w.noneFrozen x.2 → Fits e x.1 → ∃ v, C.rd w (Fresh 0 w) v cs ∧ Q v) {fuel : Nat} {cs : List Value} {x : DataW H × List MemPlace} (h : Rd enc w fuel t cs x) (hz : w.noneFrozen x.2) (hq : Fits t x.1) :
    ∃ A c xs, cs = [.slice A xs.length c] ∧ xs.length ≤ c ∧ c ≤ maxLen ∧ R C 0 w A xs ∧ xs.length * Tryz.prog.bytesOf e ≤ reachBytes ∧ ∀ v ∈ xs, Q v := by
  rcases open_slice ht h with ⟨rfl, rfl⟩ | ⟨a, len, cap, m, n, D, Pl, rfl, hb, hl, hm, hmm, rfl, hi⟩
  · exact ⟨none, 0, [], rfl, Nat.le_refl _, Nat.zero_le _, R.nil, by simp, fun v hv => by cases hv⟩
  · simp only [if_true] at hmm
    subst hmm
    have hbig : len * Tryz.prog.bytesOf e ≤ reachBytes := by
      have := hq ((len + (m - len)) * Tryz.prog.bytesOf e) (by simp [DataW.weights, ht])
      exact Nat.le_trans (Nat.mul_le_mul_right _ (by omega)) this
    have hlist : ∀ k, k ≤ len → ∃ (xs : List α) (cells : List Value), (∀ v ∈ xs, Q v) ∧ xs.length = k ∧ RdL C w (Fresh 0 w) xs cells ∧ ∀ j u, cells[j]? = some u → w.cell? (a.add j) = some u := by
      intro k
      induction k with
      | zero => intro _; exact ⟨[], [], fun v hv => (by cases hv), rfl, rfl, fun j u hu => by simp at hu⟩
      | succ k ih =>
        intro hk
        obtain ⟨xs, cells, h0, h1, h2, h3⟩ := ih (by omega)
        obtain ⟨cs', hc, ht'⟩ := hi k (by omega)
        obtain ⟨v, hv, hQ⟩ := helem n cs' _ ht' (fun b off hp => hz b off (List.mem_append.2 (.inr (List.mem_flatMap.2 ⟨k, List.mem_range.2 (by omega), hp⟩)))) (fun q hqn => hq q (by
          simp only [DataW.weights, ht, List.mem_cons, List.mem_append]
          exact .inr (.inl (weightsAll_mem hqn (List.mem_map.2 ⟨k, List.mem_range.2 (by omega), rfl⟩)))))
        obtain ⟨_, hcl, hat⟩ := World.cells?_some hc
        refine ⟨xs ++ [v], cells ++ cs', fun u hu => (List.mem_append.1 hu).elim (h0 u) (fun hu => by simp at hu; subst hu; exact hQ), by simp [h1], h2.append (RdL.one1 hv), fun j u hu => ?_⟩
        have hcells : cells.length = k * C.size := by rw [h2.length, h1]
        by_cases hj : j < cells.length
        · rw [List.getElem?_append_left hj] at hu
          exact h3 j u hu
        · rw [List.getElem?_append_right (by omega)] at hu
          have hlt : j - cells.length < cs'.length := (List.getElem?_eq_some_iff.1 hu).1
          have := hat (j - cells.length) (by omega)
          rw [add_add, hC, show k * C.size + (j - cells.length) = j by omega] at this
          rw [this]
          exact hu
    obtain ⟨xs, cells, h0, h1, h2, h3⟩ := hlist len (Nat.le_refl _)
    subst h1
    refine ⟨some a, m, xs, rfl, hl, hm, ⟨cells, h2, fun hne => ?_⟩, hbig, h0⟩
    obtain ⟨u0, hu0⟩ : ∃ u, cells[0]? = some u := by
      cases cells with
      | nil => exact absurd rfl hne
      | cons u _ => exact ⟨u, rfl⟩
    have hc0 := h3 0 u0 hu0
    rw [show a.add 0 = a from by simp [Addr.add]] at hc0
    have ha := addr_of_cell hc0
    obtain ⟨b, off, s⟩ := a
    simp only [Addr.mk.injEq, true_and] at ha
    subst ha
    refine ⟨b, off, rfl, ⟨Nat.zero_le _, World.block_lt_of_cell? w _ hc0⟩, fun j u hu => ?_⟩
    have hj : j < cells.length := (List.getElem?_eq_some_iff.1 hu).1
    have hcl := h2.length
    refine ⟨by rw [← add_plain]; exact h3 j u hu, hz b (off + j) (List.mem_append.2 (.inl (List.mem_map.2 ⟨j, List.mem_range.2 ?_, rfl⟩)))⟩
    rw [hC]
    have : xs.length * C.size ≤ m * C.size := Nat.mul_le_mul_right _ hl
    omega

def QBool (_ : Bool) : Prop := True

def QId (_ : Id) : Prop := True

def QSpan (_ : Span) : Prop := True

def QTimes (x : Times) : Prop := x.s.length ≤ 140737488355328

def QEntry (x : Entry) : Prop := x.snap.length ≤ 140737488355328 ∧ (∀ y ∈ x.snap, y.s.length ≤ 140737488355328) ∧ x.got.length ≤ 140737488355328

theorem rd_bool : ∀ n cs x, Rd enc w n 4 cs x → w.noneFrozen x.2 → Fits 4 x.1 → ∃ v, cBool.rd w (Fresh 0 w) v cs ∧ QBool v := fun n cs x h _ hq => by
  obtain ⟨b, rfl, _⟩ := DataW.trod_bool Tryz.underlying4 h
  exact ⟨b, rfl, trivial⟩

theorem wf_int {k : IntKind} {n : Int} (h : (Lit.int k n).wf = true) : k.min ≤ n ∧ n ≤ k.max := by
  unfold Lit.wf at h
  rw [Bool.and_eq_true] at h
  exact ⟨of_decide_eq_true h.1, of_decide_eq_true h.2⟩

theorem len_two {β : Type} {l : List β} (h : l.length = 2) : ∃ a b, l = [a, b] := by
  match l, h with
  | [a, b], _ => exact ⟨a, b, rfl⟩

theorem len_eight {β : Type} {l : List β} (h : l.length = 8) : ∃ a0 a1 a2 a3 a4 a5 a6 a7, l = [a0, a1, a2, a3, a4, a5, a6, a7] := by
  match l, h with
  | [a0, a1, a2, a3, a4, a5, a6, a7], _ => exact ⟨a0, a1, a2, a3, a4, a5, a6, a7, rfl⟩

noncomputable def fieldsOf (t : TypeId) : Option (Array (TypeId × Nat)) := match Tryz.prog.underlying t with
  | some (.struct fs) => some (fs.map fun f => (f.type, f.offset))
  | _ => none

theorem struct_fields {t : TypeId} {gs : Array (TypeId × Nat)} (hg : fieldsOf t = some gs) {n : Nat} {cs : List Value} {x : DataW H × List MemPlace} (h : Rd enc w n t cs x) (hz : w.noneFrozen x.2) (hq : Fits t x.1) :
    ∃ n', cs.length = Tryz.prog.cellsOf t ∧ ∀ (i : Nat) (q : TypeId × Nat), gs[i]? = some q → ∃ y, Rd enc w n' q.1 ((cs.drop q.2).take (Tryz.prog.cellsOf q.1)) y ∧ w.noneFrozen y.2 ∧ Fits q.1 y.1 := by
  unfold fieldsOf at hg
  generalize ht : Tryz.prog.underlying t = u at hg
  split at hg
  · rename_i fs
    obtain rfl := Option.some.inj hg
    obtain ⟨ys, n', _, hx, hl, hy, hf⟩ := DataW.trod_struct ht h
    refine ⟨n', hl, fun i q hgq => ?_⟩
    rw [Array.getElem?_map] at hgq
    obtain ⟨f, hf0, rfl⟩ := Option.map_eq_some_iff.1 hgq
    have hi : i < fs.size := (Array.getElem?_eq_some_iff.1 hf0).1
    have hyi : ys[i]? = some (ys[i]'(by omega)) := List.getElem?_eq_getElem (by omega)
    refine ⟨ys[i]'(by omega), (hf i f hf0).trans hyi, fun b off hp => hz b off ?_, fun q hqn => hq q ?_⟩
    · rw [hx]
      exact List.mem_flatMap.2 ⟨_, List.mem_of_getElem? hyi, hp⟩
    · rw [hx]
      simp only [DataW.weights, ht]
      refine DataW.weights_mem_each (j := i) (t := f.type) ?_ ?_ q hqn
      · rw [List.getElem?_map, Array.getElem?_toList, hf0]; rfl
      · rw [List.getElem?_map, hyi]; rfl
  · cases hg

theorem fieldsId : fieldsOf 25 = some #[(23, 0), (5, 1)] := by kernel_rfl

theorem fieldsSpan : fieldsOf 233 = some #[(23, 0), (23, 1)] := by kernel_rfl

theorem fieldsTimes : fieldsOf 167 = some #[(5, 0), (165, 1)] := by kernel_rfl

theorem fieldsEntry : fieldsOf 62 = some #[(25, 0), (4, 2), (4, 3), (3, 4), (4, 5), (59, 6), (60, 7)] := by kernel_rfl

theorem un32 : Tryz.prog.underlying 23 = some (.int .u32) := by kernel_rfl

theorem un8 : Tryz.prog.underlying 5 = some (.int .u8) := by kernel_rfl

theorem unSpans : Tryz.prog.underlying 165 = some (.slice 233) := by kernel_rfl

theorem unTimess : Tryz.prog.underlying 59 = some (.slice 167) := by kernel_rfl

theorem unBools : Tryz.prog.underlying 60 = some (.slice 4) := by kernel_rfl

theorem co32 : Tryz.prog.cellsOf 23 = 1 := by kernel_rfl

theorem co8 : Tryz.prog.cellsOf 5 = 1 := by kernel_rfl

theorem coBool : Tryz.prog.cellsOf 4 = 1 := by kernel_rfl

theorem coInt : Tryz.prog.cellsOf 3 = 1 := by kernel_rfl

theorem coId : Tryz.prog.cellsOf 25 = 2 := by kernel_rfl

theorem coSpan : Tryz.prog.cellsOf 233 = 2 := by kernel_rfl

theorem coTimes : Tryz.prog.cellsOf 167 = 2 := by kernel_rfl

theorem coEntry : Tryz.prog.cellsOf 62 = 8 := by kernel_rfl

theorem coSpans : Tryz.prog.cellsOf 165 = 1 := by kernel_rfl

theorem coTimess : Tryz.prog.cellsOf 59 = 1 := by kernel_rfl

theorem coBools : Tryz.prog.cellsOf 60 = 1 := by kernel_rfl

theorem byS : Tryz.prog.bytesOf 233 = 8 := by kernel_rfl

theorem byT : Tryz.prog.bytesOf 167 = 32 := by kernel_rfl

theorem byB : Tryz.prog.bytesOf 4 = 1 := by kernel_rfl

theorem rd_id : ∀ n cs x, Rd enc w n 25 cs x → w.noneFrozen x.2 → Fits 25 x.1 → ∃ v, cId.rd w (Fresh 0 w) v cs ∧ QId v := fun n cs x h hz hq => by
  obtain ⟨n', hl, hf⟩ := struct_fields fieldsId h hz hq
  rw [coId] at hl
  obtain ⟨a, b, rfl⟩ := len_two hl
  obtain ⟨_, h0, _⟩ := hf 0 (23, 0) rfl
  obtain ⟨_, h1, _⟩ := hf 1 (5, 1) rfl
  simp only [co32, co8] at h0 h1
  obtain ⟨t, e0, _, w0⟩ := DataW.trod_int un32 h0
  obtain ⟨r, e1, _, w1⟩ := DataW.trod_int un8 h1
  simp at e0 e1
  subst e0 e1
  obtain ⟨p0, p1⟩ := wf_int w0
  obtain ⟨q0, q1⟩ := wf_int w1
  exact ⟨⟨t, r⟩, ⟨⟨p0, Int.lt_add_one_of_le p1, q0, Int.lt_add_one_of_le q1⟩, rfl⟩, trivial⟩

theorem rd_span : ∀ n cs x, Rd enc w n 233 cs x → w.noneFrozen x.2 → Fits 233 x.1 → ∃ v, cSpan.rd w (Fresh 0 w) v cs ∧ QSpan v := fun n cs x h hz hq => by
  obtain ⟨n', hl, hf⟩ := struct_fields fieldsSpan h hz hq
  rw [coSpan] at hl
  obtain ⟨a, b, rfl⟩ := len_two hl
  obtain ⟨_, h0, _⟩ := hf 0 (23, 0) rfl
  obtain ⟨_, h1, _⟩ := hf 1 (23, 1) rfl
  simp only [co32] at h0 h1
  obtain ⟨t, e0, _, w0⟩ := DataW.trod_int un32 h0
  obtain ⟨r, e1, _, w1⟩ := DataW.trod_int un32 h1
  simp at e0 e1
  subst e0 e1
  obtain ⟨p0, p1⟩ := wf_int w0
  obtain ⟨q0, q1⟩ := wf_int w1
  exact ⟨⟨t, r⟩, ⟨⟨p0, Int.lt_add_one_of_le p1, q0, Int.lt_add_one_of_le q1⟩, rfl⟩, trivial⟩

theorem rd_times : ∀ n cs x, Rd enc w n 167 cs x → w.noneFrozen x.2 → Fits 167 x.1 → ∃ v, cTimes.rd w (Fresh 0 w) v cs ∧ QTimes v := fun n cs x h hz hq => by
  obtain ⟨n', hl, hf⟩ := struct_fields fieldsTimes h hz hq
  rw [coTimes] at hl
  obtain ⟨a, b, rfl⟩ := len_two hl
  obtain ⟨_, h0, _⟩ := hf 0 (5, 0) rfl
  obtain ⟨_, h1, z1, k1⟩ := hf 1 (165, 1) rfl
  simp only [co8, coSpans] at h0 h1
  obtain ⟨r, e0, _, w0⟩ := DataW.trod_int un8 h0
  obtain ⟨A, c, xs, e1, l1, l2, hr, hbg, _⟩ := r_of_slice unSpans coSpan rd_span h1 z1 k1
  rw [byS] at hbg
  unfold reachBytes at hbg
  simp at e0 e1
  subst e0 e1
  obtain ⟨p0, p1⟩ := wf_int w0
  exact ⟨⟨r, xs⟩, ⟨⟨p0, Int.lt_add_one_of_le p1⟩, A, c, l1, l2, rfl, hr⟩, show xs.length ≤ 140737488355328 by omega⟩

theorem rd_entry : ∀ n cs x, Rd enc w n 62 cs x → w.noneFrozen x.2 → Fits 62 x.1 → ∃ v, cEntry.rd w (Fresh 0 w) v cs ∧ QEntry v := fun n cs x h hz hq => by
  obtain ⟨n', hl, hf⟩ := struct_fields fieldsEntry h hz hq
  rw [coEntry] at hl
  obtain ⟨a0, a1, a2, a3, a4, a5, a6, a7, rfl⟩ := len_eight hl
  obtain ⟨_, h0, z0, k0⟩ := hf 0 (25, 0) rfl
  obtain ⟨_, h2, _⟩ := hf 1 (4, 2) rfl
  obtain ⟨_, h3, _⟩ := hf 2 (4, 3) rfl
  obtain ⟨_, h4, _⟩ := hf 3 (3, 4) rfl
  obtain ⟨_, h5, _⟩ := hf 4 (4, 5) rfl
  obtain ⟨_, h6, z6, k6⟩ := hf 5 (59, 6) rfl
  obtain ⟨_, h7, z7, k7⟩ := hf 6 (60, 7) rfl
  simp only [coId, coBool, coInt, coTimess, coBools] at h0 h2 h3 h4 h5 h6 h7
  obtain ⟨id, ⟨hid, e0⟩, _⟩ := rd_id _ _ _ h0 z0 k0
  obtain ⟨b2, e2, _⟩ := DataW.trod_bool Tryz.underlying4 h2
  obtain ⟨b3, e3, _⟩ := DataW.trod_bool Tryz.underlying4 h3
  obtain ⟨u, e4, _, w4⟩ := DataW.trod_int Tryz.underlying3 h4
  obtain ⟨b5, e5, _⟩ := DataW.trod_bool Tryz.underlying4 h5
  obtain ⟨A, c, xs, e6, l1, l2, hr, hbg, hqs⟩ := r_of_slice unTimess coTimes rd_times h6 z6 k6
  rw [byT] at hbg
  unfold reachBytes at hbg
  obtain ⟨B, d, ys, e7, l3, l4, hs, hbh, _⟩ := r_of_slice unBools coBool rd_bool h7 z7 k7
  rw [byB] at hbh
  unfold reachBytes at hbh
  simp at e0 e2 e3 e4 e5 e6 e7
  obtain ⟨e0, e1⟩ := e0
  subst e0 e1 e2 e3 e4 e5 e6 e7
  obtain ⟨q0, q1⟩ := wf_int w4
  exact ⟨⟨id, b2, b3, u, b5, xs, ys⟩, ⟨⟨hid, q0, q1⟩, A, c, B, d, l1, l2, l3, l4, rfl, hr, hs⟩, show xs.length ≤ 140737488355328 by omega, hqs, show ys.length ≤ 140737488355328 by omega⟩

set_option maxRecDepth 100000 in
theorem arg_slice {t e : TypeId} (ht : Tryz.prog.underlying t = some (.slice e)) (hC : Tryz.prog.cellsOf e = C.size)
    {Q : α → Prop} (helem : ∀ n cs x, Rd enc w n e cs x → w.noneFrozen x.2 → Fits e x.1 → ∃ v, C.rd w (Fresh 0 w) v cs ∧ Q v) {r : Reach} {b0 : Nat} {v : Value} {d : DataW H} {p : List MemPlace} (hv : Value.okWide Tryz.prog w r b0 t v)
    (h : DataW.Trod enc Tryz.prog w 0 (fun _ => true) true t v d p) (hz : w.noneFrozen p) (hq : Fits t d) : ∃ A c xs, v = .slice A xs.length c ∧ xs.length ≤ c ∧ c ≤ maxLen ∧ R C 0 w A xs ∧ xs.length * Tryz.prog.bytesOf e ≤ reachBytes ∧ ∀ v ∈ xs, Q v := by
  obtain ⟨A, l, c, rfl⟩ := okWide_slice ht hv
  obtain ⟨fuel, h⟩ := h
  obtain ⟨A', c', xs, e, h1, h2, hr, h3, h4⟩ := r_of_slice ht hC helem h hz hq
  simp only [Value.cells, List.cons.injEq, Value.slice.injEq, and_true] at e
  obtain ⟨rfl, rfl, rfl⟩ := e
  exact ⟨A, c, xs, rfl, h1, h2, hr, h3, h4⟩

/-- The arguments read as they read. -/
theorem args_stay (hl : laidOutB Tryz.prog = true) {W W' : World} (hb : Bl W W') : ∀ {ts : List TypeId} {vs : List Value} {ds : List (DataW H)} {ps : List MemPlace}, (∀ t ∈ ts, Tryz.prog.readableRec t = true ∧ t < Tryz.prog.types.size) →
    DataW.TrodAll enc Tryz.prog W 0 (fun _ => true) true ts vs ds ps → (∀ x ∈ ps, x.block < W.heap.size) → DataW.TrodAll enc Tryz.prog W' 0 (fun b => decide (b < W.heap.size)) true ts vs ds ps := by
  intro ts
  induction ts with
  | nil => intro vs ds ps _ h _; cases vs <;> cases ds <;> exact h
  | cons t ts ih =>
    intro vs ds ps ht h hlt
    obtain ⟨v, vs', d, ds', p, q, rfl, rfl, rfl, h1, h2⟩ := trodAll_cons h
    have := ht t (by simp)
    exact ⟨p, q, Below.trod hl this.1 this.2 h1 hb (fun x hx => hlt x (List.mem_append.2 (.inl hx))), ih (fun t' h' => ht t' (by simp [h'])) h2 (fun x hx => hlt x (List.mem_append.2 (.inr hx))), rfl⟩

end

end Go.Proofs.YteoodmilcpmmpaaGreat

namespace Go.Proofs.YteoodmilcpmmpaaGreat

open Go.ChangeShapes Go.WideShapes Go.ChangeAt Go.RowKit

theorem post_bl2 {H : Type} {enc : TypeId × Value → H} {P : Program} {f : Func} {s : ChangeSpec} {W W' : World} {args : Array Value} {v : Value} {ds gs : List (DataW H)} {before pa pv : List MemPlace}
    (hW : DataW.Whole enc P f.params.toList s.vars false W args.toList ds gs before) (hb : Bl W W') (hps : before = pa ++ pv)
    (hres : ∀ (b : Nat) (sp : Nat → Bool) (hd : Bool), DataW.TrodAll enc P W' b sp hd f.resultTypes.toList (v.resultList f.resultTypes.size) (s.fn H (ds ++ gs)).results [])
    (hargs : DataW.TrodAll enc P W' 0 (fun b => decide (b < W.heap.size)) true f.params.toList args.toList (s.fn H (ds ++ gs)).args pa)
    (hvars : ∀ sp : Nat → Bool, (∀ p ∈ before, sp p.block = true) → DataW.TrodVars enc P W' sp s.vars (s.fn H (ds ++ gs)).vars pv) :
    s.post enc P f false true false false W args v W' := by
  have hbl : Below W.heap.size W W' := hb
  have hin : ∀ p ∈ before, p.block < W.heap.size := fun p hp => hW.lt p hp
  have hframe : W.keptBut W' (· ∈ before) := hbl.frame (· ∈ before)
  refine ⟨ds, gs, before, [], pa, pv, hW, hres _ _ _, hargs, hvars _ (fun p hp => decide_eq_true (hin p hp)), ?_, fun h => by cases h⟩
  refine World.keptBut_mono (fun p hp => ⟨hp, ?_⟩) hframe
  rw [hps] at hp
  exact .inr (List.mem_append.1 hp)

theorem ownKnobNone : ownKnob Tryz.prog.godebug = none := by kernel_rfl

theorem laidOutTry : laidOutB Tryz.prog = true := by kernel_rfl

theorem fits_of {H : Type} {ts : List TypeId} {ds : List (DataW H)} (h : (DataW.weightsEach Tryz.prog ts ds).all (· ≤ reachBytes) = true) (j : Nat) {t : TypeId} {d : DataW H} (ht : ts[j]? = some t) (hd : ds[j]? = some d) : Fits t d := fun n hn => by
  have := List.all_eq_true.1 h _ (DataW.weights_mem_each ht hd n hn)
  simpa using this

end Go.Proofs.YteoodmilcpmmpaaGreat

namespace Go.Proofs.YteoodmilcpmmpaaGreat

open Go.ChangeShapes Go.WideShapes Go.ChangeAt Go.RowKit Go.Deep

section

variable {H : Type} {enc : TypeId × Value → H} {w : World}

theorem unEntries : Tryz.prog.underlying 56 = some (.slice 62) := by kernel_rfl

theorem byE : Tryz.prog.bytesOf 62 = 80 := by kernel_rfl

theorem entries_len {n : Nat} (h : n * Tryz.prog.bytesOf 62 ≤ reachBytes) : n ≤ 140737488355328 := by
  rw [byE] at h
  unfold reachBytes at h
  omega

theorem read_entries : Tryz.prog.readableRec 56 = true ∧ 56 < Tryz.prog.types.size := ⟨by kernel_rfl, of_decide_eq_true (by kernel_rfl)⟩

end

section

variable {H : Type} {enc : TypeId × Value → H} {w : World}

end

end Go.Proofs.YteoodmilcpmmpaaGreat

namespace Go.Proofs.YteoodmilcpmmpaaGreat

open Go.ChangeShapes Go.WideShapes Go.ChangeAt Go.RowKit Go.Deep

section

variable {H : Type} {enc : TypeId × Value → H} {w : World}

end

end Go.Proofs.YteoodmilcpmmpaaGreat

namespace Go.Proofs.YteoodmilcpmmpaaGreat

open Go.ChangeShapes Go.WideShapes Go.ChangeAt Go.RowKit Go.Deep

section

variable {H : Type} {enc : TypeId × Value → H} {w : World}

def QRun (_ : Run) : Prop := True

def QOp (x : Op) : Prop := x.pl.length ≤ 8796093022208

theorem fieldsRun : fieldsOf 40 = some #[(23, 0), (5, 1), (3, 2)] := by kernel_rfl

theorem fieldsOp : fieldsOf 47 = some #[(5, 0), (25, 1), (26, 3), (3, 4)] := by kernel_rfl

theorem unRuns : Tryz.prog.underlying 26 = some (.slice 40) := by kernel_rfl

theorem unOps : Tryz.prog.underlying 22 = some (.slice 47) := by kernel_rfl

theorem coRun : Tryz.prog.cellsOf 40 = 3 := by kernel_rfl

theorem coOp : Tryz.prog.cellsOf 47 = 5 := by kernel_rfl

theorem coRuns : Tryz.prog.cellsOf 26 = 1 := by kernel_rfl

theorem byR : Tryz.prog.bytesOf 40 = 16 := by kernel_rfl

theorem byO : Tryz.prog.bytesOf 47 = 48 := by kernel_rfl

theorem len_three {β : Type} {l : List β} (h : l.length = 3) : ∃ a b c, l = [a, b, c] := by
  match l, h with
  | [a, b, c], _ => exact ⟨a, b, c, rfl⟩

theorem len_five {β : Type} {l : List β} (h : l.length = 5) : ∃ a b c d e, l = [a, b, c, d, e] := by
  match l, h with
  | [a, b, c, d, e], _ => exact ⟨a, b, c, d, e, rfl⟩

theorem rd_run : ∀ n cs x, Rd enc w n 40 cs x → w.noneFrozen x.2 → Fits 40 x.1 → ∃ v, cRun.rd w (Fresh 0 w) v cs ∧ QRun v := fun n cs x h hz hq => by
  obtain ⟨n', hl, hf⟩ := struct_fields fieldsRun h hz hq
  rw [coRun] at hl
  obtain ⟨a, b, c, rfl⟩ := len_three hl
  obtain ⟨_, h0, _⟩ := hf 0 (23, 0) rfl
  obtain ⟨_, h1, _⟩ := hf 1 (5, 1) rfl
  obtain ⟨_, h2, _⟩ := hf 2 (3, 2) rfl
  simp only [co32, co8, coInt] at h0 h1 h2
  obtain ⟨t, e0, _, w0⟩ := DataW.trod_int un32 h0
  obtain ⟨r, e1, _, w1⟩ := DataW.trod_int un8 h1
  obtain ⟨m, e2, _, w2⟩ := DataW.trod_int Tryz.underlying3 h2
  simp at e0 e1 e2
  subst e0 e1 e2
  obtain ⟨p0, p1⟩ := wf_int w0
  obtain ⟨q0, q1⟩ := wf_int w1
  obtain ⟨r0, r1⟩ := wf_int w2
  exact ⟨⟨t, r, m⟩, ⟨⟨p0, Int.lt_add_one_of_le p1, q0, Int.lt_add_one_of_le q1, r0, r1⟩, rfl⟩, trivial⟩

theorem rd_op : ∀ n cs x, Rd enc w n 47 cs x → w.noneFrozen x.2 → Fits 47 x.1 → ∃ v, cOp.rd w (Fresh 0 w) v cs ∧ QOp v := fun n cs x h hz hq => by
  obtain ⟨n', hl, hf⟩ := struct_fields fieldsOp h hz hq
  rw [coOp] at hl
  obtain ⟨a0, a1, a2, a3, a4, rfl⟩ := len_five hl
  obtain ⟨_, h0, _⟩ := hf 0 (5, 0) rfl
  obtain ⟨_, h1, z1, k1⟩ := hf 1 (25, 1) rfl
  obtain ⟨_, h3, z3, k3⟩ := hf 2 (26, 3) rfl
  obtain ⟨_, h4, _⟩ := hf 3 (3, 4) rfl
  simp only [co8, coId, coRuns, coInt] at h0 h1 h3 h4
  obtain ⟨k, e0, _, w0⟩ := DataW.trod_int un8 h0
  obtain ⟨id, ⟨hid, e1⟩, _⟩ := rd_id _ _ _ h1 z1 k1
  obtain ⟨A, c, xs, e3, l1, l2, hr, hbg, _⟩ := r_of_slice unRuns coRun rd_run h3 z3 k3
  rw [byR] at hbg
  unfold reachBytes at hbg
  obtain ⟨p, e4, _, w4⟩ := DataW.trod_int Tryz.underlying3 h4
  simp at e0 e1 e3 e4
  obtain ⟨e1, e2⟩ := e1
  subst e0 e1 e2 e3 e4
  obtain ⟨q0, q1⟩ := wf_int w0
  obtain ⟨r0, r1⟩ := wf_int w4
  exact ⟨⟨k, id, xs, p⟩, ⟨⟨⟨q0, Int.lt_add_one_of_le q1⟩, hid, r0, r1⟩, A, c, l1, l2, rfl, hr⟩, show xs.length ≤ 8796093022208 by omega⟩

theorem ops_len {n : Nat} (h : n * Tryz.prog.bytesOf 47 ≤ reachBytes) : n ≤ 140737488355328 := by
  rw [byO] at h
  unfold reachBytes at h
  omega

theorem read_ops : Tryz.prog.readableRec 22 = true ∧ 22 < Tryz.prog.types.size := ⟨by kernel_rfl, of_decide_eq_true (by kernel_rfl)⟩

theorem read_op : Tryz.prog.readableRec 47 = true ∧ 47 < Tryz.prog.types.size := ⟨by kernel_rfl, of_decide_eq_true (by kernel_rfl)⟩

theorem unOp : ∃ fs, Tryz.prog.underlying 47 = some (.struct fs) := by
  have h := fieldsOp
  unfold fieldsOf at h
  generalize Tryz.prog.underlying 47 = u at h
  split at h
  · exact ⟨_, rfl⟩
  · cases h

set_option maxRecDepth 100000 in
theorem arg_op {r : Reach} {b0 : Nat} {v : Value} {d : DataW H} {p : List MemPlace} (hv : Value.okWide Tryz.prog w r b0 47 v)
    (h : DataW.Trod enc Tryz.prog w 0 (fun _ => true) true 47 v d p) (hz : w.noneFrozen p) (hq : Fits 47 d) :
    ∃ (x : Op) (A : Option Addr) (c : Nat), v = .agg #[.int .u8 x.kind, .int .u32 x.id.t, .int .u8 x.id.r, .slice A x.pl.length c, .int .i64 x.pt] ∧ x.ok ∧ x.pl.length ≤ c ∧ c ≤ maxLen ∧ R cRun 0 w A x.pl ∧ QOp x := by
  obtain ⟨fs, hs⟩ := unOp
  obtain ⟨cs, rfl, _⟩ := okWide_struct hs hv
  obtain ⟨fuel, h⟩ := h
  obtain ⟨x, ⟨hx, A, c, h1, h2, e, hr⟩, hQ⟩ := rd_op _ _ _ h hz hq
  refine ⟨x, A, c, ?_, hx, h1, h2, hr, hQ⟩
  obtain ⟨l⟩ := cs
  simp only [Value.cells] at e
  rw [e]
  rfl

end

end Go.Proofs.YteoodmilcpmmpaaGreat

namespace Go.Proofs.YteoodmilcpmmpaaGreat

open Go.ChangeShapes Go.WideShapes Go.ChangeAt Go.RowKit

end Go.Proofs.YteoodmilcpmmpaaGreat
