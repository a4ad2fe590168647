/-
  The walks of package span (but for sets), and of the references of layer 7.
-/
import Derived.Test.YteoodmilcpmmpaaGreatStamp
namespace Go.Proofs.YteoodmilcpmmpaaGreat

open Go.RowKit

def spansFrom (least : Int) : List Span → Bool
  | [] => true
  | x :: l => decide (least ≤ x.f) && decide (x.f ≤ x.t) && decide (x.t ≤ 1073741824) && spansFrom (x.t + 2) l

/-- May spans be? -/
def spansMay (l : List Span) : Bool := decide (l.length ≤ 1024) && spansFrom 1 l

/-- How many times they have. -/
def spansMany : List Span → Int
  | [] => 0
  | x :: l => x.t - x.f + 1 + spansMany l

/-- span.Count. -/
def spansCount (l : List Span) : Int := if spansMay l then spansMany l else 0

theorem drop_cons {α : Type} {l : List α} {k : Nat} {x : α} (h : l[k]? = some x) : l.drop k = x :: l.drop (k + 1) := by
  obtain ⟨hk, rfl⟩ := List.getElem?_eq_some_iff.1 h
  exact List.drop_eq_getElem_cons hk

theorem spansMany_le (l : List Span) : ∀ least, 1 ≤ least → spansFrom least l = true → 0 ≤ spansMany l ∧ spansMany l ≤ 1073741824 * l.length := by
  induction l with
  | nil => intro _ _ _; simp [spansMany]
  | cons x l ih =>
    intro least h0 h
    simp only [spansFrom, Bool.and_eq_true, decide_eq_true_eq] at h
    have := ih (x.t + 2) (by omega) h.2
    simp only [spansMany, List.length_cons]
    push_cast
    rw [Int.mul_add]
    omega

theorem spansFrom_bad {l rest : List Span} {least : Int} {k : Nat} {x : Span} (h : spansFrom 1 l = spansFrom least (l.drop k)) (hd : l.drop k = x :: rest) (hb : ¬ (least ≤ x.f ∧ x.f ≤ x.t ∧ x.t ≤ 1073741824)) : spansFrom 1 l = false := by
  rw [h, hd, spansFrom]
  by_cases h1 : least ≤ x.f <;> by_cases h2 : x.f ≤ x.t <;> by_cases h3 : x.t ≤ 1073741824 <;> simp_all <;> intros <;> omega

theorem spansFrom_good {l rest : List Span} {least : Int} {k : Nat} {x : Span} (h : spansFrom 1 l = spansFrom least (l.drop k)) (hd : l.drop k = x :: rest) (h1 : least ≤ x.f) (h2 : x.f ≤ x.t) (h3 : x.t ≤ 1073741824) : spansFrom 1 l = spansFrom (x.t + 2) rest := by
  rw [h, hd, spansFrom]
  simp [h1, h2, h3]

set_option maxHeartbeats 400000 in
theorem spanCheck (A : Option Addr) (c : Nat) (l : List Span) (w : World) (hl : l.length ≤ maxLen) (hA : R cSpan 0 w A l) :
    Calls Tryz.prog 212 #[.slice A l.length c] w fun e w' => e = .returned (.int .i64 (okOr 8 (spansMay l))) ∧ Bl w w' := by
  unfold maxLen at hl
  by_cases hbig : 1024 < l.length
  · have e1 : spansMay l = false := by unfold spansMay; simp; intro h; omega
    have E1 := hide e1; clear e1
    go_enter Tryz.func212, Tryz.ntmps212
    go_wp2
    go_ret
    exact ⟨ret_int (by rw [E1.out]; rfl), Bl.refl _⟩
  have e1 : spansMay l = spansFrom 1 l := by unfold spansMay; simp; intro _; omega
  have E1 := hide e1; clear e1
  go_enter Tryz.func212, Tryz.ntmps212
  go_wp2
  go_loopw [3, 11] (fun t i wr => Bl w wr ∧ ∃ (k : Nat) (least : Int), k ≤ l.length ∧ i = .int .i64 k ∧ t = .int .u32 least ∧ 0 ≤ least ∧ least ≤ 1073741826 ∧ Hid (spansFrom 1 l = spansFrom least (l.drop k))) (fun _ i _ => l.length - (intOf i).toNat)
  case atStart => exact ⟨Bl.refl _, 0, 1, Nat.zero_le _, rfl, rfl, by omega, by omega, rfl⟩
  case round =>
    obtain ⟨hbl, k, least, hk, rfl, rfl, hl0, hl1, hf⟩ := hrel
    by_cases hlt : k < l.length
    · have hR := hA.bl hbl
      obtain ⟨b, off, rfl, _, hb⟩ := hR.addr (by omega)
      obtain ⟨x, hx⟩ := get_lt hlt
      obtain ⟨_, ho, c0, c1⟩ := hR.span hx
      have hd := hide (drop_cons hx)
      clear hx
      obtain ⟨o0, o1, o2, o3⟩ := ho
      go_wp2
      all_goals first
        | (go_roundw
           case rel => exact ⟨hbl.alloc _, k + 1, _, by omega, by go_num, rfl, by omega, by omega, spansFrom_good hf.out hd.out (by omega) (by omega) (by omega)⟩
           case measure => simp [intOf]; omega)
        | (go_ret
           exact ⟨ret_int (by rw [E1.out, spansFrom_bad hf.out hd.out (by omega)]; rfl), hbl.alloc _⟩)
    · have hkl : l.length ≤ k := by omega
      go_wp2
      go_ret
      exact ⟨ret_int (by rw [E1.out, hf.out, List.drop_eq_nil_of_le hkl]; rfl), hbl⟩

def neqSpan (x y : Span) : Bool := !decide (x = y)

theorem run_neqSpan (x y : Span) (W : World) : (binOp .neq 233 (.agg #[.int .u32 x.f, .int .u32 x.t]) (.agg #[.int .u32 y.f, .int .u32 y.t])).run Tryz.prog W = .ok (.bool (neqSpan x y)) W := by
  have u3 := Tryz.underlying23
  have a3 := Tryz.isAgg23
  have z3 := Tryz.sizeOf23
  have hS : Tryz.prog.underlying 233 = some (.struct (Tryz.prog.fieldsOf 233)) := by kernel_rfl
  have hp : Tryz.prog.stoodInHeld 233 = false := by kernel_rfl
  rw [run_neq_struct, show (10000 : Nat) = 9999 + 1 from rfl, run_equalIn_agg W 9999 233 _ _ hS hp]
  simp only [Program.fieldsOf, Tryz.underlying233]
  go_simp
  have e : neqSpan x y = !(x.f == y.f && x.t == y.t) := by
    unfold neqSpan
    by_cases h : x = y
    · subst h; simp
    · have : ¬ (x.f = y.f ∧ x.t = y.t) := fun h' => h (Span.ext' h'.1 h'.2)
      simp [h]; by_cases h1 : x.f = y.f <;> by_cases h2 : x.t = y.t <;> simp_all
  rw [e]
  by_cases h1 : x.f = y.f <;> by_cases h2 : x.t = y.t <;> simp [h1, h2]

theorem neqSpan_false {x y : Span} (h : neqSpan x y = false) : x = y := by unfold neqSpan at h; simpa using h

theorem neqSpan_true {x y : Span} (h : neqSpan x y = true) : x ≠ y := by unfold neqSpan at h; simpa using h

/-- Two lists, up to k alike. -/
theorem drop_eq_step {α : Type} [DecidableEq α] {l m : List α} {k : Nat} {x y : α} (h : decide (l = m) = decide (l.drop k = m.drop k)) (hx : l[k]? = some x) (hy : m[k]? = some y) (e : x = y) :
    decide (l = m) = decide (l.drop (k + 1) = m.drop (k + 1)) := by
  rw [h, drop_cons hx, drop_cons hy, e]
  simp

theorem drop_ne_step {α : Type} [DecidableEq α] {l m : List α} {k : Nat} {x y : α} (h : decide (l = m) = decide (l.drop k = m.drop k)) (hx : l[k]? = some x) (hy : m[k]? = some y) (e : x ≠ y) :
    false = decide (l = m) := by
  rw [h, drop_cons hx, drop_cons hy]
  simp [e]

theorem drop_eq_end {α : Type} [DecidableEq α] {l m : List α} {k : Nat} (h : decide (l = m) = decide (l.drop k = m.drop k)) (hk : l.length ≤ k) (hm : m.length ≤ k) : true = decide (l = m) := by
  rw [h, List.drop_eq_nil_of_le hk, List.drop_eq_nil_of_le hm]; simp

theorem ne_of_length {α : Type} [DecidableEq α] {l m : List α} (h : l.length ≠ m.length) : false = decide (l = m) := by
  have : l ≠ m := fun e => h (by rw [e])
  simp [this]

/-- Whether two are the same list. -/
def same {α : Type} [DecidableEq α] (l m : List α) : Bool := decide (l = m)

theorem Tryz.infoSpan : (Tryz.prog.info? 233).map (fun i => (i.zero, i.size, i.bytes)) = some (some (.agg #[.int .u32 0, .int .u32 0]), 2, 8) := by kernel_rfl

theorem flatSpan : ∀ {w : World} {S : Nat → Prop} {x : Span} {cs : List Value}, cSpan.rd w S x cs → ∀ S', cSpan.rd w S' x cs := fun h _ => h

set_option maxHeartbeats 400000 in
theorem spanClone (A : Option Addr) (c : Nat) (l : List Span) (w : World) (hl : l.length ≤ 1048576) (hA : R cSpan 0 w A l) :
    Calls Tryz.prog 224 #[.slice A l.length c] w (New cSpan l w) := by
  obtain ⟨i0, hi, hz0, hz1, hz2⟩ := info_parts Tryz.infoSpan
  have hnil := fun (W : World) (a : Option Addr) (n c : Nat) => Lib.run_eql_slice_nil (P := Tryz.prog) W 165 233 a n c 0 0 Tryz.underlying165
  have hl : l.length ≤ 9223372036854775807 := by omega
  cases A with
  | none =>
    obtain ⟨_, _, _, h0⟩ := hA.all
    obtain rfl := h0 rfl
    go_enter Tryz.func224, Tryz.ntmps224
    go_wp2
    go_ret
    exact ⟨none, 0, rfl, Nat.le_refl _, by unfold maxLen; omega, R.nil, Bl.refl _⟩
  | some ad =>
    go_enter Tryz.func224, Tryz.ntmps224
    go_wp2_with (at_builtin
                 refine wpList_append_any2 (C := cSpan) (xs := []) (ys := l) rfl (.tmp 5) (.tmp 6) _ rfl 233 i0 _ 8 Tryz.underlying165 hi hz0 hz1 hz2 rfl (.slice (some ⟨w.heap.size, 0, none⟩) 0 0) w.heap.size rfl (Own.empty (Nat.le_refl _)) (some ad) l.length c rfl rfl ((hA.bl ((Bl.refl _).alloc _)).source flatSpan) ?c1 ?c2 ?c3 ?_
                 case c1 => simp only [List.length_nil, maxLen]; omega
                 case c2 => simp only [List.length_nil]; omega
                 case c3 => simp
                 intro v1 w1 hown hg _)
    go_ret
    have hbl := ((Bl.refl w).alloc _).app (Own.empty (C := cSpan) (e := 233) (Nat.le_refl _)) (Nat.le_refl _) hg
    simp only [List.nil_append] at hown
    obtain ⟨A', c', rfl, hr, h1, h2⟩ := hown.reads
    exact ⟨A', c', rfl, h1, h2, hr, hbl⟩

set_option maxHeartbeats 400000 in
theorem spanTwin (A : Option Addr) (c : Nat) (l : List Span) (w : World) (hl : l.length ≤ 1048576) (hA : R cSpan 0 w A l) :
    Calls Tryz.prog 196 #[.slice A l.length c] w (New cSpan l w) := by
  go_enter Tryz.func196, Tryz.ntmps196
  go_wp2_with (go_at_call 224; refine (spanClone A c l _ hl hA).mono ?_; rintro e w' ⟨A', c', rfl, h1, h2, hr, hb⟩)
  go_ret
  exact ⟨A', c', rfl, h1, h2, hr, hb⟩

set_option maxHeartbeats 400000 in
theorem spanCount (A : Option Addr) (c : Nat) (l : List Span) (w : World) (hl : l.length ≤ maxLen) (hA : R cSpan 0 w A l) :
    Calls Tryz.prog 211 #[.slice A l.length c] w fun e w' => e = .returned (.int .i64 (spansCount l)) ∧ Bl w w' := by
  have hl' := hl
  unfold maxLen at hl'
  cases hm : spansMay l
  · have e1 : spansCount l = 0 := by unfold spansCount; rw [hm]; rfl
    have E1 := hide e1
    clear e1
    go_enter Tryz.func211, Tryz.ntmps211
    go_wp2_with (go_at_call 212; refine (spanCheck A c l _ hl hA).mono ?_; rintro e w1 ⟨rfl, hb⟩; rw [hm, okOr_false])
    go_ret
    exact ⟨ret_int E1.out.symm, hb⟩
  · have e1 : spansCount l = spansMany l := by unfold spansCount; rw [hm]; rfl
    have hlen : l.length ≤ 1024 := by unfold spansMay at hm; simp at hm; exact hm.1
    have hfr : spansFrom 1 l = true := by unfold spansMay at hm; simp at hm; exact hm.2
    have E1 := hide e1
    have hfr := hide hfr
    clear e1
    go_enter Tryz.func211, Tryz.ntmps211
    go_wp2_with (go_at_call 212; refine (spanCheck A c l _ hl hA).mono ?_; rintro e w1 ⟨rfl, hb⟩; rw [hm, okOr_true])
    have hm := hide hm
    go_loopw [2, 10] (fun n i wr => Bl w wr ∧ ∃ (k : Nat) (least s : Int), k ≤ l.length ∧ i = .int .i64 k ∧ n = .int .i64 s ∧ 0 ≤ s ∧ s ≤ 1073741824 * k ∧ 1 ≤ least ∧ Hid (spansMany l = s + spansMany (l.drop k) ∧ spansFrom least (l.drop k) = true)) (fun _ i _ => l.length - (intOf i).toNat)
    case atStart => exact ⟨hb, 0, 1, 0, Nat.zero_le _, rfl, rfl, by omega, by omega, by omega, by simp, hfr.out⟩
    case round =>
      obtain ⟨hbl, k, least, s, hk, rfl, rfl, hs0, hs1, hl1, hf⟩ := hrel
      by_cases hlt : k < l.length
      · have hR := hA.bl hbl
        obtain ⟨b, off, rfl, _, hb⟩ := hR.addr (by omega)
        obtain ⟨x, hx⟩ := get_lt hlt
        obtain ⟨_, ho, c0, c1⟩ := hR.span hx
        have hd := hide (drop_cons hx)
        clear hx
        obtain ⟨o0, o1, o2, o3⟩ := ho
        have hx : least ≤ x.f ∧ x.f ≤ x.t ∧ x.t ≤ 1073741824 ∧ spansFrom (x.t + 2) (l.drop (k + 1)) = true := by
          have := hf.out.2
          rw [hd.out, spansFrom] at this
          simp only [Bool.and_eq_true, decide_eq_true_eq] at this
          exact ⟨this.1.1.1, this.1.1.2, this.1.2, this.2⟩
        obtain ⟨x0, x1, x2, x3⟩ := hx
        have x3 := hide x3
        have hb2 : 1073741824 * (k : Int) ≤ 1073741824 * 1024 := by omega
        go_wp2
        go_roundw
        case rel => exact ⟨hbl.alloc _, k + 1, x.t + 2, s + (x.t - x.f + 1), by omega, by go_num, rfl, by omega, by push_cast; omega, by omega, by rw [hf.out.1, hd.out, spansMany]; omega, x3.out⟩
        case measure => simp [intOf]; omega
      · have hkl : l.length ≤ k := by omega
        go_wp2
        go_ret
        exact ⟨ret_int (by rw [E1.out, hf.out.1, List.drop_eq_nil_of_le hkl]; simp [spansMany]), hbl⟩

end Go.Proofs.YteoodmilcpmmpaaGreat
