/-
  The walk of span.edges: the times at which one of two sets turns, by a function that is ranged over.
-/
import Derived.Test.YtkolimhkfiebeaaConcat
import Derived.Test.YtkolimhkfiebeaaU32
import Derived.Test.YtkolimhkfiebeaaSpanPlain
import Derived.RangeFuncNested
import Derived.RangeFuncBound
import Derived.RangeFuncCalls
import Derived.RangeFuncLeaves
import Derived.Shelf.Abstract
import Derived.OwnWalkIn
import Derived.TacticsInMore
import Derived.LoopNIn
import Derived.LoopIn
import Derived.StillTailTactics
import Derived.BigRegion
namespace Go.Proofs.Ytkolimhkfiebeaa
open Go.RowKit Go.Shelf
attribute [local go_sem] Oper.semAt_some

/-! ### Plain -/
def edgeL (l : List Span) : List Int := l.flatMap fun x => [x.f, x.t + 1]

def edgesOf (a b : List Span) : List Int := cmp (srt (edgeL (a ++ b)))

theorem edgeL_len (l : List Span) : (edgeL l).length = 2 * l.length := by
  unfold edgeL
  induction l with
  | nil => rfl
  | cons x l ih => rw [List.flatMap_cons, List.length_append, ih]; simp; omega

theorem edgeL_take {l : List Span} {k : Nat} {x : Span} (h : l[k]? = some x) : edgeL (l.take (k + 1)) = edgeL (l.take k) ++ [x.f, x.t + 1] := by
  unfold edgeL
  rw [take_snoc h, List.flatMap_append]
  simp

theorem edges_is (a b : List Span) : IsEdges a b (edgesOf a b) := by
  obtain ⟨h1, h2⟩ := cmp_srt (edgeL (a ++ b))
  refine ⟨h1, fun t => ?_⟩
  rw [show t ∈ edgesOf a b ↔ t ∈ edgeL (a ++ b) from h2 t]
  unfold edgeL
  simp only [List.mem_flatMap, List.mem_append, List.mem_cons, List.not_mem_nil, or_false]

theorem edges_len (a b : List Span) : (edgesOf a b).length ≤ 2 * (a.length + b.length) := by
  unfold edgesOf
  refine Nat.le_trans (cmp_le _) ?_
  rw [srt_len, edgeL_len, List.length_append]
  exact Nat.le_refl _

/-- Is a time in spans: the first one that ends no earlier tells. -/
theorem have_first {l : List Span} {t lo : Int} {i : Nat} (hc : Can lo l) (h1 : ∀ j x, j < i → l[j]? = some x → x.t < t) : (∀ x, l[i]? = some x → ¬ x.t < t → spansHave l t = decide (x.f ≤ t)) ∧ (l.length ≤ i → spansHave l t = false) := by
  have hpw : ∀ (l : List Span) (lo : Int), Can lo l → ∀ (j k : Nat) (x y : Span), j < k → l[j]? = some x → l[k]? = some y → x.t < y.f := by
    intro l
    induction l with
    | nil => intro _ _ j k x y _ h; simp at h
    | cons z l ih =>
      rintro lo ⟨k1, k2, k3⟩ j k x y hjk hj hk
      cases k with
      | zero => omega
      | succ k =>
        rw [List.getElem?_cons_succ] at hk
        cases j with
        | zero =>
          rw [List.getElem?_cons_zero] at hj
          cases hj
          have := k3.mem (List.mem_of_getElem? hk)
          omega
        | succ j => exact ih _ k3 j k x y (by omega) (by simpa using hj) hk
  refine ⟨fun x hx hxt => ?_, fun hl => ?_⟩
  · rw [Bool.eq_iff_iff, have_iff, decide_eq_true_eq]
    constructor
    · rintro ⟨y, hy, e1, e2⟩
      obtain ⟨j, hj⟩ := List.getElem?_of_mem hy
      rcases Nat.lt_trichotomy j i with h | h | h
      · have := h1 j y h hj; omega
      · subst h; rw [hx] at hj; cases hj; exact e1
      · have := hpw l lo hc i j x y h hx hj; omega
    · intro e
      exact ⟨x, List.mem_of_getElem? hx, e, by omega⟩
  · cases e : spansHave l t
    · rfl
    · obtain ⟨y, hy, e1, e2⟩ := have_iff.1 e
      obtain ⟨j, hj⟩ := List.getElem?_of_mem hy
      have := h1 j y (by have := (List.getElem?_eq_some_iff.1 hj).1; omega) hj
      omega

/-! ### What a round of the caller's keeps -/
/-- Block b is not what the caller's box lB leads to. -/
def Priv (lB : Nat) (W : World) (b : Nat) : Prop := ∀ v, W.cell? ⟨lB, 0, none⟩ = some v → v.ownBlock = some b → False

structure KpL (m fB lB : Nat) (X Y : World) : Prop where
  size : X.heap.size ≤ Y.heap.size
  low : ∀ b, b < m → Y.heap[b]? = X.heap[b]?
  cells : ∀ (b : Nat) (o : Obj), X.heap[b]? = some o → o.isCells = true → b ≠ fB → b ≠ lB → Priv lB X b → Y.heap[b]? = some o ∧ Priv lB Y b

theorem KpL.refl (m fB lB : Nat) (X : World) : KpL m fB lB X X := ⟨Nat.le_refl _, fun _ _ => rfl, fun _ _ h _ _ _ hp => ⟨h, hp⟩⟩

theorem KpL.trans {m fB lB : Nat} {X Y Z : World} (h : KpL m fB lB X Y) (k : KpL m fB lB Y Z) : KpL m fB lB X Z :=
  ⟨Nat.le_trans h.size k.size, fun b hb => (k.low b hb).trans (h.low b hb), fun b o ho hc h1 h2 hp => by
    obtain ⟨e1, e2⟩ := h.cells b o ho hc h1 h2 hp
    exact k.cells b o e1 hc h1 h2 e2⟩

theorem KpL.bl {m fB lB : Nat} {X Y Z : World} (h : KpL m fB lB X Y) (k : Bl Y Z) (hm : m ≤ X.heap.size) (hl : lB < X.heap.size) : KpL m fB lB X Z :=
  h.trans ⟨k.size, fun b hb => k.block b (by have := h.size; omega), fun b o ho _ _ _ hp => ⟨(k.block b (Array.getElem?_eq_some_iff.1 ho).1).trans ho, fun v hv => hp v ((k.cell (b := lB) (o := 0) (by have := h.size; omega)).symm.trans hv)⟩⟩

theorem KpL.cell {m fB lB : Nat} {X Y : World} (h : KpL m fB lB X Y) {b o : Nat} {v : Value} (hc : X.cell? ⟨b, o, none⟩ = some v) (h1 : b ≠ fB) (h2 : b ≠ lB) (hp : Priv lB X b) : Y.cell? ⟨b, o, none⟩ = some v ∧ Y.frozen? ⟨b, o, none⟩ = X.frozen? ⟨b, o, none⟩ := by
  obtain ⟨ob, ho, hcs⟩ := cells_of_cell hc
  have := (h.cells b ob ho hcs h1 h2 hp).1
  exact ⟨(World.cell?_of_block (a := ⟨b, o, none⟩) (this.trans ho.symm)).trans hc, World.frozen?_of_block (a := ⟨b, o, none⟩) (this.trans ho.symm)⟩

theorem Priv.nil {lB : Nat} {W : World} (h : W.cell? ⟨lB, 0, none⟩ = some (.slice none 0 0)) (b : Nat) : Priv lB W b := fun v hv hb => by
  rw [h] at hv
  cases hv
  cases hb

theorem cmpAll (base : Nat) (A : Option Addr) (c : Nat) (l : List Int) (w : World) (hw : base ≤ w.heap.size) (hl : l.length ≤ 1099511627776) (hc : l.length ≤ c) (hA : R cU32 base w A l) :
    Calls Try.prog 94 #[.slice A l.length c] w fun e w' => e = .returned (.slice A (cmp l).length c) ∧ R cU32 base w' A (cmp l) ∧ Below base w w' := by
  by_cases h0 : l = []
  · subst h0
    refine (cmpU_nil A c w).mono ?_
    rintro e w' ⟨rfl, rfl⟩
    exact ⟨rfl, R.nil, Below.refl _ _⟩
  · exact cmpU base A c l w hw hl hc hA h0

/-- A new block with two numbers, as a source. -/
theorem Own.src2U {t e : TypeId} {v : Value} {base : Nat} {w w1 : World} {xs : List Int} {x y : Int} (_ho : Own cU32 e base w v xs) (_hbase : base ≤ w.heap.size) (hx : u32ok x) (hy : u32ok y) :
    ∃ news, RdL cU32 (w1.alloc (.cells #[.int .u32 x, .int .u32 y] t)) (fun b => (base ≤ b ∧ b < (w1.alloc (.cells #[.int .u32 x, .int .u32 y] t)).heap.size) ∧ v.ownBlock ≠ some b) [x, y] news ∧ (∀ ad, some (⟨w1.heap.size, 0, none⟩ : Addr) = some ad → ∀ (j : Nat) (u : Value), news[j]? = some u → (w1.alloc (.cells #[.int .u32 x, .int .u32 y] t)).cell? (ad.add j) = some u) ∧ (some (⟨w1.heap.size, 0, none⟩ : Addr) = none → [x, y] = []) := by
  refine ⟨_, rdl_u32 [x, y] (by intro z hz; simp at hz; rcases hz with rfl | rfl <;> assumption), fun ad e j u hu => ?_, fun e => by cases e⟩
  cases e
  have hadd : (⟨w1.heap.size, 0, none⟩ : Addr).add j = ⟨w1.heap.size, j, none⟩ := by
    unfold Addr.add
    split
    · rename_i h0; subst h0; rfl
    · simp
  rw [hadd, cell_of_row _ w1.heap.size j _ t (0, 0) (heap_alloc_new w1 _)]
  simpa using hu

def sliceLenE : Value → Nat
  | .slice _ n _ => n
  | _ => 0

set_option maxRecDepth 100000 in
set_option maxHeartbeats 4000000 in
theorem edges1 (n lp B1 B2 fB lB m c d : Nat) (A B : Option Addr) (a b : List Span) (T : List Int) (hT0 : T = edgesOf a b) (J Jx : List (Fin T.length) → World → Prop) (W : World)
    (hn : 1 ≤ n) (ha : spansMay a = true) (hb : spansMay b = true) (hm : m ≤ W.heap.size) (hlB : lB < W.heap.size) (hfB : fB < W.heap.size) (hne1 : B1 ≠ fB ∧ B1 ≠ lB) (hne2 : B2 ≠ fB ∧ B2 ≠ lB)
    (hnil : W.cell? ⟨lB, 0, none⟩ = some (.slice none 0 0)) (hB1 : W.cell? ⟨B1, 0, none⟩ = some (.slice A a.length c)) (hB2 : W.cell? ⟨B2, 0, none⟩ = some (.slice B b.length d))
    (hA : RS cSpan W (fun x => x < m) A a) (hB : RS cSpan W (fun x => x < m) B b) (hJ : AbidesFrom W.heap.size J)
    (hY : ∀ pre (x : Fin T.length) W1, J pre W1 → pre.length < T.length → YieldAt Fence.wide (n - 1) Try.prog lp #[.int .u32 (T.get x), .agg #[.bool (spansHave a (T.get x)), .bool (spansHave b (T.get x))]] W1 fun e W' =>
      (e = .returned (.bool true) ∧ J (pre ++ [x]) W' ∧ KpL m fB lB W1 W') ∨ (e = .returned (.bool false) ∧ Jx (pre ++ [x]) W'))
    (h0 : J [] W) :
    CallsIn Fence.wide n Try.prog 192 #[.func (.yield lp) #[] #[], .pointer (some ⟨B1, 0, none⟩), .pointer (some ⟨B2, 0, none⟩)] W fun e W' => (∃ v, e = .returned v) ∧
      ((∃ ys, ys = List.finRange T.length ∧ J ys W') ∨ (∃ pre, Jx pre W')) := by
  refine callsIn_wide.2 ?_
  have hT := hide hT0
  clear hT0
  obtain ⟨a1, a2, a3⟩ := may_can ha
  obtain ⟨b1, b2, b3⟩ := may_can hb
  obtain ⟨i0, hi, hz0, hz1, hz2⟩ := info_parts Try.infoU32
  have hRA : R cSpan 0 W A a := RS.up hA fun x hx => ⟨Nat.zero_le _, Nat.lt_of_lt_of_le hx hm⟩
  have hRB : R cSpan 0 W B b := RS.up hB fun x hx => ⟨Nat.zero_le _, Nat.lt_of_lt_of_le hx hm⟩
  have hcat := hide (fun V (hV : Bl W V) (Z : Nat) (h1 : V.cell? ⟨Z, 0, none⟩ = some (.slice A a.length c)) (h2 : V.cell? ⟨Z, 1, none⟩ = some (.slice B b.length d)) => concatSpan Z c d A B a b V (by omega) (by omega) h1 h2 (hRA.bl hV) (hRB.bl hV))
  have hok : ∀ x ∈ a ++ b, 1 ≤ x.f ∧ x.f ≤ x.t ∧ x.t ≤ 1073741824 := fun x hx => by
    rcases List.mem_append.1 hx with hx | hx
    · have := a1.mem hx; have := a2 x hx; omega
    · have := b1.mem hx; have := b2 x hx; omega
  replace hok := hide hok
  replace hA := hide hA
  replace hB := hide hB
  have hmy := hide (And.intro ha hb)
  clear ha hb hRA hRB
  replace a1 := hide a1
  replace b1 := hide b1
  clear a2 b2
  go_enter Try.func192, Try.ntmps192
  go_wp2_with fail
  have hbA : Bl W (W.alloc (.cells #[.slice A a.length c, .slice B b.length d] 94)) := (Bl.refl _).alloc _
  refine (hcat.out _ hbA W.heap.size (by rw [cell_of_row _ W.heap.size 0 _ _ (0, 0) (heap_alloc_new W _)]; rfl) (by rw [cell_of_row _ W.heap.size 1 _ _ (0, 0) (heap_alloc_new W _)]; rfl)).mono ?_
  rintro e w1 ⟨D, dc, rfl, hd1, hd2, hrD0, hb0⟩
  have hb1 := hbA.trans hb0
  have hrD := hrD0.zero
  clear hrD0 hcat hbA hb0
  obtain ⟨L, hL⟩ : ∃ L, L = a ++ b := ⟨_, rfl⟩
  have hLl : L.length ≤ 2048 := by rw [hL, List.length_append]; omega
  rw [← hL] at hd1 hrD hok ⊢
  replace hL := hide hL
  go_wp2_with fail
  go_loopw [4, 17] (fun v4 v17 wr => Bl w1 wr ∧ ∃ k : Nat, k ≤ L.length ∧ v17 = .int .i64 k ∧ Own cU32 31 w1.heap.size wr v4 (edgeL (L.take k))) (fun _ v17 _ => L.length - (intOf v17).toNat)
  case atStart => exact ⟨Bl.refl _, 0, Nat.zero_le _, rfl, by rw [List.take_zero]; exact Own.nil⟩
  case round =>
    obtain ⟨hb2, k, hk, rfl, hown⟩ := hrel
    by_cases hlt : k < L.length
    · obtain ⟨bd, od, rfl, -, hbd⟩ := hrD.addr (by omega)
      obtain ⟨x, hx⟩ := get_lt hlt
      obtain ⟨-, -, x0', x1'⟩ := hrD.span hx
      have x0 := (hb2.cell hbd).trans x0'
      have x1 := (hb2.cell hbd).trans x1'
      clear x0' x1'
      have hxo := hok.out x (List.mem_of_getElem? hx)
      have htk := hide (edgeL_take hx)
      have hel := edgeL_len (L.take k)
      rw [List.length_take] at hel
      have hki : (k : Int) < (L.length : Int) := by omega
      clear hx
      generalize hE : edgeL (L.take k) = E at hown hel htk
      clear hE
      have hb3 : Bl w1 (wr.alloc (.cells #[.int .u32 x.f, .int .u32 x.t] 93)) := hb2.alloc _
      have hown2 := (hown.bl ((Bl.refl wr).alloc (.cells #[.int .u32 x.f, .int .u32 x.t] 93))).bl ((Bl.refl _).alloc (.cells #[.int .u32 x.f, .int .u32 (x.t + 1)] 31))
      have hsrc := Own.src2U (t := 31) (w1 := wr.alloc (.cells #[.int .u32 x.f, .int .u32 x.t] 93)) (x := x.f) (y := x.t + 1) hown hb2.size ⟨by omega, by omega⟩ ⟨by omega, by omega⟩
      rw [World.size_alloc wr] at hsrc
      have q1 : E.length + [x.f, x.t + 1].length ≤ maxLen := by simp [maxLen]; omega
      have q2 : (E.length + [x.f, x.t + 1].length) * 4 ≤ 140737488355328 := by simp; omega
      have q3 := (hb3.alloc (.cells #[.int .u32 x.f, .int .u32 (x.t + 1)] 31)).size
      replace hsrc := hide hsrc
      replace hown2 := hide hown2
      go_wp2_with (at_builtin; refine Hid.out ?_)
      refine hide ?_
      refine wpList_append_any2 (C := cU32) (xs := E) (ys := [x.f, x.t + 1]) rfl (.tmp 21) (.tmp 27) _ rfl 31 i0 _ 4 Try.underlying124 hi hz0 hz1 hz2 rfl u4 w1.heap.size rfl hown2.out (some ⟨wr.heap.size + 1, 0, none⟩) 2 2 rfl rfl hsrc.out q1 q2 q3 ?_
      intro v9 w9 hown9 hg9 hf9
      have hb9 : Bl w1 w9 := (hb3.alloc _).app hown2.out (Nat.le_refl _) hg9
      rw [← htk.out] at hown9
      clear hown hown2 hsrc q1 q2 q3 hb3 x0 x1 hg9 hf9
      go_wp2
      go_roundw
      case rel => exact ⟨hb9, k + 1, by omega, by go_num, hown9⟩
      case measure => simp [intOf]; omega
    · have hkl : k = L.length := by omega
      subst hkl
      rw [List.take_length] at hown
      have hel := edgeL_len L
      obtain ⟨G, gc, rfl, hrG, hg1, hg2⟩ := hown.reads
      have hes := hide (show edgesOf a b = cmp (srt (edgeL L)) by unfold edgesOf; rw [hL.out])
      generalize edgeL L = E at hown hel hrG hg1 hes
      clear hown hok
      have hki : ¬ ((L.length : Int) < (L.length : Int)) := by omega
      have hEl : E.length ≤ 4096 := by omega
      clear hel
      go_wp2_with fail
      refine (sortU w1.heap.size G gc E _ hb2.size (by omega) hrG).mono ?_
      rintro e w2 ⟨rfl, hrS, hbS⟩
      have hb3 := hb2.step hbS
      have hSl := srt_len E
      rw [show E.length = (srt E).length from hSl.symm] at hg1 ⊢
      have hSl2 : (srt E).length ≤ 4096 := by omega
      generalize srt E = S at hrS hg1 hSl2 hes ⊢
      clear hSl hrG
      go_wp2_with fail
      refine (cmpAll w1.heap.size G gc S _ hb3.size (by omega) hg1 hrS).mono ?_
      rintro e w3 ⟨rfl, hrT, hbT⟩
      have hb4 := hb1.trans (hb3.step hbT)
      have hTl : (cmp S).length ≤ 4096 := Nat.le_trans (cmp_le S) hSl2
      have hsrt := hide (show T.Pairwise (· < ·) by rw [hT.out]; exact (edges_is a b).srt)
      rw [show cmp S = T by rw [hT.out, hes.out]] at hrT hTl ⊢
      have hJ3 : J [] w3 := hJ [] W w3 none h0 hb4.grown_none (by intro r e; cases e)
      clear hrS hb3 hbT hbS hb2 hg1 hSl2 hes hEl hrD hL hd1 hd2 hLl hki hlt hk
      have hw1 := hb1.size
      have c1 := (hb4.cell (b := B1) (o := 0) (World.block_lt_of_cell? _ _ hB1)).trans hB1
      have c2 := (hb4.cell (b := B2) (o := 0) (World.block_lt_of_cell? _ _ hB2)).trans hB2
      have hP := Priv.nil ((hb4.cell (b := lB) (o := 0) hlB).trans hnil)
      have hA3 := RS.keep (S' := fun x => x < m) hA.out (hb4.keeps fun x hx => Nat.lt_of_lt_of_le hx hm) fun _ h => h
      have hB3 := RS.keep (S' := fun x => x < m) hB.out (hb4.keeps fun x hx => Nat.lt_of_lt_of_le hx hm) fun _ h => h
      have hs3 := hb4.size
      replace hY := hide hY
      replace hA3 := hide hA3
      replace hB3 := hide hB3
      replace hJ := hide hJ
      replace hP := hide hP
      clear hA hB hB1 hB2 hb1 hnil h0
      have hg : 0 < T.length → ∃ g go, G = some ⟨g, go, none⟩ ∧ w1.heap.size ≤ g := fun h => by
        obtain ⟨g, go, e, h1, h2⟩ := hrT.addr h
        exact ⟨g, go, e, h1⟩
      replace hg := hide hg
      replace hrT := hide hrT
      go_wp2_with fail
      go_loopw [7, 8, 35] (fun s7 s8 s35 wr => KpL m fB lB w3 wr ∧ ∃ i k j : Nat, s7 = .int .i64 i ∧ s8 = .int .i64 k ∧ s35 = .int .i64 j ∧ j ≤ T.length ∧ i ≤ a.length ∧ k ≤ b.length ∧ J ((List.finRange T.length).take j) wr ∧
        Hid (∀ (j' : Nat) (t : Int), j ≤ j' → T[j']? = some t → (∀ (i' : Nat) (x : Span), i' < i → a[i']? = some x → x.t < t) ∧ (∀ (i' : Nat) (x : Span), i' < k → b[i']? = some x → x.t < t))) (fun _ _ s35 _ => T.length - (intOf s35).toNat)
      case atStart => exact ⟨KpL.refl _ _ _ _, 0, 0, 0, rfl, rfl, rfl, Nat.zero_le _, Nat.zero_le _, Nat.zero_le _, hJ3, fun _ _ _ _ => ⟨fun _ _ h => absurd h (Nat.not_lt_zero _), fun _ _ h => absurd h (Nat.not_lt_zero _)⟩⟩
      case round =>
        clear hJ3
        obtain ⟨hkp, i, k, j, rfl, rfl, rfl, hj, hil, hkl, hJr, hpre⟩ := hrel
        by_cases hlt : j < T.length
        · obtain ⟨g, go, rfl, hgw⟩ := hg.out (by omega)
          obtain ⟨t, ht⟩ := get_lt hlt
          obtain ⟨⟨-, hgl⟩, hto, t0', -⟩ := hrT.out.u32 ht
          have t0 := (hkp.cell t0' (by omega) (by omega) (hP.out _)).1
          have C1 := (hkp.cell c1 hne1.1 hne1.2 (hP.out _)).1
          have C2 := (hkp.cell c2 hne2.1 hne2.2 (hP.out _)).1
          have hzr := hkp.size
          have hAr : R cSpan 0 wr A a := RS.up (RS.keep (S' := fun x => x < m) hA3.out (fun x hx => hkp.low x hx) fun _ h => h) fun x hx => ⟨Nat.zero_le _, by omega⟩
          have hBr : R cSpan 0 wr B b := RS.up (RS.keep (S' := fun x => x < m) hB3.out (fun x hx => hkp.low x hx) fun _ h => h) fun x hx => ⟨Nat.zero_le _, by omega⟩
          replace hAr := hide hAr
          replace hBr := hide hBr
          have hji : (j : Int) < (T.length : Int) := by omega
          obtain ⟨hpa, hpb⟩ := hpre.out j t (Nat.le_refl _) ht
          replace hpa := hide hpa
          replace hpb := hide hpb
          have hTt := hide (take_snoc (l := List.finRange T.length) (k := j) (x := ⟨j, hlt⟩) (by simp [hlt]))
          have hTg : T.get ⟨j, hlt⟩ = t := (List.getElem?_eq_some_iff.1 ht).2
          replace hTg := hide hTg
          have hnx : Hid (∀ (j' : Nat) (t' : Int), j + 1 ≤ j' → T[j']? = some t' → t < t') := fun j' t' hj' ht' => by
            have h1 := (List.getElem?_eq_some_iff.1 ht)
            have h2 := (List.getElem?_eq_some_iff.1 ht')
            have := List.pairwise_iff_getElem.1 hsrt.out j j' h1.1 h2.1 (by omega)
            rw [h1.2, h2.2] at this
            exact this
          have hto2 := hto.2
          have hto1 := hto.1
          clear ht t0' hpre hto
          obtain ⟨wo, rfl⟩ : ∃ wo, wo = wr := ⟨_, rfl⟩
          go_wp2_with fail
          go_loopw [7] (fun s7 wq => wo = wq ∧ ∃ i : Nat, s7 = .int .i64 i ∧ i ≤ a.length ∧ Hid (∀ (i' : Nat) (x : Span), i' < i → a[i']? = some x → x.t < t)) (fun s7 _ => a.length - (intOf s7).toNat)
          case atStart => exact ⟨by first | rfl | trivial, i, rfl, hil, hpa⟩
          case round =>
            clear hpa hil
            obtain ⟨rfl, i, rfl, hil, hpa⟩ := hrel
            by_cases hia : i < a.length
            · obtain ⟨ba, oa, rfl, -, hbal⟩ := hAr.out.addr (by omega)
              obtain ⟨x, hx⟩ := get_lt hia
              obtain ⟨-, -, x0, x1⟩ := hAr.out.span hx
              have hiai : (i : Int) < (a.length : Int) := by omega
              by_cases hxt : x.t < t
              · go_wp2
                go_roundw
                case rel => exact ⟨by first | rfl | trivial, i + 1, by go_num, by omega, hide fun i' z hi' hz => by
                  by_cases e : i' = i
                  · subst e; rw [hx] at hz; cases hz; exact hxt
                  · exact hpa.out i' z (by omega) hz⟩
                case measure => simp [intOf]; omega
              · have hpA := hide ((have_first a1.out hpa.out).1 x hx hxt)
                clear hx
                go_wp2_with fail
                go_loopw [8] (fun s8 wq => wo = wq ∧ ∃ k : Nat, s8 = .int .i64 k ∧ k ≤ b.length ∧ Hid (∀ (i' : Nat) (x : Span), i' < k → b[i']? = some x → x.t < t)) (fun s8 _ => b.length - (intOf s8).toNat)
                case atStart => exact ⟨by first | rfl | trivial, k, rfl, hkl, hpb⟩
                case round =>
                  clear hpb hkl
                  obtain ⟨rfl, k, rfl, hkl, hpb⟩ := hrel
                  by_cases hkb : k < b.length
                  · obtain ⟨bb, ob, rfl, -, hbbl⟩ := hBr.out.addr (by omega)
                    obtain ⟨y, hy⟩ := get_lt hkb
                    obtain ⟨-, -, y0, y1⟩ := hBr.out.span hy
                    have hkbi : (k : Int) < (b.length : Int) := by omega
                    by_cases hyt : y.t < t
                    · go_wp2
                      go_roundw
                      case rel => exact ⟨by first | rfl | trivial, k + 1, by go_num, by omega, hide fun i' z hi' hz => by
                        by_cases e : i' = k
                        · subst e; rw [hy] at hz; cases hz; exact hyt
                        · exact hpb.out i' z (by omega) hz⟩
                      case measure => simp [intOf]; omega
                    · have hpB := hide ((have_first b1.out hpb.out).1 y hy hyt)
                      clear hy
                      have hpre1 := hide (And.intro hpa.out hpb.out)
                      clear hpa hpb
                      have hl1 := World.block_lt_of_cell? _ _ C1
                      have hl2 := World.block_lt_of_cell? _ _ C2
                      go_wp2_with fail
                      go_region
                      obtain ⟨V, hV⟩ : ∃ V, V = (wo.alloc (.cells #[.bool (decide (x.f ≤ t)), .bool (decide (y.f ≤ t))] 156)).drew := ⟨_, rfl⟩
                      rw [← hV]
                      have hbV : Bl wo V := by rw [hV]; exact ((Bl.refl _).alloc _).drew
                      have v0 : V.cell? ⟨wo.heap.size, 0, none⟩ = some (.bool (decide (x.f ≤ t))) := by rw [hV]; show (wo.alloc _).cell? _ = _; rw [cell_of_row _ wo.heap.size 0 _ _ (0, 0) (heap_alloc_new wo _)]; rfl
                      have v1 : V.cell? ⟨wo.heap.size, 1, none⟩ = some (.bool (decide (y.f ≤ t))) := by rw [hV]; show (wo.alloc _).cell? _ = _; rw [cell_of_row _ wo.heap.size 1 _ _ (0, 0) (heap_alloc_new wo _)]; rfl
                      clear hV
                      have hyy := hY.out ((List.finRange T.length).take j) ⟨j, hlt⟩ V (hJ.out _ wo V none hJr hbV.grown_none (by intro r e; cases e)) (by rw [List.length_take, List.length_finRange]; omega)
                      rw [hTg.out, hpA.out, hpB.out] at hyy
                      obtain ⟨fn, tmps, assign, body, hy, hR⟩ := hyy
                      try dsimp only at hy
                      go_upto_region 16 with fail
                      refine (wpIn_wide (n := n)).1 ?_
                      gi_wp2
                      first | refine hR.mono ?_ | refine ⟨(fun _ => hn), hR.mono ?_⟩
                      rintro e W3 (⟨rfl, hJ3, hk3⟩ | ⟨rfl, hJx3⟩)
                      · rw [← hTt.out] at hJ3
                        have hkp3 := (hkp.bl hbV (by omega) (by omega)).trans hk3
                        gi_wp2
                        go_wp2
                        go_roundw
                        case rel => exact ⟨hkp3, i, k, j + 1, rfl, rfl, by go_num, by omega, hil, hkl, hJ3, hide fun j' t' hj' ht' => ⟨fun i' z hi' hz => by have := hpre1.out.1 i' z hi' hz; have := hnx.out j' t' hj' ht'; omega, fun i' z hi' hz => by have := hpre1.out.2 i' z hi' hz; have := hnx.out j' t' hj' ht'; omega⟩⟩
                        case measure => simp [intOf]; omega
                      · gi_wp2
                        go_wp2
                        refine bodyPost_ret (results_none rfl _ _ _) rfl ?_
                        exact ⟨⟨_, rfl⟩, .inr ⟨_, hJx3⟩⟩
                  · have hpB := hide ((have_first b1.out hpb.out).2 (by omega))
                    have hkbi : ¬ (k : Int) < (b.length : Int) := by omega
                    have hpre1 := hide (And.intro hpa.out hpb.out)
                    clear hpa hpb
                    have hl1 := World.block_lt_of_cell? _ _ C1
                    have hl2 := World.block_lt_of_cell? _ _ C2
                    go_wp2_with fail
                    go_region
                    obtain ⟨V, hV⟩ : ∃ V, V = (wo.alloc (.cells #[.bool (decide (x.f ≤ t)), .bool (false)] 156)).drew := ⟨_, rfl⟩
                    rw [← hV]
                    have hbV : Bl wo V := by rw [hV]; exact ((Bl.refl _).alloc _).drew
                    have v0 : V.cell? ⟨wo.heap.size, 0, none⟩ = some (.bool (decide (x.f ≤ t))) := by rw [hV]; show (wo.alloc _).cell? _ = _; rw [cell_of_row _ wo.heap.size 0 _ _ (0, 0) (heap_alloc_new wo _)]; rfl
                    have v1 : V.cell? ⟨wo.heap.size, 1, none⟩ = some (.bool (false)) := by rw [hV]; show (wo.alloc _).cell? _ = _; rw [cell_of_row _ wo.heap.size 1 _ _ (0, 0) (heap_alloc_new wo _)]; rfl
                    clear hV
                    have hyy := hY.out ((List.finRange T.length).take j) ⟨j, hlt⟩ V (hJ.out _ wo V none hJr hbV.grown_none (by intro r e; cases e)) (by rw [List.length_take, List.length_finRange]; omega)
                    rw [hTg.out, hpA.out, hpB.out] at hyy
                    obtain ⟨fn, tmps, assign, body, hy, hR⟩ := hyy
                    try dsimp only at hy
                    go_upto_region 16 with fail
                    refine (wpIn_wide (n := n)).1 ?_
                    gi_wp2
                    first | refine hR.mono ?_ | refine ⟨(fun _ => hn), hR.mono ?_⟩
                    rintro e W3 (⟨rfl, hJ3, hk3⟩ | ⟨rfl, hJx3⟩)
                    · rw [← hTt.out] at hJ3
                      have hkp3 := (hkp.bl hbV (by omega) (by omega)).trans hk3
                      gi_wp2
                      go_wp2
                      go_roundw
                      case rel => exact ⟨hkp3, i, k, j + 1, rfl, rfl, by go_num, by omega, hil, hkl, hJ3, hide fun j' t' hj' ht' => ⟨fun i' z hi' hz => by have := hpre1.out.1 i' z hi' hz; have := hnx.out j' t' hj' ht'; omega, fun i' z hi' hz => by have := hpre1.out.2 i' z hi' hz; have := hnx.out j' t' hj' ht'; omega⟩⟩
                      case measure => simp [intOf]; omega
                    · gi_wp2
                      go_wp2
                      refine bodyPost_ret (results_none rfl _ _ _) rfl ?_
                      exact ⟨⟨_, rfl⟩, .inr ⟨_, hJx3⟩⟩
            · have hpA := hide ((have_first a1.out hpa.out).2 (by omega))
              have hiai : ¬ (i : Int) < (a.length : Int) := by omega
              go_wp2_with fail
              go_loopw [8] (fun s8 wq => wo = wq ∧ ∃ k : Nat, s8 = .int .i64 k ∧ k ≤ b.length ∧ Hid (∀ (i' : Nat) (x : Span), i' < k → b[i']? = some x → x.t < t)) (fun s8 _ => b.length - (intOf s8).toNat)
              case atStart => exact ⟨by first | rfl | trivial, k, rfl, hkl, hpb⟩
              case round =>
                clear hpb hkl
                obtain ⟨rfl, k, rfl, hkl, hpb⟩ := hrel
                by_cases hkb : k < b.length
                · obtain ⟨bb, ob, rfl, -, hbbl⟩ := hBr.out.addr (by omega)
                  obtain ⟨y, hy⟩ := get_lt hkb
                  obtain ⟨-, -, y0, y1⟩ := hBr.out.span hy
                  have hkbi : (k : Int) < (b.length : Int) := by omega
                  by_cases hyt : y.t < t
                  · go_wp2
                    go_roundw
                    case rel => exact ⟨by first | rfl | trivial, k + 1, by go_num, by omega, hide fun i' z hi' hz => by
                      by_cases e : i' = k
                      · subst e; rw [hy] at hz; cases hz; exact hyt
                      · exact hpb.out i' z (by omega) hz⟩
                    case measure => simp [intOf]; omega
                  · have hpB := hide ((have_first b1.out hpb.out).1 y hy hyt)
                    clear hy
                    have hpre1 := hide (And.intro hpa.out hpb.out)
                    clear hpa hpb
                    have hl1 := World.block_lt_of_cell? _ _ C1
                    have hl2 := World.block_lt_of_cell? _ _ C2
                    go_wp2_with fail
                    go_region
                    obtain ⟨V, hV⟩ : ∃ V, V = (wo.alloc (.cells #[.bool (false), .bool (decide (y.f ≤ t))] 156)).drew := ⟨_, rfl⟩
                    rw [← hV]
                    have hbV : Bl wo V := by rw [hV]; exact ((Bl.refl _).alloc _).drew
                    have v0 : V.cell? ⟨wo.heap.size, 0, none⟩ = some (.bool (false)) := by rw [hV]; show (wo.alloc _).cell? _ = _; rw [cell_of_row _ wo.heap.size 0 _ _ (0, 0) (heap_alloc_new wo _)]; rfl
                    have v1 : V.cell? ⟨wo.heap.size, 1, none⟩ = some (.bool (decide (y.f ≤ t))) := by rw [hV]; show (wo.alloc _).cell? _ = _; rw [cell_of_row _ wo.heap.size 1 _ _ (0, 0) (heap_alloc_new wo _)]; rfl
                    clear hV
                    have hyy := hY.out ((List.finRange T.length).take j) ⟨j, hlt⟩ V (hJ.out _ wo V none hJr hbV.grown_none (by intro r e; cases e)) (by rw [List.length_take, List.length_finRange]; omega)
                    rw [hTg.out, hpA.out, hpB.out] at hyy
                    obtain ⟨fn, tmps, assign, body, hy, hR⟩ := hyy
                    try dsimp only at hy
                    go_upto_region 16 with fail
                    refine (wpIn_wide (n := n)).1 ?_
                    gi_wp2
                    first | refine hR.mono ?_ | refine ⟨(fun _ => hn), hR.mono ?_⟩
                    rintro e W3 (⟨rfl, hJ3, hk3⟩ | ⟨rfl, hJx3⟩)
                    · rw [← hTt.out] at hJ3
                      have hkp3 := (hkp.bl hbV (by omega) (by omega)).trans hk3
                      gi_wp2
                      go_wp2
                      go_roundw
                      case rel => exact ⟨hkp3, i, k, j + 1, rfl, rfl, by go_num, by omega, hil, hkl, hJ3, hide fun j' t' hj' ht' => ⟨fun i' z hi' hz => by have := hpre1.out.1 i' z hi' hz; have := hnx.out j' t' hj' ht'; omega, fun i' z hi' hz => by have := hpre1.out.2 i' z hi' hz; have := hnx.out j' t' hj' ht'; omega⟩⟩
                      case measure => simp [intOf]; omega
                    · gi_wp2
                      go_wp2
                      refine bodyPost_ret (results_none rfl _ _ _) rfl ?_
                      exact ⟨⟨_, rfl⟩, .inr ⟨_, hJx3⟩⟩
                · have hpB := hide ((have_first b1.out hpb.out).2 (by omega))
                  have hkbi : ¬ (k : Int) < (b.length : Int) := by omega
                  have hpre1 := hide (And.intro hpa.out hpb.out)
                  clear hpa hpb
                  have hl1 := World.block_lt_of_cell? _ _ C1
                  have hl2 := World.block_lt_of_cell? _ _ C2
                  go_wp2_with fail
                  go_region
                  obtain ⟨V, hV⟩ : ∃ V, V = (wo.alloc (.cells #[.bool (false), .bool (false)] 156)).drew := ⟨_, rfl⟩
                  rw [← hV]
                  have hbV : Bl wo V := by rw [hV]; exact ((Bl.refl _).alloc _).drew
                  have v0 : V.cell? ⟨wo.heap.size, 0, none⟩ = some (.bool (false)) := by rw [hV]; show (wo.alloc _).cell? _ = _; rw [cell_of_row _ wo.heap.size 0 _ _ (0, 0) (heap_alloc_new wo _)]; rfl
                  have v1 : V.cell? ⟨wo.heap.size, 1, none⟩ = some (.bool (false)) := by rw [hV]; show (wo.alloc _).cell? _ = _; rw [cell_of_row _ wo.heap.size 1 _ _ (0, 0) (heap_alloc_new wo _)]; rfl
                  clear hV
                  have hyy := hY.out ((List.finRange T.length).take j) ⟨j, hlt⟩ V (hJ.out _ wo V none hJr hbV.grown_none (by intro r e; cases e)) (by rw [List.length_take, List.length_finRange]; omega)
                  rw [hTg.out, hpA.out, hpB.out] at hyy
                  obtain ⟨fn, tmps, assign, body, hy, hR⟩ := hyy
                  try dsimp only at hy
                  go_upto_region 16 with fail
                  refine (wpIn_wide (n := n)).1 ?_
                  gi_wp2
                  first | refine hR.mono ?_ | refine ⟨(fun _ => hn), hR.mono ?_⟩
                  rintro e W3 (⟨rfl, hJ3, hk3⟩ | ⟨rfl, hJx3⟩)
                  · rw [← hTt.out] at hJ3
                    have hkp3 := (hkp.bl hbV (by omega) (by omega)).trans hk3
                    gi_wp2
                    go_wp2
                    go_roundw
                    case rel => exact ⟨hkp3, i, k, j + 1, rfl, rfl, by go_num, by omega, hil, hkl, hJ3, hide fun j' t' hj' ht' => ⟨fun i' z hi' hz => by have := hpre1.out.1 i' z hi' hz; have := hnx.out j' t' hj' ht'; omega, fun i' z hi' hz => by have := hpre1.out.2 i' z hi' hz; have := hnx.out j' t' hj' ht'; omega⟩⟩
                    case measure => simp [intOf]; omega
                  · gi_wp2
                    go_wp2
                    refine bodyPost_ret (results_none rfl _ _ _) rfl ?_
                    exact ⟨⟨_, rfl⟩, .inr ⟨_, hJx3⟩⟩
        · have hTj : (List.finRange T.length).take j = List.finRange T.length := List.take_of_length_le (by rw [List.length_finRange]; omega)
          rw [hTj] at hJr
          have hji : ¬ (j : Int) < (T.length : Int) := by omega
          go_wp2
          go_end0
          exact ⟨⟨_, rfl⟩, .inl (by first | exact hJr | exact ⟨_, rfl, hJr⟩)⟩
end Go.Proofs.Ytkolimhkfiebeaa
