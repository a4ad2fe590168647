/-
  The walk of span.set: the times of two sets that are wanted.
  Plain: sets of times: With, Without, Both, Left by definition; they are what comes of the edges; how many times spans have.
  The walks of span.Join, span.Less, span.Add.
-/
import Derived.Test.YtkolimhkfiebeaaEdges
import Derived.Test.YtkolimhkfiebeaaSpanB
import Derived.Test.YtkolimhkfiebeaaBox
namespace Go.Proofs.Ytkolimhkfiebeaa
open Go.RowKit Go.Shelf
attribute [local go_sem] Oper.semAt_some

/-! ### What the caller's round does to the world -/
theorem rdl_span {w w' : World} {S S' : Nat → Prop} : ∀ {xs : List Span} {cells : List Value}, RdL cSpan w S xs cells → RdL cSpan w' S' xs cells
  | [], _, h => h
  | _ :: _, _, ⟨a, b, e, ha, hb⟩ => ⟨a, b, e, ha, rdl_span hb⟩

theorem own_kept {e : TypeId} {lo : Nat} {W W' : World} {v : Value} {xs : List Span} {row : Option Nat} (h : Own cSpan e lo W v xs) (hg : W.grownBy W' row) (hrow : ∀ r, row = some r → ∃ o : Obj, W.heap[r]? = some o ∧ o.isCells = false) : Own cSpan e lo W' v xs := by
  obtain ⟨cells, ho, hr⟩ := h
  refine ⟨cells, ho.kept hg ?_, rdl_span hr⟩
  rcases ho.2 with ⟨rfl, _⟩ | ⟨g, cap, cur, rfl, _, hgb, _⟩
  · exact .inl rfl
  · refine .inr fun e' => ?_
    obtain ⟨o, ho, hc⟩ := hrow g (by simpa [Value.ownBlock] using e'.symm)
    rw [hgb] at ho; cases ho; cases hc

theorem own_set {e t : TypeId} {lo B : Nat} {W : World} {v u : Value} {xs : List Span} (h : Own cSpan e lo W v xs) (hb : Boxed W B t u) (hte : t ≠ e) (x : Value) : Own cSpan e lo (W.setCell ⟨B, 0, none⟩ x) v xs := by
  obtain ⟨cells, ho, hr⟩ := h
  exact ⟨cells, ho.kept (grownBy_setCell' W B x) (.inr (hb.not_row hte ho).symm), rdl_span hr⟩

theorem Own.box {e t : TypeId} {lo B : Nat} {W : World} {v u : Value} {xs : List Span} (h : Own cSpan e lo W v xs) (hb : Boxed W B t u) (hte : t ≠ e) : some B ≠ v.ownBlock := by
  obtain ⟨cells, ho, hr⟩ := h
  exact hb.not_row hte ho

theorem KpL.putObj {m fB lB : Nat} {n0 : Nat} (hm : m ≤ n0) (hl : lB < n0) (W : World) (l : Nat) (o o' : Obj) (hn : n0 ≤ l) (h : W.heap[l]? = some o) (ho : o.isCells = false) : KpL m fB lB W (W.putObj l o') := by
  refine ⟨by simp, fun b hb => World.putObj_heap_other (by omega), fun b ob hob hc _ _ hp => ?_⟩
  have hne : b ≠ l := fun e => by subst e; rw [h] at hob; cases hob; rw [ho] at hc; cases hc
  refine ⟨(World.putObj_heap_other (by omega)).trans hob, fun v hv => hp v ?_⟩
  rw [← hv]
  exact (World.cell?_of_block (a := ⟨lB, 0, none⟩) (World.putObj_heap_other (by show lB ≠ l; omega))).symm

theorem KpL.setF {m fB lB : Nat} {W : World} (hm : m ≤ fB) (hne : fB ≠ lB) (u : Value) : KpL m fB lB W (W.setCell ⟨fB, 0, none⟩ u) := by
  refine ⟨by simp [World.setCell], fun b hb => Below.heap_setCell _ _ _ _ (by show b ≠ fB; omega), fun b o ho _ h1 _ hp => ⟨(Below.heap_setCell _ _ _ _ h1).trans ho, fun v hv => hp v ?_⟩⟩
  rw [← hv]
  exact (World.cell?_of_block (a := ⟨lB, 0, none⟩) (Below.heap_setCell _ _ _ _ (by show lB ≠ fB; omega))).symm

theorem KpL.put {m fB lB : Nat} {W w1 : World} {tmp : Obj} {v v' : Value} {t e : TypeId} {xs : List Span} (hm : m ≤ lB) (hW : m ≤ W.heap.size) (hb : Boxed W lB t v) (ho : Own cSpan e m W v xs) (hg : (W.alloc tmp).grownBy w1 v.ownBlock) (hf : Far (W.alloc tmp) v w1 v') (hb1 : Boxed w1 lB t v) :
    KpL m fB lB W (w1.setCell ⟨lB, 0, none⟩ v') := by
  have hs := hg.size
  rw [World.size_alloc] at hs
  refine ⟨by simp [World.setCell]; omega, fun b hb' => ?_, fun b o hbo _ _ hne hp => ?_⟩
  · refine (Below.heap_setCell _ _ _ _ (by show b ≠ lB; omega)).trans ((hg.block b (by rw [World.size_alloc]; omega) fun e' => ?_).trans (Below.heap_alloc _ _ _ (by omega)))
    have := ho.lt e'.symm
    omega
  · have hbl := (Array.getElem?_eq_some_iff.1 hbo).1
    obtain ⟨h1, h2⟩ := hf.2 b (by rw [World.size_alloc]; omega) (hp v hb.cell)
    refine ⟨(Below.heap_setCell _ _ _ _ hne).trans (h1.trans ((Below.heap_alloc _ _ _ hbl).trans hbo)), fun u hu => ?_⟩
    rw [(hb1.set v').cell] at hu
    cases hu
    exact h2

theorem wpListIn_append_own2 {α : Type} {C : Codec α} {F : Fence} {n : Nat} {P : Program} (w : World) {ops : Array Oper} {rest : List Oper} {o : Oper} {a : Act} {Q : Exit → Act → World → Prop} {xs ys : List α}
    (hg : o.guard = none) (s x : Operand) (t : TypeId) (hop : o.op = Op.call { callee := Callee.builtin Builtin.append, args := #[s, x], argTypes := #[t, t] })
    (base : Nat) (e : TypeId) (i : TypeInfo) (z : Value) (bytes : Nat) (h1 : P.underlying t = some (.slice e)) (h2 : P.info? e = some i) (h3 : i.zero = some z) (h4 : i.size = C.size) (h5 : i.bytes = bytes) (h6 : z.cells.size = C.size)
    (v : Value) (hs : a.eval s = v) (hown : Own C e base w v xs) (ad : Addr) (m c : Nat) (hx : a.eval x = .slice (some ad) m c) (hm : m = ys.length)
    (hA : ∃ news, RdL C w (fun b => (base ≤ b ∧ b < w.heap.size) ∧ v.ownBlock ≠ some b) ys news ∧ (∀ ad', some ad = some ad' → ∀ (j : Nat) (u : Value), news[j]? = some u → w.cell? (ad'.add j) = some u) ∧ (some ad = none → ys = []))
    (b1 : xs.length + ys.length ≤ maxLen) (b2 : (xs.length + ys.length) * bytes ≤ 140737488355328) (b3 : base ≤ w.heap.size)
    (hK : ∀ v' w', Own C e base w' v' (xs ++ ys) → w.grownBy w' v.ownBlock → Far w v w' v' → wpListIn F n P ops Q rest (a.put o.dst v') w') :
    wpListIn F n P ops Q (o :: rest) a w := by
  subst hm
  refine wpListIn_plain hg fun K hK' => ?_
  obtain ⟨v', w', hrun, r1, r2, r3⟩ := run_append_any2 (P := P) t o.type e i z bytes h1 h2 h3 h4 h5 h6 hown (some ad) c hA b1 b2 b3
  unfold Oper.wpIn
  refine ⟨?_, ?_⟩
  · simp [Oper.about, hop, resolve, Target.leads, Sem.run_pure]
  · rw [Oper.semAt_plain F _ _ (by rw [hop]; intro c hc'; cases hc')]
    simp [execOp, hop, resolve, invoke, builtin, hs, hx, hrun, Result.andThen]
    exact hK' _ _ (hK v' w' r1 r2 r3)

/-! ### Plain: the state between two edges -/
def stOf (P : Int → Bool) (T : List Int) (pre : List (Fin T.length)) : Int × List Span := (pre.map T.get).foldl (edgeStep P) (0, [])

theorem stOf_snoc (P : Int → Bool) (T : List Int) (pre : List (Fin T.length)) (x : Fin T.length) : stOf P T (pre ++ [x]) = edgeStep P (stOf P T pre) (T.get x) := by
  unfold stOf
  rw [List.map_append, List.foldl_append]
  rfl

theorem stOf_all (P : Int → Bool) (T : List Int) : stOf P T (List.finRange T.length) = edgeFold P T := by
  unfold stOf edgeFold
  have : (List.finRange T.length).map T.get = T := by
    apply List.ext_getElem
    · simp
    · intro i h1 h2; simp
  rw [this]

structure StOk (s : Int × List Span) (n : Nat) : Prop where
  lo : 0 ≤ s.1
  hi : s.1 ≤ 1073741825
  ok : ∀ x ∈ s.2, x.ok
  len : s.2.length ≤ n

theorem stOf_ok (P : Int → Bool) (T : List Int) (hT : ∀ t ∈ T, 1 ≤ t ∧ t ≤ 1073741825) : ∀ (n : Nat) (pre : List (Fin T.length)), pre.length = n → StOk (stOf P T pre) n
  | 0, pre, h => by
    rw [List.eq_nil_of_length_eq_zero h]
    exact ⟨Int.le_refl _, (by show (0 : Int) ≤ _; decide), (by intro x hx; cases hx), Nat.le_refl _⟩
  | n + 1, pre, h => by
    obtain ⟨ini, last, rfl⟩ : ∃ ini last, pre = ini ++ [last] := by
      rcases List.eq_nil_or_concat pre with e | ⟨i, l, e⟩
      · rw [e] at h; cases h
      · exact ⟨i, l, by rw [e, List.concat_eq_append]⟩
    rw [List.length_append, List.length_singleton] at h
    obtain ⟨h1, h2, h3, h4⟩ := stOf_ok P T hT n ini (by omega)
    have ht := hT (T.get last) (List.get_mem ..)
    rw [stOf_snoc]
    generalize stOf P T ini = s at *
    generalize T.get last = t at *
    unfold edgeStep
    split
    · split
      · exact ⟨by dsimp only; omega, by dsimp only; omega, h3, by dsimp only; omega⟩
      · exact ⟨h1, h2, h3, by omega⟩
    · split
      · exact ⟨h1, h2, h3, by omega⟩
      · refine ⟨Int.le_refl _, by dsimp only; omega, fun x hx => ?_, by dsimp only; rw [List.length_append, List.length_singleton]; omega⟩
        rcases List.mem_append.1 hx with hx | hx
        · exact h3 x hx
        · rw [List.mem_singleton] at hx
          subst hx
          exact ⟨by dsimp only; omega, by dsimp only; omega, by dsimp only; omega, by dsimp only; omega⟩

/-- The times of two sets that are wanted, or the error. -/
def setF (want : Bool → Bool → Bool) (a b : List Span) : List Span := (edgeFold (wantP want a b) (edgesOf a b)).2

def setN (want : Bool → Bool → Bool) (a b : List Span) : Int := if spansMay a && spansMay b then (if 1024 < (setF want a b).length then 4 else 0) else 8

def setL (want : Bool → Bool → Bool) (a b : List Span) : List Span := if setN want a b = 0 then setF want a b else []

set_option maxRecDepth 100000 in
/-- span.edges(a, b). -/
theorem edgesC (A B : Option Addr) (n m c d : Nat) (w : World) :
    Calls Try.prog 156 #[.slice A n c, .slice B m d] w fun e w' => e = .returned (.func (.func 192) #[] #[.pointer (some ⟨w.heap.size, 0, none⟩), .pointer (some ⟨w.heap.size + 1, 0, none⟩)]) ∧ w' = (w.alloc (.cells #[.slice A n c] 94)).alloc (.cells #[.slice B m d] 94) := by
  go_enter Try.func156, Try.ntmps156
  go_wp2
  go_ret
  exact ⟨by simp, rfl⟩

theorem bl_others {w w' : World} (h : Bl w w') : KeepsOthers w w' := ⟨h.size, fun k _ hk _ => (h.block k (Array.getElem?_eq_some_iff.1 hk).1).trans hk⟩

/-- How the world stands between two rounds. -/
structure SetI (w : World) (wf : FuncId) (fB lB n0 : Nat) (s : Int × List Span) (W : World) : Prop where
  bl : Bl w W
  size : n0 ≤ W.heap.size
  fw : Boxed W w.heap.size 157 (.func (.func wf) #[] #[])
  fr : Boxed W fB 31 (.int .u32 s.1)
  l : ∃ v, Boxed W lB 94 v ∧ Own cSpan 93 w.heap.size W v s.2

theorem boxed_stays {W W' : World} {row : Option Nat} {B : Nat} {t : TypeId} {v : Value} (h : Boxed W B t v) (hg : W.grownBy W' row) (hrow : ∀ r, row = some r → ∃ o : Obj, W.heap[r]? = some o ∧ o.isCells = false) : Boxed W' B t v :=
  h.kept hg fun e => by
    obtain ⟨o, ho, hc⟩ := hrow B e.symm
    rw [show W.heap[B]? = _ from h] at ho; cases ho; cases hc

theorem SetI.own {α : Type} {w : World} {wf : FuncId} {fB lB n0 : Nat} (hn : w.heap.size ≤ n0) (f : α → Int × List Span) : OwnFrom n0 (fun s W => SetI w wf fB lB n0 (f s) W) := by
  rintro s X Y row ⟨h1, h0, h2, h3, v, h4, h5⟩ hg hr
  have hr' := fun r e => (hr r e).2
  exact ⟨Below.grown h1 hg h1.size (fun k e => Nat.le_trans hn (hr k e).1), Nat.le_trans h0 hg.size, boxed_stays h2 hg hr', boxed_stays h3 hg hr', v, boxed_stays h4 hg hr', own_kept h5 hg hr'⟩

set_option maxRecDepth 100000 in
set_option maxHeartbeats 4000000 in
theorem spanSet_bad (wf : FuncId) (want : Bool → Bool → Bool)
    (A B : Option Addr) (c d : Nat) (a b : List Span) (w : World) (hl : a.length ≤ maxLen) (hm : b.length ≤ maxLen) (hA : R cSpan 0 w A a) (hB : R cSpan 0 w B b) (h : (spansMay a && spansMay b) = false) :
    Calls Try.prog 124 #[.slice A a.length c, .slice B b.length d, .func (.func wf) #[] #[]] w (New2 cSpan (setL want a b) (setN want a b) w) := by
  have hN : setN want a b = 8 := by unfold setN; rw [h]; rfl
  have hL : setL want a b = [] := by unfold setL; rw [hN]; rfl
  rw [hN, hL]
  clear hN hL
  obtain ⟨W1, hW1⟩ : ∃ W1, W1 = (w.alloc (.cells #[.func (.func wf) #[] #[]] 157)).alloc (.cells #[.slice none 0 0] 94) := ⟨_, rfl⟩
  have hb1 : Bl w W1 := by rw [hW1]; exact ((Bl.refl _).alloc _).alloc _
  have hs1 : W1.heap.size = w.heap.size + 2 := by rw [hW1]; simp
  have l1 : Boxed W1 (w.heap.size + 1) 94 (.slice none 0 0) := by
    rw [hW1]
    have := Boxed.new (w.alloc (.cells #[.func (.func wf) #[] #[]] 157)) 94 (.slice none 0 0)
    rw [World.size_alloc] at this
    exact this
  have hc1 := hide (fun V (hb : Bl w V) => spanCheck A c a V hl (hA.bl hb))
  have hc2 := hide (fun V (hb : Bl w V) => spanCheck B d b V hm (hB.bl hb))
  cases h1 : spansMay a
  · go_enter Try.func124, Try.ntmps124
    go_wp2_with fail
    rw [← hW1]
    clear hW1
    refine (hc1.out _ hb1).mono ?_
    rintro e w2 ⟨rfl, hb2⟩
    rw [h1, okOr_false]
    have l2 := (hb2.cell (b := w.heap.size + 1) (o := 0) (by omega)).trans l1.cell
    have l3 := (hb2.frozen (b := w.heap.size + 1) (o := 0) (by omega)).trans l1.frozen
    go_wp2
    refine bodyPost_ret (v := .tuple #[.slice none 0 0, .int .i64 8]) (by simp [results, Try.results124, go_sem, l2]) rfl ?_
    exact ⟨none, 0, rfl, Nat.le_refl _, Nat.zero_le _, R.nil, (hb1.trans hb2).setCell (p := ⟨w.heap.size + 1, 0, none⟩) (by show w.heap.size ≤ w.heap.size + 1; omega) _⟩
  · have h2 : spansMay b = false := by rw [h1] at h; exact h
    go_enter Try.func124, Try.ntmps124
    go_wp2_with fail
    rw [← hW1]
    clear hW1
    refine (hc1.out _ hb1).mono ?_
    rintro e w2 ⟨rfl, hb2⟩
    rw [h1, okOr_true]
    go_wp2_with fail
    refine (hc2.out _ (hb1.trans hb2)).mono ?_
    rintro e w3 ⟨rfl, hb3⟩
    rw [h2, okOr_false]
    have hb23 := hb2.trans hb3
    have l2 := (hb23.cell (b := w.heap.size + 1) (o := 0) (by omega)).trans l1.cell
    have l3 := (hb23.frozen (b := w.heap.size + 1) (o := 0) (by omega)).trans l1.frozen
    go_wp2
    refine bodyPost_ret (v := .tuple #[.slice none 0 0, .int .i64 8]) (by simp [results, Try.results124, go_sem, l2]) rfl ?_
    exact ⟨none, 0, rfl, Nat.le_refl _, Nat.zero_le _, R.nil, (hb1.trans hb23).setCell (p := ⟨w.heap.size + 1, 0, none⟩) (by show w.heap.size ≤ w.heap.size + 1; omega) _⟩

set_option maxRecDepth 100000 in
set_option maxHeartbeats 4000000 in
theorem spanSet (wf : FuncId) (want : Bool → Bool → Bool) (hwe : ∀ args w, (callFunc wf args).run Try.prog w = .ok (.enter wf args) w)
    (hwant : ∀ p q V, Calls Try.prog wf #[.agg #[.bool p, .bool q]] V fun e w' => e = .returned (.bool (want p q)) ∧ Bl V w')
    (A B : Option Addr) (c d : Nat) (a b : List Span) (w : World) (hl : a.length ≤ maxLen) (hm : b.length ≤ maxLen) (hA : R cSpan 0 w A a) (hB : R cSpan 0 w B b) :
    Calls Try.prog 124 #[.slice A a.length c, .slice B b.length d, .func (.func wf) #[] #[]] w (New2 cSpan (setL want a b) (setN want a b) w) := by
  obtain ⟨L, hL⟩ : ∃ L, L = setL want a b := ⟨_, rfl⟩
  obtain ⟨N, hN⟩ : ∃ N, N = setN want a b := ⟨_, rfl⟩
  rw [← hL, ← hN]
  obtain ⟨i0, hi, hz0, hz1, hz2⟩ := info_parts Try.infoSpan
  have hc1 := fun V (hb : Bl w V) => spanCheck A c a V hl (hA.bl hb)
  have hc2 := fun V (hb : Bl w V) => spanCheck B d b V hm (hB.bl hb)
  cases h1 : spansMay a
  · rw [hL, hN]
    exact spanSet_bad wf want A B c d a b w hl hm hA hB (by rw [h1]; rfl)
  cases h2 : spansMay b
  · rw [hL, hN]
    exact spanSet_bad wf want A B c d a b w hl hm hA hB (by rw [h1, h2]; rfl)
  rw [h1, okOr_true] at hc1
  rw [h2, okOr_true] at hc2
  replace hc1 := hide hc1
  replace hc2 := hide hc2
  replace hL := hide hL
  replace hN := hide hN
  have hmay := hide (And.intro h1 h2)
  clear h1 h2
  obtain ⟨T, hT⟩ : ∃ T, T = edgesOf a b := ⟨_, rfl⟩
  replace hT := hide hT
  refine (callsIn_wide (n := 6)).1 ?_
  refine callsIn_of_wp_marks Try.func124 rfl trivial ?_ rfl
  simp only [Try.ntmps124, List.size_toArray, List.length_cons, List.length_nil, Nat.reduceAdd, Nat.reduceSub, Array.replicate_succ, Array.replicate_zero, List.push_toArray, List.append_toArray, List.nil_append, List.cons_append]
  gi_wp2_with fail
  obtain ⟨W1, hW1⟩ : ∃ W1, W1 = (w.alloc (.cells #[.func (.func wf) #[] #[]] 157)).alloc (.cells #[.slice none 0 0] 94) := ⟨_, rfl⟩
  rw [← hW1]
  have hb1 : Bl w W1 := by rw [hW1]; exact ((Bl.refl _).alloc _).alloc _
  have hs1 : W1.heap.size = w.heap.size + 2 := by rw [hW1]; simp
  have f1 : Boxed W1 w.heap.size 157 (.func (.func wf) #[] #[]) := by rw [hW1]; exact (Boxed.new w _ _).alloc _
  have l1 : Boxed W1 (w.heap.size + 1) 94 (.slice none 0 0) := by
    rw [hW1]
    have := Boxed.new (w.alloc (.cells #[.func (.func wf) #[] #[]] 157)) 94 (.slice none 0 0)
    rw [World.size_alloc] at this
    exact this
  clear hW1
  refine ⟨trivial, (callsIn_wide.2 (hc1.out _ hb1)).mono ?_⟩
  rintro e w2 ⟨rfl, hb2⟩
  gi_wp2_with fail
  refine ⟨trivial, (callsIn_wide.2 (hc2.out _ (hb1.trans hb2))).mono ?_⟩
  rintro e w3 ⟨rfl, hb3⟩
  gi_wp2_with fail
  have hb13 := hb2.trans hb3
  refine ⟨trivial, (callsIn_wide.2 (edgesC A B a.length b.length c d _)).mono ?_⟩
  rintro e w4 ⟨rfl, rfl⟩
  gi_wp2_with fail
  have r4 := Boxed.new w3 31 (.int .u32 0)
  have a4 := Boxed.new (w3.alloc (.cells #[.int .u32 0] 31)) 94 (.slice A a.length c)
  have b4 := Boxed.new ((w3.alloc (.cells #[.int .u32 0] 31)).alloc (.cells #[.slice A a.length c] 94)) 94 (.slice B b.length d)
  simp only [World.size_alloc] at a4 b4
  have r4 := (r4.alloc (.cells #[.slice A a.length c] 94)).alloc (.cells #[.slice B b.length d] 94)
  have a4 := a4.alloc (.cells #[.slice B b.length d] 94)
  have hb4 : Bl w3 (((w3.alloc (.cells #[.int .u32 0] 31)).alloc (.cells #[.slice A a.length c] 94)).alloc (.cells #[.slice B b.length d] 94)) := (((Bl.refl _).alloc _).alloc _).alloc _
  obtain ⟨W5, hW5⟩ : ∃ W5, W5 = (((w3.alloc (.cells #[.int .u32 0] 31)).alloc (.cells #[.slice A a.length c] 94)).alloc (.cells #[.slice B b.length d] 94)) := ⟨_, rfl⟩
  have hs5 : W5.heap.size = w3.heap.size + 3 := by rw [hW5]; simp
  rw [← hW5] at r4 a4 b4 hb4 ⊢
  clear hW5
  have hz13 := hb13.size
  have hbw5 := (hb1.trans hb13).trans hb4
  have f5 := (f1.kept (hb13.trans hb4).grown_none (by intro e; cases e))
  have l5 := (l1.kept (hb13.trans hb4).grown_none (by intro e; cases e))
  have a5 := a4.cell
  have b5 := b4.cell
  clear f1 l1 hc1 hc2 a4 b4
  obtain ⟨fB, hfBe⟩ : ∃ fB, fB = w3.heap.size := ⟨_, rfl⟩
  rw [← hfBe] at r4 a5 b5 hs5 hz13 ⊢
  have hfB1 : w.heap.size + 1 < fB := by omega
  clear hfBe
  have hA5 : RS cSpan W5 (fun x => x < w.heap.size) A a := RS.keep hA (hbw5.keeps fun x hx => hx.2) fun x hx => hx.2
  have hB5 : RS cSpan W5 (fun x => x < w.heap.size) B b := RS.keep hB (hbw5.keeps fun x hx => hx.2) fun x hx => hx.2
  have hTok : ∀ t ∈ T, 1 ≤ t ∧ t ≤ 1073741825 := fun t ht => by
    rw [hT.out] at ht
    obtain ⟨x, hx, e⟩ := ((edges_is a b).mem t).1 ht
    obtain ⟨a1, a2, -⟩ := may_can hmay.out.1
    obtain ⟨b1, b2, -⟩ := may_can hmay.out.2
    rcases hx with hx | hx
    · have := a1.mem hx; have := a2 x hx; omega
    · have := b1.mem hx; have := b2 x hx; omega
  have hTl : T.length ≤ 4096 := by
    have h1 := edges_len a b
    rw [← hT.out] at h1
    obtain ⟨-, -, a3⟩ := may_can hmay.out.1
    obtain ⟨-, -, b3⟩ := may_can hmay.out.2
    omega
  have hst := stOf_ok (wantP want a b) T hTok
  have hsn := stOf_snoc (wantP want a b) T
  have hall := hide (stOf_all (wantP want a b) T)
  have hseq := fun l J Jx W hW hJ hY h0 => edges1 5 l (fB + 1) (fB + 1 + 1) fB (w.heap.size + 1) w.heap.size c d A B a b T hT.out J Jx W (by omega) hmay.out.1 hmay.out.2 (by have := Bl.size hW; omega) (by have := Bl.size hW; omega) (by have := Bl.size hW; omega) ⟨by omega, by omega⟩ ⟨by omega, by omega⟩
      ((Bl.cell hW (by omega)).trans l5.cell) ((Bl.cell hW (by omega)).trans a5) ((Bl.cell hW (by omega)).trans b5) (hA5.keep (Bl.keeps hW fun x hx => by omega) fun _ h => h) (hB5.keep (Bl.keeps hW fun x hx => by omega) fun _ h => h) hJ hY h0
  obtain ⟨tv, htv⟩ : ∃ tv : Fin T.length → Int, tv = T.get := ⟨_, rfl⟩
  obtain ⟨pv, hpv⟩ : ∃ pv : Fin T.length → Bool, pv = fun x => spansHave a (T.get x) := ⟨_, rfl⟩
  obtain ⟨qv, hqv⟩ : ∃ qv : Fin T.length → Bool, qv = fun x => spansHave b (T.get x) := ⟨_, rfl⟩
  have htk : ∀ x, 1 ≤ tv x ∧ tv x ≤ 1073741825 := fun x => by rw [htv]; exact hTok _ (List.get_mem ..)
  have hsn2 : ∀ pre x, stOf (wantP want a b) T (pre ++ [x]) = edgeStep (fun _ => want (pv x) (qv x)) (stOf (wantP want a b) T pre) (tv x) := fun pre x => by
    rw [hsn, htv, hpv, hqv]; rfl
  replace htk := hide htk
  replace hsn2 := hide hsn2
  replace hst := hide hst
  have hseq2 := hide hseq
  clear hsn hTok hseq
  obtain ⟨stf, hstf⟩ : ∃ stf : List (Fin T.length) → Int × List Span, stf = stOf (wantP want a b) T := ⟨_, rfl⟩
  have hnil : stf [] = (0, []) := by rw [hstf]; rfl
  rw [← hstf] at hst hsn2 hall
  replace htv := hide htv
  replace hpv := hide hpv
  replace hqv := hide hqv
  clear hstf
  obtain ⟨n, hn⟩ : ∃ n, n = T.length := ⟨_, rfl⟩
  refine wpIn_rangeFunc_ownH rfl (by omega) (gf := 192) (lb := #[.pointer (some ⟨fB + 1, 0, none⟩), .pointer (some ⟨fB + 1 + 1, 0, none⟩)]) rfl trivial (enters_of Try.func192 (by kernel_rfl) rfl)
    (α := Fin T.length) (encs := fun x => #[.int .u32 (tv x), .agg #[.bool (pv x), .bool (qv x)]]) (Kp := KpL w.heap.size fB (w.heap.size + 1)) (S := fun xs => xs = List.finRange T.length) (Sp := fun _ => True) (N := T.length) (w0 := W5)
    ?seq (fun h k => h.trans k) (fun W l o o' h1 h2 h3 _ => KpL.putObj (n0 := W5.heap.size) (by omega) (by omega) W l o o' h1 h2 h3) (Below.refl _ _) (fun _ => rfl)
    (fun pre W => SetI w wf fB (w.heap.size + 1) W5.heap.size (stf pre) W) (fun _ _ _ => False) (SetI.own (by omega) _) (fun _ _ _ _ _ hs _ _ => hs)
    ⟨hbw5, Nat.le_refl _, f5, by rw [hnil]; exact r4, _, l5, by rw [hnil]; exact Own.nil⟩
    (fun x a' W => ∃ Bx, W5.heap.size ≤ Bx ∧ (W.cell? ⟨Bx, 0, none⟩ = some (.bool (pv x)) ∧ W.cell? ⟨Bx, 1, none⟩ = some (.bool (qv x))) ∧ a' = { tmps := #[.slice A a.length c, .slice B b.length d, .func (.func wf) #[] #[], undef, undef, .pointer (some ⟨w.heap.size, 0, none⟩), .pointer (some ⟨w.heap.size + 1, 0, none⟩), .int .i64 0, .pointer (some ⟨fB, 0, none⟩), .int .u32 (tv x), .pointer (some ⟨Bx, 0, none⟩), .slice A a.length c, .int .i64 0, .bool false, .bool false, .slice B b.length d, .int .i64 0, .bool false, .bool false, .slice A a.length c, .slice B b.length d, .func (.func 192) #[] #[.pointer (some ⟨fB + 1, 0, none⟩), .pointer (some ⟨fB + 1 + 1, 0, none⟩)], .int .u32 (tv x), .agg #[.bool (pv x), .bool (qv x)], undef, undef, undef, undef, undef, undef, undef, undef, undef, undef, undef, undef, undef, undef, undef, undef, undef, undef, undef, undef, undef, undef, undef, undef, undef, undef, undef, undef, undef], defers := [] })
    (fun x a' _ X Y row hs hg hr => by obtain ⟨Bx, h1, ⟨h2, h3⟩, h4⟩ := hs; exact ⟨Bx, h1, ⟨cell_kept h2 hg fun r e => (hr r e).2, cell_kept h3 hg fun r e => (hr r e).2⟩, h4⟩)
    ?assign ?body ?done ?stop
  case seq =>
    intro l J Jx W hW hJ hJx hY h0
    rw [hpv.out, hqv.out, htv.out] at hY
    refine (hseq2.out l J Jx W hW hJ hY h0).mono ?_
    rintro e W' ⟨h1, h2⟩
    refine ⟨h1, h2.imp id ?_⟩
    rintro ⟨pre, h⟩
    exact ⟨pre, trivial, h⟩
  case assign =>
    rintro l pre x W K hI hK
    clear hseq2 hall hst hsn2
    gi_wp2
    have hbx : Bl W (W.alloc (.cells #[.bool (pv x), .bool (qv x)] 156)) := (Bl.refl _).alloc _
    obtain ⟨h1, h0, h2, h3, v, h4, h5⟩ := hI
    exact hK _ _ ((bl_others hbx).from _) ((KpL.refl _ _ _ _).bl hbx h1.size (by have := h4.lt; omega)) ⟨h1.trans hbx, Nat.le_trans h0 hbx.size, h2.alloc _, h3.alloc _, v, h4.alloc _, h5.bl hbx⟩ ⟨W.heap.size, h0, ⟨by rw [cell_of_row _ W.heap.size 0 _ _ (0, 0) (heap_alloc_new W _)]; rfl, by rw [cell_of_row _ W.heap.size 1 _ _ (0, 0) (heap_alloc_new W _)]; rfl⟩, rfl⟩
  case body =>
    rintro lp pre x a' W hlp ⟨rr, hrr⟩ ⟨h1, h0, h2, h3, v, h4, h5⟩ ⟨Bx, hBx, ⟨b0, b1⟩, rfl⟩ hlt
    clear hseq2 hall
    have hsx := hsn2.out pre x
    obtain ⟨o1, o2, o3, o4⟩ := hst.out pre.length pre rfl
    obtain ⟨t1, t2⟩ := htk.out x
    clear hsn2 hst htk
    generalize stf pre = s at *
    obtain ⟨fr, acc⟩ := s
    dsimp only at *
    generalize tv x = t at *
    generalize pv x = p at *
    generalize qv x = q at *
    have hcall := fun V => hwant p q V
    have F0 := h3.cell
    have F1 := h3.frozen
    have G0 := h2.cell
    have L0 := h4.cell
    have L1 := h4.frozen
    have hlb := h4.lt
    have hfb := h3.lt
    have hws : w.heap.size ≤ W.heap.size := h1.size
    by_cases hz : fr = 0
    · subst hz
      cases hq : want p q
      · rw [hq] at hcall
        have hs' : stf (pre ++ [x]) = (0, acc) := by rw [hsx]; unfold edgeStep; rw [if_pos rfl, if_neg (by rw [hq]; simp)]
        replace hs' := hide hs'
        replace hcall := hide hcall
        clear hq hsx
        gi_wp2_with fail
        refine ⟨trivial, (CallsIn.inRound lp (callsIn_wide.2 (hcall.out _))).mono ?_⟩
        rintro e w1 ⟨rfl, hbq⟩
        have F0' := (hbq.cell (b := fB) (o := 0) hfb).trans F0
        gi_wp2
        refine ⟨(fun f h => nomatch h), ?_⟩
        gi_wp2
        refine ⟨(bl_others hbq).from _, (KpL.refl _ _ _ _).bl hbq hws hlb, h1.trans hbq, Nat.le_trans h0 hbq.size, h2.kept hbq.grown_none (by intro e; cases e), by rw [hs'.out]; exact h3.kept hbq.grown_none (by intro e; cases e), v, h4.kept hbq.grown_none (by intro e; cases e), by rw [hs'.out]; exact h5.bl hbq⟩
      · rw [hq] at hcall
        have hs' : stf (pre ++ [x]) = (t, acc) := by rw [hsx]; unfold edgeStep; rw [if_pos rfl, if_pos hq]
        replace hs' := hide hs'
        replace hcall := hide hcall
        clear hq hsx
        gi_wp2_with fail
        refine ⟨trivial, (CallsIn.inRound lp (callsIn_wide.2 (hcall.out _))).mono ?_⟩
        rintro e w1 ⟨rfl, hbq⟩
        have F0' := (hbq.cell (b := fB) (o := 0) hfb).trans F0
        have F1' := (hbq.frozen (b := fB) (o := 0) hfb).trans F1
        gi_wp2
        have k2 := h2.kept hbq.grown_none (by intro e; cases e)
        have k3 := h3.kept hbq.grown_none (by intro e; cases e)
        have k4 := h4.kept hbq.grown_none (by intro e; cases e)
        exact ⟨((bl_others hbq).trans (KeepsOthers.setCell _ _ _)).from _, ((KpL.refl _ _ _ _).bl hbq hws hlb).trans (KpL.setF (by omega) (by omega) _), (h1.trans hbq).setCell (p := ⟨fB, 0, none⟩) (by show w.heap.size ≤ fB; omega) _, by simp [World.setCell]; exact Nat.le_trans h0 hbq.size, k2.other (by omega) _, by rw [hs'.out]; exact k3.set _, v, k4.other (by omega) _, by rw [hs'.out]; exact own_set (h5.bl hbq) k3 (by decide) _⟩
    · have hfr : (fr == 0) = false := by simpa using hz
      have hfr2 : 0 < fr := by omega
      cases hq : want p q
      · rw [hq] at hcall
        have hs' : stf (pre ++ [x]) = (0, acc ++ [(⟨fr, t - 1⟩ : Span)]) := by rw [hsx]; unfold edgeStep; rw [if_neg hz, if_neg (by rw [hq]; simp)]
        replace hs' := hide hs'
        replace hcall := hide hcall
        clear hq hsx hz
        gi_wp2_with fail
        refine ⟨(fun f h => nomatch h), ?_⟩
        gi_wp2_with fail
        refine ⟨trivial, (CallsIn.inRound lp (callsIn_wide.2 (hcall.out _))).mono ?_⟩
        rintro e w1 ⟨rfl, hbq⟩
        have F0' := (hbq.cell (b := fB) (o := 0) hfb).trans F0
        have F1' := (hbq.frozen (b := fB) (o := 0) hfb).trans F1
        have L0' := (hbq.cell (b := w.heap.size + 1) (o := 0) hlb).trans L0
        have L1' := (hbq.frozen (b := w.heap.size + 1) (o := 0) hlb).trans L1
        have hown5 : Own cSpan 93 w.heap.size w1 v acc := h5.bl hbq
        have hzq := hbq.size
        have hown6 := hown5.bl ((Bl.refl w1).alloc (.cells #[.int .u32 fr, .int .u32 (t - 1)] 93))
        have hsrc := Own.src (t := 93) (w1 := w1) (cs := [.int .u32 fr, .int .u32 (t - 1)]) (x := ⟨fr, t - 1⟩) hown5 (Bl.refl _) (by omega) ⟨by refine ⟨?_, ?_, ?_, ?_⟩ <;> dsimp only <;> omega, rfl⟩
        have k4 := h4.kept hbq.grown_none (by intro e; cases e)
        have k3 := h3.kept hbq.grown_none (by intro e; cases e)
        have k2 := h2.kept hbq.grown_none (by intro e; cases e)
        have hal : acc.length ≤ 4096 := by omega
        gi_wp2_with (gi_at_builtin; refine Hid.out ?_)
        refine hide ?_
        refine wpListIn_append_own2 (C := cSpan) (xs := acc) (ys := [⟨fr, t - 1⟩]) _ rfl (.tmp 42) (.tmp 47) _ rfl w.heap.size 93 i0 _ 8 Try.underlying94 hi hz0 hz1 hz2 rfl v rfl hown6 ⟨w1.heap.size, 0, none⟩ 1 1 rfl rfl hsrc (by unfold maxLen; simp; omega) (by simp; omega) (by rw [World.size_alloc]; omega) ?_
        intro v9 w9 hown9 hg9 hf9
        have hb9 := k4.not_row (by decide) (Classical.choose_spec hown5).1
        have k49 : Boxed w9 (w.heap.size + 1) 94 v := (k4.alloc (.cells #[.int .u32 fr, .int .u32 (t - 1)] 93)).kept hg9 hb9
        have k39 : Boxed w9 fB 31 (.int .u32 fr) := (k3.alloc (.cells #[.int .u32 fr, .int .u32 (t - 1)] 93)).kept hg9 (k3.not_row (by decide) (Classical.choose_spec hown5).1)
        have k29 : Boxed w9 w.heap.size 157 (.func (.func wf) #[] #[]) := (k2.alloc (.cells #[.int .u32 fr, .int .u32 (t - 1)] 93)).kept hg9 (k2.not_row (by decide) (Classical.choose_spec hown5).1)
        have hbl9 : Bl w w9 := ((h1.trans hbq).alloc (.cells #[.int .u32 fr, .int .u32 (t - 1)] 93)).app hown6 (Nat.le_refl _) hg9
        have hs9 : w1.heap.size ≤ w9.heap.size := by have := hg9.size; rw [World.size_alloc] at this; omega
        have hko : KeepsOthers w1 w9 := (KeepsOthers.alloc w1 (.cells #[.int .u32 fr, .int .u32 (t - 1)] 93)).trans (KeepsOthers.of_grownBy hg9 fun j o ej hj => by
          obtain ⟨cells, ho, -⟩ := hown6
          rcases ho.2 with ⟨rfl, _⟩ | ⟨g, cap, cur, rfl, _, hgb, _⟩
          · cases ej
          · obtain rfl : g = j := by simpa [Value.ownBlock] using ej
            rw [hgb] at hj; cases hj; rfl)
        have hkp := KpL.put (fB := fB) (tmp := .cells #[.int .u32 fr, .int .u32 (t - 1)] 93) (Nat.le_succ _) (by omega) k4 hown5 hg9 hf9 k49
        obtain ⟨A9, c9, rfl, -, -, -⟩ := hown9.reads
        have k39' := k39.other (B' := w.heap.size + 1) (by omega) (.slice A9 (acc ++ [(⟨fr, t - 1⟩ : Span)]).length c9)
        have ho9 := own_set (own_set hown9 k49 (by decide) (.slice A9 (acc ++ [(⟨fr, t - 1⟩ : Span)]).length c9)) k39' (by decide) (.int .u32 0)
        have hkp2 := (((KpL.refl w.heap.size fB (w.heap.size + 1) W).bl hbq hws hlb).trans hkp).trans (KpL.setF (fB := fB) (by omega) (by omega) (.int .u32 0))
        have L9 := k49.cell
        have L9f := k49.frozen
        have F9 := k39.cell
        have F9f := k39.frozen
        clear F0 F1 G0 L0 L1 F0' F1' L0' L1' hsrc hown5 hown6 hown9
        have hall9 : KeepsOthers W ((w9.setCell ⟨w.heap.size + 1, 0, none⟩ (.slice A9 (acc ++ [(⟨fr, t - 1⟩ : Span)]).length c9)).setCell ⟨fB, 0, none⟩ (.int .u32 0)) ∧ KpL w.heap.size fB (w.heap.size + 1) W ((w9.setCell ⟨w.heap.size + 1, 0, none⟩ (.slice A9 (acc ++ [(⟨fr, t - 1⟩ : Span)]).length c9)).setCell ⟨fB, 0, none⟩ (.int .u32 0)) ∧ SetI w wf fB (w.heap.size + 1) W5.heap.size (stf (pre ++ [x])) ((w9.setCell ⟨w.heap.size + 1, 0, none⟩ (.slice A9 (acc ++ [(⟨fr, t - 1⟩ : Span)]).length c9)).setCell ⟨fB, 0, none⟩ (.int .u32 0)) :=
          ⟨(((bl_others hbq).trans hko).trans (KeepsOthers.setCell _ _ _)).trans (KeepsOthers.setCell _ _ _), hkp2, (hbl9.setCell (p := ⟨w.heap.size + 1, 0, none⟩) (by show w.heap.size ≤ w.heap.size + 1; omega) _).setCell (p := ⟨fB, 0, none⟩) (by show w.heap.size ≤ fB; omega) _, by simp [World.setCell]; omega, (k29.other (by omega) _).other (by omega) _, by rw [hs'.out]; exact k39'.set _, _, (k49.set _).other (by omega) _, by rw [hs'.out]; exact ho9⟩
        clear hkp hkp2 ho9 k39' hko hbl9 k49 k39 k29 k4 k3 k2
        replace hall9 := hide hall9
        gi_wp2
        obtain ⟨q1, q2, q3⟩ := hall9.out
        rw [show (acc ++ [(⟨fr, t - 1⟩ : Span)]).length = acc.length + 1 by simp] at q1 q2 q3
        exact ⟨q1.from _, q2, q3⟩
      · rw [hq] at hcall
        have hs' : stf (pre ++ [x]) = (fr, acc) := by rw [hsx]; unfold edgeStep; rw [if_neg hz, if_pos hq]
        replace hs' := hide hs'
        replace hcall := hide hcall
        clear hq hsx hz
        gi_wp2_with fail
        refine ⟨(fun f h => nomatch h), ?_⟩
        gi_wp2_with fail
        refine ⟨trivial, (CallsIn.inRound lp (callsIn_wide.2 (hcall.out _))).mono ?_⟩
        rintro e w1 ⟨rfl, hbq⟩
        gi_wp2
        refine ⟨(bl_others hbq).from _, (KpL.refl _ _ _ _).bl hbq hws hlb, h1.trans hbq, Nat.le_trans h0 hbq.size, h2.kept hbq.grown_none (by intro e; cases e), by rw [hs'.out]; exact h3.kept hbq.grown_none (by intro e; cases e), v, h4.kept hbq.grown_none (by intro e; cases e), by rw [hs'.out]; exact h5.bl hbq⟩
  case done =>
    rintro D ys W hD rfl ⟨h1, h0, h2, h3, v, h4, h5⟩ hK
    rw [hall.out] at h3 h5
    have hcase : (1024 < (setF want a b).length ∧ L = [] ∧ N = 4) ∨ (¬ 1024 < (setF want a b).length ∧ L = setF want a b ∧ N = 0) := by
      rw [hL.out, hN.out]
      unfold setL setN
      rw [hmay.out.1, hmay.out.2]
      by_cases h : 1024 < (setF want a b).length <;> simp [h]
    have hF : (edgeFold (wantP want a b) T).2 = setF want a b := by rw [hT.out]; rfl
    rw [hF] at h5
    replace hcase := hide hcase
    clear hseq2 hall hst hsn2
    obtain ⟨A9, c9, rfl, hr9, h91, h92⟩ := h5.reads
    have L0 := h4.cell
    have L1 := h4.frozen
    generalize setF want a b = F at *
    rcases hcase.out with ⟨g1, rfl, rfl⟩ | ⟨g1, rfl, rfl⟩
    · have g2 : (1024 : Int) < (F.length : Int) := by omega
      gi_wp2
      have hK' := (KeepsOthers.setCell W ⟨w.heap.size + 1, 0, none⟩ (.slice none 0 0)).same D _ hK rfl
      have q0 := cell_kept (h4.set (.slice none 0 0)).cell (grownBy_putObj' _ D (.deferred none)) (fun r e => by cases e; exact ⟨_, hK', rfl⟩)
      refine ⟨by simp, .inl ⟨_, _, rfl, run_takeDeferred hK', ?_⟩⟩
      refine ⟨.tuple #[.slice none 0 0, .int .i64 4], ?_, none, 0, rfl, Nat.le_refl _, Nat.zero_le _, R.nil, ?_⟩
      · simp [results, Try.results124, go_sem, q0]
      · exact Below.trans (h1.setCell (p := ⟨w.heap.size + 1, 0, none⟩) (by show w.heap.size ≤ w.heap.size + 1; omega) _) (belowK_b (w := w) (Nat.le_refl _) _ D _ _ (by omega) hK' rfl rfl)
    · have g2 : ¬ (1024 : Int) < (L.length : Int) := by omega
      gi_wp2
      have hK' := (KeepsOthers.setCell W ⟨w.heap.size + 1, 0, none⟩ (.slice A9 L.length c9)).same D _ hK rfl
      have q0 := cell_kept (h4.set (.slice A9 L.length c9)).cell (grownBy_putObj' _ D (.deferred none)) (fun r e => by cases e; exact ⟨_, hK', rfl⟩)
      have ho := own_kept (own_set h5 h4 (by decide) (.slice A9 L.length c9)) (grownBy_putObj' _ D (.deferred none)) (fun r e => by cases e; exact ⟨_, hK', rfl⟩)
      obtain ⟨A8, c8, e8, hr8, h81, h82⟩ := ho.reads
      injection e8 with e81 _ e82
      subst e81 e82
      refine ⟨by simp, .inl ⟨_, _, rfl, run_takeDeferred hK', ?_⟩⟩
      refine ⟨.tuple #[.slice A9 L.length c9, .int .i64 0], ?_, A9, c9, rfl, h81, h82, hr8, ?_⟩
      · simp [results, Try.results124, go_sem, q0]
      · exact Below.trans (h1.setCell (p := ⟨w.heap.size + 1, 0, none⟩) (by show w.heap.size ≤ w.heap.size + 1; omega) _) (belowK_b (w := w) (Nat.le_refl _) _ D _ _ (by omega) hK' rfl rfl)
  case stop =>
    rintro D c' pre W hD hk hf hK
    exact hf.elim
end Go.Proofs.Ytkolimhkfiebeaa

namespace Go.Proofs.Ytkolimhkfiebeaa
open Go.RowKit

/-! ### With -/

def growX (x y : Span) : Span := if x.f ≤ y.t + 1 ∧ y.f ≤ x.t + 1 then ⟨min x.f y.f, max x.t y.t⟩ else x

def growF (l : List Span) (x : Span) : Span := l.foldl growX x

def withF (l : List Span) (x : Span) : List Span := l.filter (fun y => decide (y.t + 1 < x.f)) ++ growF l x :: l.filter (fun y => decide ((growF l x).t + 1 < y.f))

theorem growX_wide (x y : Span) (_hx : x.f ≤ x.t) : (growX x y).f ≤ x.f ∧ x.t ≤ (growX x y).t := by
  unfold growX
  split
  · dsimp only; omega
  · omega

theorem growF_wide : ∀ (l : List Span) (x : Span), x.f ≤ x.t → (growF l x).f ≤ x.f ∧ x.t ≤ (growF l x).t
  | [], x, _ => ⟨Int.le_refl _, Int.le_refl _⟩
  | y :: l, x, h => by
    have h1 := growX_wide x y h
    have h2 := growF_wide l (growX x y) (by omega)
    show (growF l (growX x y)).f ≤ x.f ∧ x.t ≤ (growF l (growX x y)).t
    omega

theorem growF_still : ∀ (l : List Span) (x : Span), Can (x.t + 2) l → growF l x = x
  | [], _, _ => rfl
  | y :: l, x, ⟨h1, h2, h3⟩ => by
    show growF l (growX x y) = x
    have e : growX x y = x := by unfold growX; rw [if_neg (by omega)]
    rw [e]
    exact growF_still l x (h3.low (by omega))

theorem growF_low : ∀ (l : List Span) (x : Span) (a : Int), Can a l → a ≤ x.f → a ≤ (growF l x).f
  | [], _, _, _, h => h
  | y :: l, x, a, ⟨h1, h2, h3⟩, h => by
    show a ≤ (growF l (growX x y)).f
    refine growF_low l _ a (h3.low (by omega)) ?_
    unfold growX
    split
    · dsimp only; omega
    · exact h

theorem growF_in : ∀ (l : List Span) (x : Span) (u : Int), (∀ y ∈ l, y.f ≤ y.t) → x.f ≤ x.t → inX (growF l x) u = true → inX x u = true ∨ spansHave l u = true
  | [], _, _, _, _, h => .inl h
  | y :: l, x, u, hl, hx, h => by
    have hy := hl y (List.mem_cons_self ..)
    have hw := growX_wide x y hx
    rcases growF_in l (growX x y) u (fun z hz => hl z (List.mem_cons_of_mem _ hz)) (by omega) h with h | h
    · have h := inX_iff.1 h
      unfold growX at h
      split at h
      · dsimp only at h
        by_cases e : x.f ≤ u ∧ u ≤ x.t
        · exact .inl (inX_iff.2 e)
        · refine .inr ?_
          rw [have_cons, inX_iff.2 (by omega)]
          rfl
      · exact .inl (inX_iff.2 h)
    · exact .inr (by rw [have_cons, h, Bool.or_true])

theorem growF_three : ∀ (l : List Span) (x : Span) (a : Int), Can a l → x.f ≤ x.t → ∀ y ∈ l, (y.t + 1 < (growF l x).f ∧ y.t + 1 < x.f) ∨ (x.f ≤ y.t + 1 ∧ (growF l x).f ≤ y.f ∧ y.t ≤ (growF l x).t) ∨ (growF l x).t + 1 < y.f
  | [], _, _, _, _, y, h => by cases h
  | z :: l, x, a, ⟨h1, h2, h3⟩, hx, y, h => by
    show (y.t + 1 < (growF l (growX x z)).f ∧ y.t + 1 < x.f) ∨ (x.f ≤ y.t + 1 ∧ (growF l (growX x z)).f ≤ y.f ∧ y.t ≤ (growF l (growX x z)).t) ∨ (growF l (growX x z)).t + 1 < y.f
    have hw := growX_wide x z hx
    have hw2 := growF_wide l (growX x z) (by omega)
    by_cases c1 : z.t + 1 < x.f
    · have e : growX x z = x := by unfold growX; rw [if_neg (by omega)]
      rw [e] at hw2 ⊢
      rcases List.mem_cons.1 h with rfl | h
      · have := growF_low l x (y.t + 2) h3 (by omega)
        exact .inl (by omega)
      · exact growF_three l x _ h3 hx y h
    · by_cases c2 : z.f ≤ x.t + 1
      · have e : growX x z = ⟨min x.f z.f, max x.t z.t⟩ := by unfold growX; rw [if_pos (by omega)]
        rcases List.mem_cons.1 h with rfl | h
        · rw [e] at hw2 ⊢
          dsimp only at hw2
          exact .inr (.inl (by omega))
        · have hy := h3.mem h
          rcases growF_three l (growX x z) _ h3 (by omega) y h with k | k | k
          · exact .inl (by omega)
          · exact .inr (.inl (by omega))
          · exact .inr (.inr k)
      · have e : growX x z = x := by unfold growX; rw [if_neg (by omega)]
        have hs := growF_still l x (h3.low (by omega))
        rw [e, hs]
        refine .inr (.inr ?_)
        rcases List.mem_cons.1 h with rfl | h
        · omega
        · have := h3.mem h
          omega

theorem Can.filter {p : Span → Bool} : ∀ {l : List Span} {a : Int}, Can a l → Can a (l.filter p)
  | [], _, _ => trivial
  | x :: l, a, ⟨h1, h2, h3⟩ => by
    rw [List.filter_cons]
    split
    · exact ⟨h1, h2, h3.filter⟩
    · exact h3.filter.low (by omega)

theorem Can.raise {l : List Span} {a b : Int} (h : Can a l) (hb : ∀ y ∈ l, b ≤ y.f) : Can b l := by
  cases l with
  | nil => trivial
  | cons x l => exact ⟨hb x (List.mem_cons_self ..), h.2.1, h.2.2⟩

theorem Can.join {m : List Span} {b : Int} (hm : Can b m) : ∀ {l : List Span} {a : Int}, Can a l → (∀ y ∈ l, y.t + 2 ≤ b) → a ≤ b → Can a (l ++ m)
  | [], a, _, _, h => hm.low h
  | x :: l, a, ⟨h1, h2, h3⟩, hl, h => ⟨h1, h2, hm.join h3 (fun y hy => hl y (List.mem_cons_of_mem _ hy)) (by have := hl x (List.mem_cons_self ..); omega)⟩

theorem with_ok {l : List Span} {x : Span} (hl : Can 1 l) (h1 : 1 ≤ x.f) (hx : x.f ≤ x.t) : Can 1 (withF l x) ∧ ∀ u, spansHave (withF l x) u = (spansHave l u || inX x u) := by
  have hw := growF_wide l x hx
  have ht := growF_three l x 1 hl hx
  have hlow := growF_low l x 1 hl h1
  refine ⟨?_, fun u => ?_⟩
  · have hm : Can (growF l x).f (growF l x :: l.filter (fun y => decide ((growF l x).t + 1 < y.f))) := ⟨Int.le_refl _, by omega, Can.raise hl.filter fun y hy => by
      have := (List.mem_filter.1 hy).2
      simp at this
      omega⟩
    refine Can.join hm hl.filter (fun y hy => ?_) hlow
    · obtain ⟨m, p⟩ := List.mem_filter.1 hy
      simp at p
      have := hl.mem m
      rcases ht y m with k | k | k <;> omega
  · rw [Bool.eq_iff_iff]
    unfold withF
    rw [have_append, have_cons]
    constructor
    · intro h
      rw [Bool.or_eq_true, Bool.or_eq_true] at h
      rw [Bool.or_eq_true]
      rcases h with h | h | h
      · obtain ⟨y, hy, e⟩ := have_iff.1 h
        exact .inl (have_iff.2 ⟨y, (List.mem_filter.1 hy).1, e⟩)
      · exact (growF_in l x u (fun y hy => (hl.mem hy).2) hx h).symm
      · obtain ⟨y, hy, e⟩ := have_iff.1 h
        exact .inl (have_iff.2 ⟨y, (List.mem_filter.1 hy).1, e⟩)
    · intro h
      rw [Bool.or_eq_true] at h
      rw [Bool.or_eq_true, Bool.or_eq_true]
      rcases h with h | h
      · obtain ⟨y, hy, e⟩ := have_iff.1 h
        rcases ht y hy with k | k | k
        · exact .inl (have_iff.2 ⟨y, List.mem_filter.2 ⟨hy, by simpa using k.2⟩, e⟩)
        · exact .inr (.inl (inX_iff.2 (by omega)))
        · exact .inr (.inr (have_iff.2 ⟨y, List.mem_filter.2 ⟨hy, by simpa using k⟩, e⟩))
      · have := inX_iff.1 h
        exact .inr (.inl (inX_iff.2 (by omega)))

/-! ### Without -/

def cutX (x y : Span) : List Span := if y.t < x.f ∨ x.t < y.f then [y] else (if y.f < x.f then [⟨y.f, x.f - 1⟩] else []) ++ (if x.t < y.t then [⟨x.t + 1, y.t⟩] else [])

def withoutF (l : List Span) (x : Span) : List Span := l.flatMap (cutX x)

theorem cut_ok (x y : Span) (hx : x.f ≤ x.t) (hy : y.f ≤ y.t) : Can y.f (cutX x y) ∧ (∀ z ∈ cutX x y, z.t ≤ y.t) ∧ ∀ u, spansHave (cutX x y) u = (inX y u && !inX x u) := by
  have key : ∀ u, (y.t < x.f ∨ x.t < y.f) → inX y u = (inX y u && !inX x u) := fun u h => by
    cases e : inX y u
    · rfl
    · have := inX_iff.1 e
      have e2 : inX x u = false := by
        cases e3 : inX x u
        · rfl
        · have := inX_iff.1 e3; omega
      rw [e2]; rfl
  unfold cutX
  by_cases c0 : y.t < x.f ∨ x.t < y.f
  · rw [if_pos c0]
    refine ⟨⟨Int.le_refl _, hy, trivial⟩, fun z hz => by rw [List.mem_singleton] at hz; subst hz; exact Int.le_refl _, fun u => ?_⟩
    rw [have_one]
    exact key u c0
  · rw [if_neg c0]
    have two : ∀ (P Q : Bool) (p q : Prop) [Decidable p] [Decidable q], True := fun _ _ _ _ _ _ => trivial
    clear two
    have bool : ∀ (P Q R : Bool), (P = true ↔ (Q = true ∧ R = false)) → P = (Q && !R) := fun P Q R h => by cases P <;> cases Q <;> cases R <;> simp_all
    by_cases c1 : y.f < x.f <;> by_cases c2 : x.t < y.t <;> simp only [c1, c2, if_true, if_false, List.append_nil, List.nil_append, List.cons_append]
    · refine ⟨⟨Int.le_refl _, by dsimp only; omega, by dsimp only; omega, by dsimp only; omega, trivial⟩, fun z hz => ?_, fun u => bool _ _ _ ?_⟩
      · rcases List.mem_cons.1 hz with rfl | hz
        · dsimp only; omega
        · rw [List.mem_singleton] at hz; subst hz; exact Int.le_refl _
      · rw [have_cons, have_one, Bool.or_eq_true, inX_iff, inX_iff, inX_iff, ← Bool.not_eq_true, inX_iff]
        dsimp only
        omega
    · refine ⟨⟨Int.le_refl _, by dsimp only; omega, trivial⟩, fun z hz => by rw [List.mem_singleton] at hz; subst hz; dsimp only; omega, fun u => bool _ _ _ ?_⟩
      rw [have_one, inX_iff, inX_iff, ← Bool.not_eq_true, inX_iff]
      dsimp only
      omega
    · refine ⟨⟨by dsimp only; omega, by dsimp only; omega, trivial⟩, fun z hz => by rw [List.mem_singleton] at hz; subst hz; dsimp only; omega, fun u => bool _ _ _ ?_⟩
      rw [have_one, inX_iff, inX_iff, ← Bool.not_eq_true, inX_iff]
      dsimp only
      omega
    · refine ⟨trivial, (fun z hz => by cases hz), fun u => bool _ _ _ ?_⟩
      rw [have_nil, inX_iff, ← Bool.not_eq_true, inX_iff]
      simp only [Bool.false_eq_true, false_iff]
      omega

theorem without_ok : ∀ {l : List Span} {a : Int} {x : Span}, Can a l → x.f ≤ x.t → Can a (withoutF l x) ∧ ∀ u, spansHave (withoutF l x) u = (spansHave l u && !inX x u)
  | [], _, _, _, _ => ⟨trivial, fun _ => rfl⟩
  | y :: l, a, x, ⟨h1, h2, h3⟩, hx => by
    obtain ⟨k1, k2⟩ := without_ok h3 hx
    obtain ⟨c1, c2, c3⟩ := cut_ok x y hx h2
    unfold withoutF at *
    rw [List.flatMap_cons]
    refine ⟨k1.join (c1.low h1) (fun z hz => by have := c2 z hz; omega) (by omega), fun u => ?_⟩
    rw [have_append, k2, c3, have_cons]
    cases inX y u <;> cases spansHave l u <;> cases inX x u <;> rfl

/-! ### Both, Left -/

def bothF (a b : List Span) : List Span := b.foldl withF a

def leftF (a b : List Span) : List Span := b.foldl withoutF a

theorem both_ok : ∀ {b a : List Span} {c : Int}, Can 1 a → Can c b → 1 ≤ c → Can 1 (bothF a b) ∧ ∀ u, spansHave (bothF a b) u = (spansHave a u || spansHave b u)
  | [], a, _, ha, _, _ => ⟨ha, fun u => by show spansHave a u = _; rw [have_nil, Bool.or_false]⟩
  | x :: b, a, c, ha, ⟨h1, h2, h3⟩, hc => by
    obtain ⟨k1, k2⟩ := with_ok ha (show 1 ≤ x.f by omega) h2
    obtain ⟨m1, m2⟩ := both_ok k1 h3 (by omega)
    refine ⟨m1, fun u => ?_⟩
    rw [show bothF a (x :: b) = bothF (withF a x) b from rfl, m2, k2, have_cons, Bool.or_assoc]

theorem left_ok : ∀ {b a : List Span} {c : Int}, Can 1 a → Can c b → Can 1 (leftF a b) ∧ ∀ u, spansHave (leftF a b) u = (spansHave a u && !spansHave b u)
  | [], a, _, ha, _ => ⟨ha, fun u => by show spansHave a u = _; rw [have_nil]; simp⟩
  | x :: b, a, c, ha, ⟨h1, h2, h3⟩ => by
    obtain ⟨k1, k2⟩ := without_ok ha h2
    obtain ⟨m1, m2⟩ := left_ok k1 h3
    refine ⟨m1, fun u => ?_⟩
    rw [show leftF a (x :: b) = leftF (withoutF a x) b from rfl, m2, k2, have_cons]
    cases spansHave a u <;> cases inX x u <;> cases spansHave b u <;> rfl

/-- All times are small, where those of two others are. -/
theorem top_or {l a b : List Span} (h : Can 1 l) (hm : ∀ u, spansHave l u = true → spansHave a u = true ∨ spansHave b u = true) (ha : ∀ x ∈ a, x.t ≤ 1073741824) (hb : ∀ x ∈ b, x.t ≤ 1073741824) : ∀ x ∈ l, x.t ≤ 1073741824 := fun x hx => by
  rcases hm x.t (have_iff.2 ⟨x, hx, (h.mem hx).2, Int.le_refl _⟩) with k | k
  · obtain ⟨y, hy, h1, h2⟩ := have_iff.1 k
    have := ha y hy
    omega
  · obtain ⟨y, hy, h1, h2⟩ := have_iff.1 k
    have := hb y hy
    omega

theorem Can.many : ∀ {l : List Span} {a : Int}, Can a l → (∀ x ∈ l, x.t ≤ 1073741824) → a ≤ 1073741826 → 2 * (l.length : Int) ≤ 1073741826 - a
  | [], _, _, _, h => by simp; omega
  | x :: l, a, ⟨h1, h2, h3⟩, h, _ => by
    have hx := h x (List.mem_cons_self ..)
    have := h3.many (fun y hy => h y (List.mem_cons_of_mem _ hy)) (by omega)
    rw [List.length_cons]
    push_cast
    omega

theorem from_len {l : List Span} (h : spansFrom 1 l = true) : l.length ≤ 536870912 := by
  obtain ⟨h1, h2⟩ := from_can.1 h
  have := h1.many h2 (by omega)
  omega

theorem with_from {l : List Span} {x : Span} (hl : spansFrom 1 l = true) (h1 : 1 ≤ x.f) (hx : x.f ≤ x.t) (h2 : x.t ≤ 1073741824) : spansFrom 1 (withF l x) = true := by
  obtain ⟨k1, k2⟩ := from_can.1 hl
  obtain ⟨m1, m2⟩ := with_ok k1 h1 hx
  refine from_can.2 ⟨m1, top_or (b := [x]) m1 (fun u hu => ?_) k2 fun y hy => by rw [List.mem_singleton] at hy; subst hy; exact h2⟩
  rw [m2, Bool.or_eq_true] at hu
  rwa [have_one]

theorem without_from {l : List Span} {x : Span} (hl : spansFrom 1 l = true) (hx : x.f ≤ x.t) : spansFrom 1 (withoutF l x) = true := by
  obtain ⟨k1, k2⟩ := from_can.1 hl
  obtain ⟨m1, m2⟩ := without_ok k1 hx
  refine from_can.2 ⟨m1, top_of m1 (fun u hu => ?_) k2⟩
  rw [m2, Bool.and_eq_true] at hu
  exact hu.1

/-! ### What comes of the edges -/

def orB (p q : Bool) : Bool := p || q

def lessB (p q : Bool) : Bool := p && !q

theorem setF_ok {a b : List Span} (want : Bool → Bool → Bool) (hw : want false false = false) (ha : Can 1 a) (hb : Can 1 b) : Can 1 (setF want a b) ∧ ∀ u, spansHave (setF want a b) u = want (spansHave a u) (spansHave b u) :=
  edges_ok want hw ha hb (edges_is a b)

theorem setF_or {a b : List Span} (ha : Can 1 a) (hb : Can 1 b) : setF orB a b = bothF a b := by
  obtain ⟨h1, h2⟩ := setF_ok orB rfl ha hb
  obtain ⟨k1, k2⟩ := both_ok ha hb (Int.le_refl _)
  exact h1.ext k1 fun u => by rw [h2, k2]; rfl

theorem setF_less {a b : List Span} (ha : Can 1 a) (hb : Can 1 b) : setF lessB a b = leftF a b := by
  obtain ⟨h1, h2⟩ := setF_ok lessB rfl ha hb
  obtain ⟨k1, k2⟩ := left_ok ha hb
  exact h1.ext k1 fun u => by rw [h2, k2]; rfl

theorem setF_len (want : Bool → Bool → Bool) (a b : List Span) : (setF want a b).length ≤ a.length + b.length := by
  unfold setF edgeFold
  have := edge_len (wantP want a b) (edgesOf a b) (0, [])
  have h2 := edges_len a b
  simp at this
  omega

def toldL (l : List Span) : List Span := if 1024 < l.length then [] else l

def toldN (l : List Span) : Int := if 1024 < l.length then 4 else 0

theorem setL_eq (want : Bool → Bool → Bool) (a b : List Span) : setL want a b = if spansMay a && spansMay b then toldL (setF want a b) else [] := by
  unfold setL setN toldL
  cases spansMay a && spansMay b
  · rfl
  · by_cases h : 1024 < (setF want a b).length <;> simp [h]

theorem setN_eq (want : Bool → Bool → Bool) (a b : List Span) : setN want a b = if spansMay a && spansMay b then toldN (setF want a b) else 8 := rfl

/-- Two sets together; one without the other one; a span more: as the references say. -/
def rJoinL (a b : List Span) : List Span := if spansMay a && spansMay b then toldL (bothF a b) else []

def rJoinN (a b : List Span) : Int := if spansMay a && spansMay b then toldN (bothF a b) else 8

def rLessL7 (a b : List Span) : List Span := if spansMay a && spansMay b then toldL (leftF a b) else []

def rLessN7 (a b : List Span) : Int := if spansMay a && spansMay b then toldN (leftF a b) else 8

def okX (x : Span) : Bool := decide (1 ≤ x.f) && decide (x.f ≤ x.t) && decide (x.t ≤ 1073741824)

def rAddL7 (l : List Span) (x : Span) : List Span := if spansMay l then (if okX x then toldL (withF l x) else []) else []

def rAddN7 (l : List Span) (x : Span) : Int := if spansMay l then (if okX x then toldN (withF l x) else 2) else 8

theorem may_both {a b : List Span} (h : (spansMay a && spansMay b) = true) : Can 1 a ∧ Can 1 b := by
  rw [Bool.and_eq_true] at h
  exact ⟨(may_can h.1).1, (may_can h.2).1⟩

theorem join_eq (a b : List Span) : setL orB a b = rJoinL a b ∧ setN orB a b = rJoinN a b := by
  rw [setL_eq, setN_eq]
  unfold rJoinL rJoinN
  cases h : spansMay a && spansMay b
  · exact ⟨rfl, rfl⟩
  · obtain ⟨h1, h2⟩ := may_both h
    rw [setF_or h1 h2]
    exact ⟨rfl, rfl⟩

theorem less_eq7 (a b : List Span) : setL lessB a b = rLessL7 a b ∧ setN lessB a b = rLessN7 a b := by
  rw [setL_eq, setN_eq]
  unfold rLessL7 rLessN7
  cases h : spansMay a && spansMay b
  · exact ⟨rfl, rfl⟩
  · obtain ⟨h1, h2⟩ := may_both h
    rw [setF_less h1 h2]
    exact ⟨rfl, rfl⟩

theorem may_one (x : Span) : spansMay [x] = okX x := by
  unfold spansMay okX spansFrom spansFrom
  simp

/-- What span.Add answers. -/
def sAddL (l : List Span) (x : Span) : List Span := if spansMay l then (if okX x then setL orB l [x] else []) else []

def sAddN (l : List Span) (x : Span) : Int := if spansMay l then (if okX x then setN orB l [x] else 2) else 8

theorem add_eq7 (l : List Span) (x : Span) : sAddL l x = rAddL7 l x ∧ sAddN l x = rAddN7 l x := by
  unfold sAddL sAddN rAddL7 rAddN7
  cases h : spansMay l
  · exact ⟨rfl, rfl⟩
  · cases h2 : okX x
    · exact ⟨rfl, rfl⟩
    · obtain ⟨e1, e2⟩ := join_eq l [x]
      have hb : (spansMay l && spansMay [x]) = true := by rw [h, may_one, h2]; rfl
      simp only [if_true]
      rw [e1, e2]
      unfold rJoinL rJoinN
      rw [hb]
      exact ⟨rfl, rfl⟩

/-! ### How many -/

def meas (P : Int → Bool) : Nat → Int
  | 0 => 0
  | n + 1 => meas P n + if P (n : Int) then 1 else 0

theorem meas_congr {P Q : Int → Bool} (h : ∀ u, P u = Q u) : ∀ n, meas P n = meas Q n
  | 0 => rfl
  | n + 1 => by unfold meas; rw [meas_congr h n, h]

theorem meas_le {P Q : Int → Bool} (h : ∀ u, P u = true → Q u = true) : ∀ n, meas P n ≤ meas Q n
  | 0 => Int.le_refl _
  | n + 1 => by
    unfold meas
    have := meas_le h n
    cases e : P (n : Int)
    · simp; split <;> omega
    · rw [h _ e]; simp; omega

theorem meas_or {P Q : Int → Bool} (h : ∀ u, P u = true → Q u = false) : ∀ n, meas (fun u => P u || Q u) n = meas P n + meas Q n
  | 0 => rfl
  | n + 1 => by
    unfold meas
    rw [meas_or h n]
    cases e : P (n : Int)
    · simp; omega
    · rw [h _ e]; simp; omega

theorem meas_none : ∀ n, meas (fun _ => false) n = 0
  | 0 => rfl
  | n + 1 => by unfold meas; rw [meas_none n]; simp

theorem meas_one {x : Span} (h0 : 0 ≤ x.f) : ∀ n : Nat, meas (inX x) n = max 0 (min (x.t + 1) n - x.f)
  | 0 => by unfold meas; simp; omega
  | n + 1 => by
    unfold meas
    rw [meas_one h0 n]
    cases e : inX x n
    · have : ¬ (x.f ≤ n ∧ n ≤ x.t) := fun h => by rw [inX_iff.2 h] at e; cases e
      push_cast
      simp
      omega
    · have := inX_iff.1 e
      push_cast
      simp
      omega

theorem many_meas {n : Nat} : ∀ {l : List Span} {a : Int}, Can a l → 0 ≤ a → (∀ x ∈ l, x.t < n) → spansMany l = meas (spansHave l) n
  | [], _, _, _, _ => by rw [meas_congr (Q := fun _ => false) (fun _ => have_nil _), meas_none]; rfl
  | x :: l, a, ⟨h1, h2, h3⟩, h0, h => by
    have hx := h x (List.mem_cons_self ..)
    rw [meas_congr (Q := fun u => inX x u || spansHave l u) (fun u => have_cons x l u), meas_or (fun u hu => ?_), meas_one (by omega), ← many_meas h3 (by omega) fun y hy => h y (List.mem_cons_of_mem _ hy)]
    · show x.t - x.f + 1 + spansMany l = _
      rw [show max 0 (min (x.t + 1) (n : Int) - x.f) = x.t - x.f + 1 by omega]
    · cases e : spansHave l u
      · rfl
      · have := h3.least e
        have := inX_iff.1 hu
        omega

end Go.Proofs.Ytkolimhkfiebeaa

namespace Go.Proofs.Ytkolimhkfiebeaa
open Go.RowKit

theorem joinWant (p q : Bool) (w : World) : Calls Try.prog 125 #[.agg #[.bool p, .bool q]] w fun e w' => e = .returned (.bool (orB p q)) ∧ Bl w w' := by
  cases p
  · go_enter Try.func125, Try.ntmps125
    go_wp2
    go_ret
    exact ⟨ret_bool rfl, (Bl.refl _).alloc _⟩
  · go_enter Try.func125, Try.ntmps125
    go_wp2
    go_ret
    exact ⟨rfl, (Bl.refl _).alloc _⟩

theorem lessWant (p q : Bool) (w : World) : Calls Try.prog 126 #[.agg #[.bool p, .bool q]] w fun e w' => e = .returned (.bool (lessB p q)) ∧ Bl w w' := by
  cases p
  · go_enter Try.func126, Try.ntmps126
    go_wp2
    go_ret
    exact ⟨rfl, (Bl.refl _).alloc _⟩
  · go_enter Try.func126, Try.ntmps126
    go_wp2
    go_ret
    exact ⟨ret_bool rfl, (Bl.refl _).alloc _⟩

theorem spanJoin (A B : Option Addr) (c d : Nat) (a b : List Span) (w : World) (hl : a.length ≤ maxLen) (hm : b.length ≤ maxLen) (hA : R cSpan 0 w A a) (hB : R cSpan 0 w B b) :
    Calls Try.prog 71 #[.slice A a.length c, .slice B b.length d] w (New2 cSpan (setL orB a b) (setN orB a b) w) := by
  have hs := spanSet 125 orB (enters_of Try.func125 (by kernel_rfl) rfl) joinWant A B c d a b w hl hm hA hB
  generalize setL orB a b = L at *
  generalize setN orB a b = N at *
  replace hs := hide hs
  go_enter Try.func71, Try.ntmps71
  go_wp2_with fail
  refine hs.out.mono ?_
  rintro e w1 ⟨A1, c1, rfl, h1, h2, h3, h4⟩
  go_wp2
  go_ret2
  exact ⟨A1, c1, rfl, h1, h2, h3, h4⟩

theorem spanLess (A B : Option Addr) (c d : Nat) (a b : List Span) (w : World) (hl : a.length ≤ maxLen) (hm : b.length ≤ maxLen) (hA : R cSpan 0 w A a) (hB : R cSpan 0 w B b) :
    Calls Try.prog 72 #[.slice A a.length c, .slice B b.length d] w (New2 cSpan (setL lessB a b) (setN lessB a b) w) := by
  have hs := spanSet 126 lessB (enters_of Try.func126 (by kernel_rfl) rfl) lessWant A B c d a b w hl hm hA hB
  generalize setL lessB a b = L at *
  generalize setN lessB a b = N at *
  replace hs := hide hs
  go_enter Try.func72, Try.ntmps72
  go_wp2_with fail
  refine hs.out.mono ?_
  rintro e w1 ⟨A1, c1, rfl, h1, h2, h3, h4⟩
  go_wp2
  go_ret2
  exact ⟨A1, c1, rfl, h1, h2, h3, h4⟩

/-- A new block with one span, read as a list. -/
theorem R.oneSpan {w : World} {x : Span} {t : TypeId} {lo : Nat} (hx : x.ok) (hlo : lo ≤ w.heap.size) : R cSpan lo (w.alloc (.cells #[.int .u32 x.f, .int .u32 x.t] t)) (some ⟨w.heap.size, 0, none⟩) [x] := by
  refine ⟨[.int .u32 x.f, .int .u32 x.t], RdL.one1 ⟨hx, rfl⟩, fun _ => ⟨w.heap.size, 0, rfl, ⟨hlo, by rw [World.size_alloc]; omega⟩, fun j u hu => ⟨?_, ?_⟩⟩⟩
  · rw [Nat.zero_add, cell_of_row _ w.heap.size j _ t (0, 0) (heap_alloc_new w _)]
    simpa using hu
  · rw [Nat.zero_add]
    exact frozen_new w _ t j

end Go.Proofs.Ytkolimhkfiebeaa
