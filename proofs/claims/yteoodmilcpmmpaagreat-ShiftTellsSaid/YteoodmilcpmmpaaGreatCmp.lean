/-
  The walks of place.split, may, part, Compare: what was drawn is not put back.
-/
import Derived.Test.YteoodmilcpmmpaaGreatPlaceD
import Derived.Test.YteoodmilcpmmpaaGreatCmpPlain
import Derived.BigRegion
import Derived.ScopeJumps
import Derived.WalkMore
import Derived.Deep.Cut
import Derived.Deep.CutRange
namespace Go.Proofs.YteoodmilcpmmpaaGreat

open Go.RowKit

set_option maxRecDepth 100000 in
set_option maxHeartbeats 1000000 in
theorem placeSplitD (x : Run) (n : Int) (w : World) (h0 : 0 ≤ x.t) (h1 : x.t ≤ 1073741824) (hn : 0 ≤ n) (hm : n ≤ x.m) (h3 : x.m ≤ 4096) :
    Calls Tryz.prog 119 #[.agg #[.int .u32 x.t, .int .u8 x.r, .int .i64 x.m], .int .i64 n] w fun e w' => e = .returned (.tuple #[.agg #[.int .u32 x.t, .int .u8 x.r, .int .i64 n], .agg #[.int .u32 (x.t + n), .int .u8 x.r, .int .i64 (x.m - n)]]) ∧ Bd w w' := by
  have e1 : IntKind.u32.wrap (x.t + IntKind.u32.wrap n) = x.t + n := by rw [IntWalk.u32_in n (by omega), IntWalk.u32_in _ (by omega)]
  have e2 : IntKind.i64.wrap (x.m - n) = x.m - n := IntWalk.i64_in _ (by omega)
  obtain ⟨W, hW⟩ : ∃ W, W = ((w.alloc (.cells #[Value.int IntKind.u32 x.t, Value.int IntKind.u8 x.r, Value.int IntKind.i64 x.m] 40)).alloc (.cells #[Value.int IntKind.u32 0, Value.int IntKind.u8 0, Value.int IntKind.i64 0] 40)).alloc (.cells #[Value.int IntKind.u32 0, Value.int IntKind.u8 0, Value.int IntKind.i64 0] 40) := ⟨_, rfl⟩
  have hbW : Bd w W := by rw [hW]; exact (((Bd.refl _).alloc _).alloc _).alloc _
  have a0 : At W w.heap.size 0 [Value.int IntKind.u32 x.t, Value.int IntKind.u8 x.r, Value.int IntKind.i64 x.m] := by
    rw [hW]
    exact (At.new w [Value.int IntKind.u32 x.t, Value.int IntKind.u8 x.r, Value.int IntKind.i64 x.m] 40).bl (((Bl.refl _).alloc _).alloc _) (by simp)
  have a1 : At W (w.heap.size + 1) 0 [Value.int IntKind.u32 0, Value.int IntKind.u8 0, Value.int IntKind.i64 0] := by
    have h := (At.new (w.alloc (.cells #[Value.int IntKind.u32 x.t, Value.int IntKind.u8 x.r, Value.int IntKind.i64 x.m] 40)) [Value.int IntKind.u32 0, Value.int IntKind.u8 0, Value.int IntKind.i64 0] 40).bl ((Bl.refl _).alloc (.cells #[Value.int IntKind.u32 0, Value.int IntKind.u8 0, Value.int IntKind.i64 0] 40)) (by simp)
    rw [World.size_alloc w] at h
    rw [hW]
    exact h
  have a2 : At W (w.heap.size + 2) 0 [Value.int IntKind.u32 0, Value.int IntKind.u8 0, Value.int IntKind.i64 0] := by
    have h := At.new ((w.alloc (.cells #[Value.int IntKind.u32 x.t, Value.int IntKind.u8 x.r, Value.int IntKind.i64 x.m] 40)).alloc (.cells #[Value.int IntKind.u32 0, Value.int IntKind.u8 0, Value.int IntKind.i64 0] 40)) [Value.int IntKind.u32 0, Value.int IntKind.u8 0, Value.int IntKind.i64 0] 40
    rw [World.size_alloc, World.size_alloc w] at h
    rw [hW]
    exact h
  have hs2 := a2.lt (by simp)
  have c0 := (a0 0 _ rfl).1
  have c1 := (a0 1 _ rfl).1
  have c2 := (a0 2 _ rfl).1
  have d0 := (a1 0 _ rfl).1
  have d1 := (a1 1 _ rfl).1
  have d2 := (a1 2 _ rfl).1
  have f0 := (a1 0 _ rfl).2
  have f1 := (a1 1 _ rfl).2
  have f2 := (a1 2 _ rfl).2
  have g0 := (a2 0 _ rfl).1
  have g1 := (a2 1 _ rfl).1
  have g2 := (a2 2 _ rfl).1
  have k0 := (a2 0 _ rfl).2
  have k1 := (a2 1 _ rfl).2
  have k2 := (a2 2 _ rfl).2
  simp only [Nat.zero_add] at c0 c1 c2 d0 d1 d2 f0 f1 f2 g0 g1 g2 k0 k1 k2
  go_enter Tryz.func119, Tryz.ntmps119
  go_upto_region 1 with fail
  rw [← hW]
  clear hW a0 a1 a2
  go_region
  go_wp2
  refine bodyPost_ret (v := .tuple #[.agg #[.int .u32 x.t, .int .u8 x.r, .int .i64 n], .agg #[.int .u32 (x.t + n), .int .u8 x.r, .int .i64 (x.m - n)]]) (by simp [results, Tryz.results119, go_sem, d0, d1, d2, g0, g1, g2]) rfl ?_
  exact ⟨rfl, ((((((hbW.setCell (Nat.le_succ _) _).setCell (Nat.le_succ _) _).setCell (Nat.le_succ _) _).setCell (by show w.heap.size ≤ w.heap.size + 1 + 1; omega) _).setCell (by show w.heap.size ≤ w.heap.size + 1 + 1; omega) _).setCell (by show w.heap.size ≤ w.heap.size + 1 + 1; omega) _).drew⟩

set_option maxRecDepth 100000 in
set_option maxHeartbeats 400000 in
theorem placeMayD (A : Option Addr) (c : Nat) (p : List Run) (w : World) (hl : p.length ≤ maxLen) (hA : R cRun 0 w A p) :
    Calls Tryz.prog 64 #[.slice A p.length c] w fun e w' => e = .returned (.bool (plAny p)) ∧ Bd w w' := by
  have hc := placeCheckD A c p w hl hA
  by_cases h0 : p.length = 0
  · have e1 : plAny p = true := by unfold plAny; rw [decide_eq_true h0]; rfl
    have e2 : ((p.length : Int) == 0) = true := by simp [h0]
    rw [e1]
    clear e1 hc
    go_enter Tryz.func64, Tryz.ntmps64
    go_wp2_with fail
    go_ret
    exact ⟨rfl, Bd.refl _⟩
  · have e1 : plAny p = placeMay p := by unfold plAny; rw [decide_eq_false h0]; rfl
    have e2 : ((p.length : Int) == 0) = false := by simp [h0]
    rw [e1]
    clear e1 h0
    cases hm : placeMay p
    all_goals
      rw [hm] at hc
      first | rw [okOr_true] at hc | rw [okOr_false] at hc
      replace hc := hide hc
      clear hm
      go_enter Tryz.func64, Tryz.ntmps64
      go_wp2_with fail
      refine (hc.out).mono ?_
      rintro e w1 ⟨rfl, hb1⟩
      go_wp2_with fail
      go_ret
      exact ⟨rfl, hb1⟩

/-- The slice at A reads as l, all of it in block g, from lo on. -/
def HalfAt (w : World) (lo : Nat) (A : Option Addr) (l : List Run) (g : Nat) : Prop := l ≠ [] → (lo ≤ g ∧ g < w.heap.size) ∧ RS cRun w (fun z => z = g) A l

section

variable {w w' : World} {lo g : Nat} {A : Option Addr} {l t : List Run} {x y : Run}

theorem HalfAt.bl (h : HalfAt w lo A l g) (hb : Bl w w') : HalfAt w' lo A l g := fun hn => by
  obtain ⟨⟨h1, h2⟩, h3⟩ := h hn
  exact ⟨⟨h1, Nat.lt_of_lt_of_le h2 hb.size⟩, h3.keep (hb.keeps fun b e => by rw [e]; exact h2) fun b e => e⟩

theorem rdl_run (S' : Nat → Prop) (w' : World) : ∀ {l : List Run} {cs : List Value} {S : Nat → Prop}, RdL cRun w S l cs → RdL cRun w' S' l cs
  | [], _, _, h => h
  | _ :: _, _, _, ⟨a, b, e, ha, hb⟩ => ⟨a, b, e, ha, rdl_run S' w' hb⟩

theorem HalfAt.of (h : R cRun lo w A l) : ∃ g, HalfAt w lo A l g := by
  obtain ⟨cells, hr, hs⟩ := h
  by_cases hc : cells = []
  · refine ⟨0, fun hn => absurd ?_ hn⟩
    have hl := hr.length
    rw [hc, List.length_nil] at hl
    have : l.length = 0 := by
      have h3 : cRun.size = 3 := rfl
      rw [h3] at hl
      omega
    exact List.eq_nil_of_length_eq_zero this
  · obtain ⟨b, off, e, hb, ha⟩ := hs hc
    exact ⟨b, fun _ => ⟨hb, cells, rdl_run _ w hr, fun _ => ⟨b, off, e, rfl, ha⟩⟩⟩

theorem HalfAt.R (h : HalfAt w lo A l g) : R cRun lo w A l := by
  by_cases hn : l = []
  · rw [hn]
    exact _root_.Go.Proofs.YteoodmilcpmmpaaGreat.R.nil
  · obtain ⟨h1, h2⟩ := h hn
    exact h2.up fun b e => by rw [e]; exact h1

theorem HalfAt.open (h : HalfAt w lo A (x :: t) g) : ∃ off, A = some ⟨g, off, none⟩ ∧ (lo ≤ g ∧ g < w.heap.size) ∧ x.ok ∧ At w g off [.int .u32 x.t, .int .u8 x.r, .int .i64 x.m] := by
  obtain ⟨h1, cells, hr, hs⟩ := h (by simp)
  obtain ⟨a, b, rfl, ⟨ho, rfl⟩, hb⟩ := hr
  obtain ⟨b', off, rfl, rfl, ha⟩ := hs (by simp)
  exact ⟨off, rfl, h1, ho, ha.left⟩

/-- The first one is written. -/
theorem HalfAt.set {off : Nat} (h : HalfAt w lo (some ⟨g, off, none⟩) (x :: t) g) (hy : y.ok) :
    HalfAt (((w.setCell ⟨g, off, none⟩ (.int .u32 y.t)).setCell ⟨g, off + 1, none⟩ (.int .u8 y.r)).setCell ⟨g, off + 2, none⟩ (.int .i64 y.m)) lo (some ⟨g, off, none⟩) (y :: t) g := fun _ => by
  obtain ⟨⟨h1, h2⟩, cells, hr, hs⟩ := h (by simp)
  obtain ⟨a, b, rfl, ⟨ho, rfl⟩, hb⟩ := hr
  obtain ⟨b', off', e, rfl, ha⟩ := hs (by simp)
  cases e
  refine ⟨⟨h1, by simpa [World.setCell] using h2⟩, [.int .u32 y.t, .int .u8 y.r, .int .i64 y.m] ++ b, ⟨_, b, rfl, ⟨hy, rfl⟩, rdl_run _ _ hb⟩, fun _ => ⟨b', off, rfl, rfl, fun j u hu => ?_⟩⟩
  have hf : ∀ o, (((w.setCell ⟨b', off, none⟩ (.int .u32 y.t)).setCell ⟨b', off + 1, none⟩ (.int .u8 y.r)).setCell ⟨b', off + 2, none⟩ (.int .i64 y.m)).frozen? ⟨b', o, none⟩ = w.frozen? ⟨b', o, none⟩ := fun o => by rw [World.frozen?_setCell, World.frozen?_setCell, World.frozen?_setCell]
  rw [hf]
  have a0 := ha 0 _ rfl
  have a1 := ha 1 _ rfl
  have a2 := ha 2 _ rfl
  rw [Nat.add_zero] at a0
  match j, hu with
  | 0, hu =>
    have hu : some (Value.int IntKind.u32 y.t) = some u := hu
    injection hu with hu
    subst hu
    rw [Nat.add_zero]
    exact ⟨box_set_other (by simp) (box_set_other (by simp) (box_set_same a0.1)), a0.2⟩
  | 1, hu =>
    have hu : some (Value.int IntKind.u8 y.r) = some u := hu
    injection hu with hu
    subst hu
    exact ⟨box_set_other (by simp) (box_set_same (box_set_other (by simp) a1.1)), a1.2⟩
  | 2, hu =>
    have hu : some (Value.int IntKind.i64 y.m) = some u := hu
    injection hu with hu
    subst hu
    exact ⟨box_set_same (box_set_other (by simp) (box_set_other (by simp) a2.1)), a2.2⟩
  | j + 3, hu =>
    have hu2 : ([.int .u32 x.t, .int .u8 x.r, .int .i64 x.m] ++ b)[j + 3]? = some u := hu
    have a3 := ha (j + 3) u hu2
    exact ⟨box_set_other (by simp) (box_set_other (by simp) (box_set_other (by simp) a3.1)), a3.2⟩

theorem HalfAt.other {k o : Nat} {u : Value} (h : HalfAt w lo A l g) (hk : k ≠ g) : HalfAt (w.setCell ⟨k, o, none⟩ u) lo A l g := fun hn => by
  obtain ⟨⟨h1, h2⟩, h3⟩ := h hn
  exact ⟨⟨h1, by simpa [World.setCell] using h2⟩, h3.keep (fun b e => Below.heap_setCell _ _ _ _ (by rw [e]; exact fun h => hk h.symm)) fun b e => e⟩

/-- The first one is cut off. -/
theorem HalfAt.tail {off c : Nat} (h : HalfAt w lo (some ⟨g, off, none⟩) (x :: t) g) (hc : t.length + 1 ≤ c) : HalfAt w lo (if c = 1 then some ⟨g, off, none⟩ else some ⟨g, off + 3, none⟩) t g := fun hn => by
  obtain ⟨h0, cells, hr, hs⟩ := h (by simp)
  obtain ⟨a, b, rfl, ⟨ho, rfl⟩, hb⟩ := hr
  obtain ⟨b', off', e, rfl, ha⟩ := hs (by simp)
  cases e
  have hlen : 0 < t.length := List.length_pos_iff.2 hn
  rw [if_neg (by omega)]
  exact ⟨h0, b, hb, fun _ => ⟨b', off + 3, rfl, rfl, ha.right (cs := [.int .u32 x.t, .int .u8 x.r, .int .i64 x.m])⟩⟩

end

theorem wp_append_dr {α : Type} {C : Codec α} {P : Program} {w : World} {xs ys : List α} {o : Oper} {a : Act} {K : Act → World → Prop} {Q : Exit → Act → World → Prop} (s x : Operand) (t : TypeId)
    (ho : o.op = .call { callee := .builtin .append, args := #[s, x], argTypes := #[t, t] })
    (e : TypeId) (i : TypeInfo) (z : Value) (bytes : Nat) (ht : P.underlying t = some (.slice e)) (hi : P.info? e = some i) (hz : i.zero = some z)
    (hsize : i.size = C.size) (hby : i.bytes = bytes) (hzs : z.cells.size = C.size) (v : Value) (base : Nat) (hs : a.eval s = v) (hown : Own C e base w v xs)
    (A : Option Addr) (m c : Nat) (hx : a.eval x = .slice A m c) (hm : m = ys.length) (hA : ∃ news, RdL C w (fun b => (base ≤ b ∧ b < w.heap.size) ∧ v.ownBlock ≠ some b) ys news ∧ (∀ ad, A = some ad → ∀ (j : Nat) (u : Value), news[j]? = some u → w.cell? (ad.add j) = some u) ∧ (A = none → ys = []))
    (h63 : xs.length + ys.length ≤ maxLen) (hbytes : (xs.length + ys.length) * bytes ≤ 140737488355328) (hbase : base ≤ w.heap.size)
    (h : ∀ v' w', Own C e base w' v' (xs ++ ys) → w.grownBy w' v.ownBlock → w.drawn ≤ w'.drawn → K (a.put o.dst v') w') : o.wp P a w K Q := by
  subst hm
  obtain ⟨v', w', hrun, h2, h3, _⟩ := run_append_any2 (P := P) t o.type e i z bytes ht hi hz hsize hby hzs hown A c hA h63 hbytes hbase
  have hd := run_drawn _ _ _ _ hrun
  unfold Oper.wp execOp
  simp only [ho, resolve, invoke, builtin, Sem.run_bind, Sem.run_pure, Result.andThen_ok, List.map_toArray, List.map_cons, List.map_nil, hs, hx, hrun]
  exact h v' w' h2 h3 hd

theorem wpList_append_dr {α : Type} {C : Codec α} {P : Program} {w : World} {xs ys : List α} {ops : Array Oper} {rest : List Oper} {o : Oper} {a : Act} {Q : Exit → Act → World → Prop} (hgd : o.guard = none) (s x : Operand) (t : TypeId)
    (ho : o.op = .call { callee := .builtin .append, args := #[s, x], argTypes := #[t, t] })
    (e : TypeId) (i : TypeInfo) (z : Value) (bytes : Nat) (ht : P.underlying t = some (.slice e)) (hi : P.info? e = some i) (hz : i.zero = some z)
    (hsize : i.size = C.size) (hby : i.bytes = bytes) (hzs : z.cells.size = C.size) (v : Value) (base : Nat) (hs : a.eval s = v) (hown : Own C e base w v xs)
    (A : Option Addr) (m c : Nat) (hx : a.eval x = .slice A m c) (hm : m = ys.length) (hA : ∃ news, RdL C w (fun b => (base ≤ b ∧ b < w.heap.size) ∧ v.ownBlock ≠ some b) ys news ∧ (∀ ad, A = some ad → ∀ (j : Nat) (u : Value), news[j]? = some u → w.cell? (ad.add j) = some u) ∧ (A = none → ys = []))
    (h63 : xs.length + ys.length ≤ maxLen) (hbytes : (xs.length + ys.length) * bytes ≤ 140737488355328) (hbase : base ≤ w.heap.size)
    (h : ∀ v' w', Own C e base w' v' (xs ++ ys) → w.grownBy w' v.ownBlock → w.drawn ≤ w'.drawn → wpList P ops Q rest (a.put o.dst v') w') : wpList P ops Q (o :: rest) a w :=
  wpList_plain hgd fun _ hK => wp_append_dr s x t ho e i z bytes ht hi hz hsize hby hzs v base hs hown A m c hx hm hA h63 hbytes hbase fun v' w' h2 h3 h4 => hK _ _ (h v' w' h2 h3 h4)

/-- What hands back a new list; what was drawn is not put back. -/
def NewD {α : Type} (C : Codec α) (l : List α) (w : World) (e : Ending) (w' : World) : Prop := ∃ A c, e = .returned (.slice A l.length c) ∧ l.length ≤ c ∧ c ≤ maxLen ∧ R C w.heap.size w' A l ∧ Bd w w'

set_option maxHeartbeats 400000 in
theorem runCloneD (A : Option Addr) (c : Nat) (l : List Run) (w : World) (hl : l.length ≤ 1048576) (hA : R cRun 0 w A l) :
    Calls Tryz.prog 93 #[.slice A l.length c] w (NewD cRun l w) := by
  obtain ⟨i0, hi, hz0, hz1, hz2⟩ := info_parts Tryz.infoRun
  have hnil := fun (W : World) (a : Option Addr) (n c : Nat) => Lib.run_eql_slice_nil (P := Tryz.prog) W 26 40 a n c 0 0 Tryz.underlying26
  have hl : l.length ≤ 9223372036854775807 := by omega
  cases A with
  | none =>
    obtain ⟨_, _, _, h0⟩ := hA.all
    obtain rfl := h0 rfl
    go_enter Tryz.func93, Tryz.ntmps93
    go_wp2
    go_ret
    exact ⟨none, 0, rfl, Nat.le_refl _, by unfold maxLen; omega, R.nil, Bd.refl _⟩
  | some ad =>
    go_enter Tryz.func93, Tryz.ntmps93
    go_wp2_with (at_builtin
                 refine wpList_append_dr (C := cRun) (xs := []) (ys := l) rfl (.tmp 5) (.tmp 6) _ rfl 40 i0 _ 16 Tryz.underlying26 hi hz0 hz1 hz2 rfl (.slice (some ⟨w.heap.size, 0, none⟩) 0 0) w.heap.size rfl (Own.empty (Nat.le_refl _)) (some ad) l.length c rfl rfl ((hA.bl ((Bl.refl _).alloc _)).source flatRun) ?c1 ?c2 ?c3 ?_
                 case c1 => simp only [List.length_nil, maxLen]; omega
                 case c2 => simp only [List.length_nil]; omega
                 case c3 => simp
                 intro v1 w1 hown hg hdr)
    go_ret
    have hbl := ((Bl.refl w).alloc _).app (Own.empty (C := cRun) (e := 40) (Nat.le_refl _)) (Nat.le_refl _) hg
    simp only [List.nil_append] at hown
    obtain ⟨A', c', rfl, hr, h1, h2⟩ := hown.reads
    exact ⟨A', c', rfl, h1, h2, hr, hbl, hdr⟩

end Go.Proofs.YteoodmilcpmmpaaGreat
