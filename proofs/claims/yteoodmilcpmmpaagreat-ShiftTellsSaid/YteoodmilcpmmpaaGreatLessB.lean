/-
  The walk of clock.table: a map of spans by replicas.
  The walks of span.Has and clock.Has.
  The walk of bag.Less, over slices.DeleteFunc and IndexFunc.
  The walks of slices.DeleteFunc at operations, of bag.Less and bag.Find.
  The walks of bag.Less and bag.Find.
-/
import Derived.Test.YteoodmilcpmmpaaGreatSpanB
import Derived.Maps.Own
import Derived.Maps.Views
import Derived.Maps.OwnSet
import Derived.Deep.RegionHeld3
import Derived.Test.YteoodmilcpmmpaaGreatBagC
namespace Go.Proofs.YteoodmilcpmmpaaGreat

open Go.RowKit

/-- An element read as itself. -/
def exactElem (v : Value) : Option (DataW Value × List MemPlace) := some (.held v, [])

/-- Block b is a map of at most n entries: what it has of a replica. -/
def MapAt (w : World) (b n : Nat) (f : Int → Value) : Prop := ∃ D, w.ownsMap Tryz.prog 5 exactElem b n D ∧ ∀ r, 0 ≤ r → r < 256 → D.atKey (.int .u8 r) (.held (.slice none 0 0)) = .held (f r)

theorem key8 : Maps.Keyed Tryz.prog 5 := Maps.int_keyed Tryz.underlying5

theorem key8_of {r : Int} (h0 : 0 ≤ r) (h1 : r < 256) : keyOf Tryz.prog 5 (.int .u8 r) = some (.int .u8 r) := Maps.keyOf_int_mk Tryz.underlying5 (by unfold Lit.wf; simp [IntKind.min, IntKind.max, IntKind.signed, IntKind.bits]; omega)

theorem MapAt.made (w : World) : MapAt (w.alloc (.map #[] 0)) w.heap.size 0 (fun _ => .slice none 0 0) := ⟨_, World.ownsMap_made w _ _ _, fun _ _ _ => rfl⟩

theorem MapAt.lt {w : World} {b n : Nat} {f : Int → Value} (h : MapAt w b n f) : b < w.heap.size := let ⟨_, h1, _⟩ := h; h1.lt

theorem MapAt.bl {w w' : World} {b n : Nat} {f : Int → Value} (h : MapAt w b n f) (hb : Bl w w') : MapAt w' b n f := let ⟨D, h1, h2⟩ := h; ⟨D, h1.kept hb.grown_none (by simp), h2⟩

theorem MapAt.lookup {w : World} {b n : Nat} {f : Int → Value} {r : Int} (h : MapAt w b n f) (h0 : 0 ≤ r) (h1 : r < 256) (t : TypeId) (ht : Tryz.prog.underlying t = some (.map 5 165)) :
    (Instr.lookup t (.map (some b)) (.int .u8 r) false).run Tryz.prog w = .ok (f r) w := by
  obtain ⟨D, hD, hf⟩ := h
  obtain ⟨v, ps, hrun, hv⟩ := hD.lookup key8 ht (z := .slice none 0 0) (zd := .held (.slice none 0 0)) (zp := []) (by kernel_rfl) rfl (key8_of h0 h1)
  rw [hf r h0 h1] at hv
  unfold exactElem at hv
  simp only [Option.some.injEq, Prod.mk.injEq, DataW.held.injEq] at hv
  rw [hrun, hv.1]

theorem MapAt.put {w : World} {b n : Nat} {f : Int → Value} {r : Int} {v : Value} (h : MapAt w b n f) (h0 : 0 ≤ r) (h1 : r < 256) (hn : n < maxLen) (t : TypeId) (ht : Tryz.prog.underlying t = some (.map 5 165)) :
    ∃ w', (Instr.mapUpdate t (.map (some b)) (.int .u8 r) v).run Tryz.prog w = .ok () w' ∧ MapAt w' b (n + 1) (fun q => if q = r then v else f q) ∧ w.grownBy w' (some b) := by
  obtain ⟨D, hD, hf⟩ := h
  obtain ⟨w', hrun, hD', hg⟩ := hD.update key8 ht hn (key8_of h0 h1) (val := v) (d := .held v) (ps := []) rfl
  refine ⟨w', hrun, ⟨_, hD', fun q q0 q1 => ?_⟩, hg⟩
  show _ = DataW.held (if q = r then v else f q)
  by_cases hq : q = r
  · subst hq
    rw [if_pos rfl]
    exact Maps.atKey_put_same hD.isMap (by trivial) _ _
  · rw [if_neg hq, Maps.atKey_put_other (by intro e; injection e with _ e; exact hq e)]
    exact hf q q0 q1

end Go.Proofs.YteoodmilcpmmpaaGreat

namespace Go.Proofs.YteoodmilcpmmpaaGreat

open Go.RowKit

end Go.Proofs.YteoodmilcpmmpaaGreat

namespace Go.Proofs.YteoodmilcpmmpaaGreat

open Go.RowKit Go.Shelf Go.Lib

theorem zero_one (m : Nat) : ∀ v ∈ (Builtin.zeroCells zeroO.cells m).toList, v.oneCell' = true := by
  intro v hv
  unfold Builtin.zeroCells at hv
  simp at hv
  obtain ⟨i, hi, rfl⟩ := hv
  have h : i % zeroO.cells.size < 5 := Nat.mod_lt _ (by decide)
  generalize i % zeroO.cells.size = j at h
  match j, h with
  | 0, _ => rfl
  | 1, _ => rfl
  | 2, _ => rfl
  | 3, _ => rfl
  | 4, _ => rfl

theorem zero_len (m : Nat) : (Builtin.zeroCells zeroO.cells m).toList.length = m * 5 := by
  unfold Builtin.zeroCells
  rw [zeroO_size]
  simp

theorem run_clear_ops (w : World) (ty : TypeId) (b o m c : Nat) (hm : 0 < m) (hc : ∀ j, j < m * 5 → (w.cell? ⟨b, o + j, none⟩).isSome = true) (hf : ∀ j, j < m * 5 → w.frozen? ⟨b, o + j, none⟩ = false) :
    (Builtin.clear_ #[22] ty #[.slice (some ⟨b, o, none⟩) m c]).run Tryz.prog w = .ok (.tuple #[]) (w.setCells b o (Builtin.zeroCells zeroO.cells m).toList) := by
  obtain ⟨i0, hi0, hz0, hzs, hzb⟩ := info_parts opInfo
  obtain ⟨m, rfl⟩ : ∃ m', m = m' + 1 := ⟨m - 1, by omega⟩
  have hst := run_storeCells_cells (P := Tryz.prog) b o (Builtin.zeroCells zeroO.cells (m + 1)).toList 0 w (by intro j hj; rw [Nat.add_zero]; rw [zero_len] at hj; exact hc j hj) (by intro j hj; rw [Nat.add_zero]; rw [zero_len] at hj; exact hf j hj) (zero_one _)
  simp only [Nat.add_zero] at hst
  simp [Builtin.clear_, run_underlying Tryz.underlying22, zeroValue, typeInfo, hi0, hz0, hst]

theorem wpList_clear_runO (w : World) {ops : Array Oper} {rest : List Oper} {o : Oper} {a : Act} {Q : Exit → Act → World → Prop} (hgd : o.guard = none) (d : Operand) (t : TypeId)
    (ho : o.op = .call { callee := .builtin .clear, args := #[d], argTypes := #[t] }) (v : Value) (hd : a.eval d = v) {v' : Value} {w' : World}
    (hr : (Builtin.clear_ #[t] o.type #[v]).run Tryz.prog w = .ok v' w') (h : wpList Tryz.prog ops Q rest (a.put o.dst v') w') : wpList Tryz.prog ops Q (o :: rest) a w :=
  wpList_plain hgd fun _ hK => by
    unfold Oper.wp
    simp [execOp, ho, resolve, invoke, builtin, hd, hr, Result.andThen]
    exact hK _ _ h

/-- What a predicate's closure (function fn, bound to ps) does, in whatever world came of w0. -/
def PredO (w0 : World) (fn : FuncId) (ps : Array Value) (l : List Op) (p : Op → Bool) : Prop := ∀ V x A c, x ∈ l → Bl w0 V → OpIn V x A c → Calls Tryz.prog fn (#[.agg #[.int .u8 x.kind, .int .u32 x.id.t, .int .u8 x.id.r, .slice A x.pl.length c, .int .i64 x.pt]] ++ ps) V fun e w' => e = .returned (.bool (p x)) ∧ Bl V w'

def FirstO (l : List Op) (p : Op → Bool) (r : Int) : Prop := (r = -1 ∧ ∀ x ∈ l, p x = false) ∨ ∃ (k : Nat) (x : Op), r = (k : Int) ∧ l[k]? = some x ∧ p x = true ∧ ∀ y ∈ l.take k, p y = false

set_option maxRecDepth 100000 in
set_option maxHeartbeats 1000000 in
theorem opIndexFunc (fn : FuncId) (ps : Array Value) (hfe : ∀ args w, (callFunc fn args).run Tryz.prog w = .ok (.enter fn args) w) (A : Option Addr) (c : Nat) (l : List Op) (p : Op → Bool) (w0 w : World) (hb0 : Bl w0 w) (hl : l.length ≤ 1048576) (hA : R cOp 0 w A l) (hp : PredO w0 fn ps l p) :
    Calls Tryz.prog 179 #[.slice A l.length c, .func (.func fn) #[] ps] w fun e w' => ∃ r : Int, e = .returned (.int .i64 r) ∧ FirstO l p r ∧ Bl w w' := by
  replace hp := hide hp
  go_enter Tryz.func179, Tryz.ntmps179
  go_wp2
  go_loopw [8] (fun i wr => Bl w wr ∧ ∃ k : Nat, k ≤ l.length ∧ i = .int .i64 k ∧ Hid (∀ y ∈ l.take k, p y = false)) (fun i _ => l.length - (RowKit.intOf i).toNat)
  case atStart => exact ⟨Bl.refl _, 0, Nat.zero_le _, rfl, fun y hy => by simp at hy⟩
  case round =>
    obtain ⟨hbl, k, hk, rfl, hf⟩ := hrel
    by_cases hlt : k < l.length
    · have hR := hA.bl hbl
      obtain ⟨b, off, rfl, _, hb⟩ := hR.addr (by omega)
      obtain ⟨x, hx⟩ := get_lt hlt
      obtain ⟨_, ho, S, sc, s1, s2, hS, c0, c1, c2, c3, c4⟩ := hR.op hx
      have hki : (k : Int) < (l.length : Int) := by omega
      have hcl := hp.out wr x S sc (List.mem_of_getElem? hx) (hb0.trans hbl) ⟨ho, s1, s2, hS⟩
      cases hq : p x
      · rw [hq] at hcl
        have g := hide (show ∀ y ∈ l.take (k + 1), p y = false from fun y hy => by
          rw [take_snoc hx, List.mem_append] at hy
          rcases hy with hy | hy
          · exact hf.out y hy
          · rw [List.mem_singleton] at hy; subst hy; exact hq)
        replace hcl := hide hcl
        clear hx hq hf
        go_wp2_with fail
        refine hcl.out.mono ?_
        rintro e w1 ⟨rfl, hb1⟩
        go_wp2_with fail
        go_roundw
        case rel => exact ⟨hbl.trans hb1, k + 1, by omega, by go_num, g.out⟩
        case measure => simp [RowKit.intOf]; omega
      · rw [hq] at hcl
        have g := hide (show FirstO l p (k : Int) from .inr ⟨k, x, rfl, hx, hq, hf.out⟩)
        replace hcl := hide hcl
        clear hx hq hf
        go_wp2_with fail
        refine hcl.out.mono ?_
        rintro e w1 ⟨rfl, hb1⟩
        go_wp2_with fail
        go_ret
        exact ⟨_, rfl, g.out, hbl.trans hb1⟩
    · have hkl : k = l.length := by omega
      have g := hide (show FirstO l p (-1) from .inl ⟨rfl, by have := hf.out; rwa [hkl, List.take_length] at this⟩)
      clear hf
      go_wp2
      go_ret
      exact ⟨_, rfl, g.out, hbl⟩

end Go.Proofs.YteoodmilcpmmpaaGreat

namespace Go.Proofs.YteoodmilcpmmpaaGreat

open Go.RowKit Go.Shelf Go.Lib

theorem Own.row {base g n : Nat} {w : World} {l : List Op} (h : Own cOp 47 base w (.slice (some ⟨g, 0, none⟩) n n) l) (hn : n = l.length) :
    ∃ cs, RowAt w g 47 cs ∧ RdL cOp w (fun b => (base ≤ b ∧ b < w.heap.size) ∧ b ≠ g) l cs ∧ base ≤ g := by
  obtain ⟨cells, ⟨hcl, hnl | ⟨g', cap, cur, hv, hbg, hgc, hnc, hcm, hsz, htk⟩⟩, hr⟩ := h
  · cases hnl.1
  injection hv with hv hv1 hv2
  injection hv with hv
  injection hv with hv _
  subst hv hv2
  have h5 : cOp.size = 5 := rfl
  rw [h5] at hcl hsz htk
  have hcur : cur.toList = cells := by
    rw [← htk]
    exact (List.take_of_length_le (by rw [Array.length_toList, hsz, hn]; exact Nat.le_refl _)).symm
  refine ⟨cells, ?_, hr.keep (Keeps.refl _ _) fun b h => ⟨h.1, fun e => h.2 (by rw [e]; rfl)⟩, hbg⟩
  unfold RowAt
  rw [← hcur, Array.toArray_toList]
  exact hgc

theorem RowAt.R {w : World} {g lo : Nat} {t : TypeId} {l : List Op} {ca cb : List Value} {S : Nat → Prop} (h : RowAt w g t (ca ++ cb)) (hr : RdL cOp w S l ca) (hS : ∀ b, S b → Fresh lo w b) (hg : lo ≤ g) : R cOp lo w (some ⟨g, 0, none⟩) l :=
  ⟨ca, hr.keep (Keeps.refl _ _) hS, fun _ => ⟨g, 0, rfl, ⟨hg, h.lt⟩, h.at.left⟩⟩

theorem fil_step {l : List Op} {k : Nat} {x : Op} (p : Op → Bool) (h : l[k]? = some x) : (l.take (k + 1)).filter p = if p x then (l.take k).filter p ++ [x] else (l.take k).filter p := by
  rw [take_snoc h, List.filter_append]
  cases hp : p x <;> simp [hp]

/-- How the loop stands. -/
def DelRel (w0 : World) (g : Nat) (l : List Op) (p : Op → Bool) (vi vj : Value) (wr : World) : Prop :=
  Bl w0 wr ∧ ∃ (i j : Nat) (ca cm cb : List Value), vi = .int .i64 (i : Int) ∧ vj = .int .i64 (j : Int) ∧ i < j ∧ j ≤ l.length ∧ RowAt wr g 47 (ca ++ (cm ++ cb)) ∧
    RdL cOp wr (fun b => (w0.heap.size ≤ b ∧ b < wr.heap.size) ∧ b ≠ g) ((l.take j).filter fun x => !p x) ca ∧ cm.length = (j - i) * 5 ∧ RdL cOp wr (fun b => (w0.heap.size ≤ b ∧ b < wr.heap.size) ∧ b ≠ g) (l.drop j) cb ∧ ((l.take j).filter fun x => !p x).length = i

/-- What DeleteFunc hands out. -/
def DelPost (w0 : World) (g : Nat) (F : List Op) (e : Ending) (w' : World) : Prop := ∃ c, e = .returned (.slice (some ⟨g, 0, none⟩) F.length c) ∧ F.length ≤ c ∧ c ≤ maxLen ∧ R cOp w0.heap.size w' (some ⟨g, 0, none⟩) F ∧ Bl w0 w'

set_option maxRecDepth 100000 in
set_option maxHeartbeats 4000000 in
theorem opDeleteFunc (fn : FuncId) (ps : Array Value) (hfe : ∀ args w, (callFunc fn args).run Tryz.prog w = .ok (.enter fn args) w) (g n : Nat) (l : List Op) (p : Op → Bool) (w0 w : World) (hn : n = l.length) (hb0 : Bl w0 w) (hl : l.length ≤ 1048576) (hown : Own cOp 47 w0.heap.size w (.slice (some ⟨g, 0, none⟩) n n) l) (hp : PredO w0 fn ps l p) :
    Calls Tryz.prog 164 #[.slice (some ⟨g, 0, none⟩) n n, .func (.func fn) #[] ps] w (DelPost w0 g (l.filter fun x => !p x)) := by
  obtain ⟨cs, hrow, hrd, hg0⟩ := hown.row hn
  have hcl : cs.length = n * 5 := by rw [hn]; exact hrd.length
  have hAl : R cOp 0 w (some ⟨g, 0, none⟩) l := RowAt.R (cb := []) (by rwa [List.append_nil]) hrd (fun b h => ⟨Nat.zero_le _, h.1.2⟩) (Nat.zero_le _)
  have hix := opIndexFunc fn ps hfe (some ⟨g, 0, none⟩) n l p w0 w hb0 hl hAl hp
  rw [← hn] at hix
  replace hix := hide hix
  replace hp := hide hp
  obtain ⟨F, hF⟩ : ∃ F, F = l.filter fun x => !p x := ⟨_, rfl⟩
  rw [← hF]
  replace hF := hide hF
  have hn1 : n ≤ 1048576 := by rw [hn]; exact hl
  replace hn := hide hn
  clear hown
  go_enter Tryz.func164, Tryz.ntmps164
  go_wp2_with fail
  refine hix.out.mono ?_
  rintro e w1 ⟨r, rfl, hfst, hb1⟩
  have hb01 := hb0.trans hb1
  replace hrow := hrow.bl hb1
  replace hrd := hrd.keep (hb1.keeps fun b h => h.1.2) fun b h => (⟨⟨h.1.1, Nat.lt_of_lt_of_le h.1.2 hb1.size⟩, h.2⟩ : (w0.heap.size ≤ b ∧ b < w1.heap.size) ∧ b ≠ g)
  rcases hfst with ⟨rfl, hno⟩ | ⟨k, x, rfl, hx, hpx, hno⟩
  · have hFl : F = l := by rw [hF.out]; exact List.filter_eq_self.2 fun x hx => by rw [hno x hx]; rfl
    have hfin := hide (show DelPost w0 g F (.returned (.slice (some ⟨g, 0, none⟩) n n)) w1 from ⟨n, by rw [hFl, ← hn.out], by rw [hFl, ← hn.out]; exact Nat.le_refl _, by unfold maxLen; omega, by rw [hFl]; exact RowAt.R (cb := []) (by rwa [List.append_nil]) hrd (fun b h => h.1) hg0, hb01⟩)
    clear hno hrd hrow hAl hFl
    go_wp2_with fail
    go_ret
    exact hfin.out
  · have hkl : k < l.length := (List.getElem?_eq_some_iff.1 hx).1
    have hkn : k < n := by rw [hn.out]; exact hkl
    have hrel0 : DelRel w0 g l p (.int .i64 (k : Int)) (.int .i64 ((k : Int) + 1)) w1 := by
      have h1 := hrd
      rw [← List.take_append_drop k l, drop_cons hx] at h1
      obtain ⟨ca, cr, hcs, hra, m, cb, hcr, hm, hrb⟩ := h1.split
      subst hcr
      have hml := cOp.len hm
      have hkeep : (l.take k).filter (fun x => !p x) = l.take k := List.filter_eq_self.2 fun y hy => by rw [hno y hy]; rfl
      have hft : (l.take (k + 1)).filter (fun x => !p x) = l.take k := by rw [fil_step _ hx, hpx, hkeep]; rfl
      refine ⟨hb01, k, k + 1, ca, m, cb, rfl, by go_num, by omega, by omega, by rw [← hcs]; exact hrow, by rw [hft]; exact hra, ?_, hrb, ?_⟩
      · rw [hml, show k + 1 - k = 1 by omega]; rfl
      · rw [hft, List.length_take]; omega
    replace hrel0 := hide hrel0
    clear hno hrd hrow hAl hx hpx hcl hix
    go_wp2_with fail
    go_loopw [5, 6] (fun vi vj wr => DelRel w0 g l p vi vj wr) (fun _ vj _ => n - (RowKit.intOf vj).toNat)
    case atStart => exact hrel0.out
    case round =>
      clear hrel0
      obtain ⟨hbl, i, j, ca, cm, cb, rfl, rfl, hij, hjl, hrow, hra, hcm, hrb, hil⟩ := hrel
      have hcal : ca.length = i * 5 := by rw [hra.length, hil]; rfl
      have hgl := hrow.lt
      by_cases hlt : j < n
      · obtain ⟨y, hy⟩ := get_lt (show j < l.length by rw [← hn.out]; exact hlt)
        have hrb2 := hrb
        rw [drop_cons hy] at hrb2
        obtain ⟨m, cb', rfl, ⟨ho, B, d, hcd, hdm, rfl, hB⟩, hrb'⟩ := hrb2
        have hfs := fil_step (fun x => !p x) hy
        have hji : (j : Int) < (n : Int) := by omega
        have hpa : At wr g (j * 5) (opCells y B d) := by
          have h1 : RowAt wr g 47 ((ca ++ cm) ++ (opCells y B d ++ cb')) := by rw [List.append_assoc]; exact hrow
          have h2 := RowAt.part h1
          rw [List.length_append, hcal, hcm, show i * 5 + (j - i) * 5 = j * 5 by omega] at h2
          exact h2
        have hc0 := (hpa 0 _ rfl).1
        have hc1 := (hpa 1 _ rfl).1
        have hc2 := (hpa 2 _ rfl).1
        have hc3 := (hpa 3 _ rfl).1
        have hc4 := (hpa 4 _ rfl).1
        simp only [Nat.add_zero] at hc0
        have hnel : (opCells y B d).length = 5 := rfl
        obtain ⟨V, hV⟩ : ∃ V, V = wr.alloc (.cells #[Value.int IntKind.u8 y.kind, Value.int IntKind.u32 y.id.t, Value.int IntKind.u8 y.id.r, Value.slice B y.pl.length d, Value.int IntKind.i64 y.pt] 47) := ⟨_, rfl⟩
        have hbV : Bl wr V := by rw [hV]; exact (Bl.refl _).alloc _
        have atx : OpBox V wr.heap.size y B d := by rw [hV]; exact OpBox.new wr y B d _
        have hyin : OpIn V y B d := ⟨ho, hcd, hdm, R.bl (RS.up (S' := Fresh 0 wr) hB fun b h => ⟨Nat.zero_le _, h.1.2⟩) hbV⟩
        have hcl := hp.out V y B d (List.mem_of_getElem? hy) (hbl.trans hbV) hyin
        have hg2 : g ≠ wr.heap.size := by omega
        cases hq : p y
        · -- it stays
          rw [hq] at hcl hfs
          simp only [Bool.not_false, if_true] at hfs
          replace hcl := hide hcl
          have hrest : ∀ w2, Bl V w2 → DelRel w0 g l p (.int .i64 ((i : Int) + 1)) (.int .i64 ((j : Int) + 1)) (w2.setCells g (i * 5) (opCells y B d)) := fun w2 hb2 => by
            have hbr := hbV.trans hb2
            obtain ⟨o5, cr, rfl, hol⟩ : ∃ o5 cr, cm = o5 ++ cr ∧ o5.length = 5 := ⟨cm.take 5, cm.drop 5, (List.take_append_drop 5 cm).symm, by rw [List.length_take, hcm]; omega⟩
            have hrow2 : RowAt (w2.setCells g (i * 5) (opCells y B d)) g 47 ((ca ++ opCells y B d) ++ ((cr ++ opCells y B d) ++ cb')) := by
              have h1 : RowAt w2 g 47 (ca ++ (o5 ++ (cr ++ (opCells y B d ++ cb')))) := by
                have := hrow.bl hbr
                simpa using this
              have h2 := RowAt.sets (opCells y B d) o5 ca w2 hol h1
              rw [hcal] at h2
              simpa using h2
            have hkp : ∀ {xs cells}, RdL cOp wr (fun b => (w0.heap.size ≤ b ∧ b < wr.heap.size) ∧ b ≠ g) xs cells → RdL cOp (w2.setCells g (i * 5) (opCells y B d)) (fun b => (w0.heap.size ≤ b ∧ b < (w2.setCells g (i * 5) (opCells y B d)).heap.size) ∧ b ≠ g) xs cells := fun h =>
              ((h.keep (hbr.keeps fun b h => h.1.2) (fun b h => (⟨⟨h.1.1, Nat.lt_of_lt_of_le h.1.2 hbr.size⟩, h.2⟩ : (w0.heap.size ≤ b ∧ b < w2.heap.size) ∧ b ≠ g))).keep (keeps_setCells (fun b h => h.2) _ _ _) fun b h => ⟨⟨h.1.1, by rw [size_setCells]; exact h.1.2⟩, h.2⟩)
            refine ⟨below_setCells hg0 _ _ (hbl.trans hbr), i + 1, j + 1, ca ++ opCells y B d, cr ++ opCells y B d, cb', by go_num, by go_num, by omega, by rw [← hn.out]; omega, hrow2, ?_, ?_, hkp hrb', ?_⟩
            · rw [hfs]
              exact RdL.append (hkp hra) (hkp (RdL.one1 ⟨ho, B, d, hcd, hdm, rfl, hB⟩))
            · rw [List.length_append, hnel]
              rw [List.length_append, hol] at hcm
              omega
            · rw [hfs, List.length_append, hil]; rfl
          replace hrest := hide hrest
          have hcells : ∀ w2, Bl V w2 → (w2.cell? ⟨g, i * 5, none⟩).isSome = true ∧ (w2.cell? ⟨g, i * 5 + 1, none⟩).isSome = true ∧ (w2.cell? ⟨g, i * 5 + 2, none⟩).isSome = true ∧ (w2.cell? ⟨g, i * 5 + 3, none⟩).isSome = true ∧ (w2.cell? ⟨g, i * 5 + 4, none⟩).isSome = true ∧ (∀ o, w2.frozen? ⟨g, o, none⟩ = false) := fun w2 hb2 => by
            have hr2 := hrow.bl (hbV.trans hb2)
            have hlen : i * 5 + 5 ≤ (ca ++ (cm ++ (opCells y B d ++ cb'))).length := by simp only [List.length_append]; omega
            have hsome : ∀ q, q < 5 → (w2.cell? ⟨g, i * 5 + q, none⟩).isSome = true := fun q hq => by
              have := (hr2.at (i * 5 + q) _ (List.getElem?_eq_getElem (by omega))).1
              rw [Nat.zero_add] at this
              rw [this]
              rfl
            exact ⟨hsome 0 (by omega), hsome 1 (by omega), hsome 2 (by omega), hsome 3 (by omega), hsome 4 (by omega), fun o => by unfold RowAt at hr2; simp [World.frozen?, hr2]⟩
          replace hcells := hide hcells
          have hii : (i : Int) < (n : Int) := by omega
          clear hq hy hfs hrow hra hrb hrb' hpa hcm hcal hil
          go_wp2_with fail
          rw [← hV]
          clear hV hc0 hc1 hc2 hc3 hc4
          refine hcl.out.mono ?_
          rintro e w2 ⟨rfl, hb2⟩
          obtain ⟨x0, x1, x2, x3, x4⟩ := (atx.bl hb2).cells
          have hlx := (atx.bl hb2).lt
          obtain ⟨z0, z1, z2, z3, z4, zf⟩ := hcells.out w2 hb2
          obtain ⟨u0, z0⟩ := Option.isSome_iff_exists.1 z0
          obtain ⟨u1, z1⟩ := Option.isSome_iff_exists.1 z1
          obtain ⟨u2, z2⟩ := Option.isSome_iff_exists.1 z2
          obtain ⟨u3, z3⟩ := Option.isSome_iff_exists.1 z3
          obtain ⟨u4, z4⟩ := Option.isSome_iff_exists.1 z4
          have hlg : g < w2.heap.size := World.block_lt_of_cell? _ _ z0
          have zf0 := zf (i * 5)
          have zf1 := zf (i * 5 + 1)
          have zf2 := zf (i * 5 + 2)
          have zf3 := zf (i * 5 + 3)
          have zf4 := zf (i * 5 + 4)
          have hgx : wr.heap.size ≠ g := fun e => hg2 e.symm
          have hrr := hide (hrest.out w2 hb2)
          clear hcells hrest zf
          go_wp2_with fail
          go_roundw
          case rel => exact ⟨_, _, _, _, _, _, _, _, _, _, _, _, _, _, _, _, _, _, _, _, _, _, _, hrr.out, rfl⟩
          case measure => simp [RowKit.intOf]; omega
        · -- it goes
          rw [hq] at hcl hfs
          simp only [Bool.not_true, Bool.false_eq_true, if_false] at hfs
          replace hcl := hide hcl
          have hrest : ∀ w2, Bl V w2 → DelRel w0 g l p (.int .i64 (i : Int)) (.int .i64 ((j : Int) + 1)) w2 := fun w2 hb2 => by
            have hbr := hbV.trans hb2
            have hkp : ∀ {xs cells}, RdL cOp wr (fun b => (w0.heap.size ≤ b ∧ b < wr.heap.size) ∧ b ≠ g) xs cells → RdL cOp w2 (fun b => (w0.heap.size ≤ b ∧ b < w2.heap.size) ∧ b ≠ g) xs cells := fun h =>
              h.keep (hbr.keeps fun b h => h.1.2) (fun b h => ⟨⟨h.1.1, Nat.lt_of_lt_of_le h.1.2 hbr.size⟩, h.2⟩)
            refine ⟨hbl.trans hbr, i, j + 1, ca, cm ++ opCells y B d, cb', rfl, by go_num, by omega, by rw [← hn.out]; omega, by have := hrow.bl hbr; simpa using this, by rw [hfs]; exact hkp hra, ?_, hkp hrb', by rw [hfs]; exact hil⟩
            rw [List.length_append, hcm, hnel]
            omega
          replace hrest := hide hrest
          clear hq hy hfs hrow hra hrb hrb' hpa hcm hcal hil
          go_wp2_with fail
          rw [← hV]
          clear hV hc0 hc1 hc2 hc3 hc4
          refine hcl.out.mono ?_
          rintro e w2 ⟨rfl, hb2⟩
          have hrr := hide (hrest.out w2 hb2)
          clear hrest
          go_wp2_with fail
          go_roundw
          case rel => exact ⟨_, _, _, _, _, _, _, _, _, _, _, _, _, _, _, _, _, _, _, _, _, _, _, hrr.out, rfl⟩
          case measure => simp [RowKit.intOf]; omega
      · have hjn : j = n := by rw [hn.out] at hlt ⊢; omega
        have hjl' : j = l.length := by rw [hjn]; exact hn.out
        rw [hjl', List.take_length, ← hF.out] at hra hil
        rw [hjl', List.drop_length] at hrb
        obtain rfl : cb = [] := hrb
        rw [List.append_nil] at hrow
        have hcm' : cm.length = (n - i) * 5 := by rw [hcm, hjn]
        have hin : i < n := by omega
        have hcll : ca.length + cm.length = n * 5 := by rw [hcal, hcm']; omega
        have hclr : ∀ ty cc, (Builtin.clear_ #[22] ty #[.slice (some ⟨g, i * 5, none⟩) (n - i) cc]).run Tryz.prog wr = .ok (.tuple #[]) (wr.setCells g (i * 5) (Builtin.zeroCells zeroO.cells (n - i)).toList) := fun ty cc =>
          run_clear_ops wr ty g (i * 5) (n - i) cc (by omega) (fun q hq => by
            have := (hrow.at (i * 5 + q) _ (List.getElem?_eq_getElem (by rw [List.length_append]; omega))).1
            rw [Nat.zero_add] at this
            rw [this]
            rfl) (fun q hq => by have h := hrow; unfold RowAt at h; simp [World.frozen?, h])
        have hfin := hide (show DelPost w0 g F (.returned (.slice (some ⟨g, 0, none⟩) i n)) (wr.setCells g (i * 5) (Builtin.zeroCells zeroO.cells (n - i)).toList) from by
          have h2 : RowAt (wr.setCells g (i * 5) (Builtin.zeroCells zeroO.cells (n - i)).toList) g 47 (ca ++ (Builtin.zeroCells zeroO.cells (n - i)).toList) := by
            have := RowAt.sets (q := []) (Builtin.zeroCells zeroO.cells (n - i)).toList cm ca wr (by rw [zero_len, hcm']) (by rwa [List.append_nil])
            rw [hcal, List.append_nil] at this
            exact this
          have h3 := hra.keep (w' := wr.setCells g (i * 5) (Builtin.zeroCells zeroO.cells (n - i)).toList) (S' := fun b => (w0.heap.size ≤ b ∧ b < (wr.setCells g (i * 5) (Builtin.zeroCells zeroO.cells (n - i)).toList).heap.size) ∧ b ≠ g) (keeps_setCells (fun b h => h.2) _ _ _) fun b h => ⟨⟨h.1.1, by rw [size_setCells]; exact h.1.2⟩, h.2⟩
          exact ⟨n, by rw [hil], by rw [hil]; omega, by unfold maxLen; omega, RowAt.R h2 h3 (fun b h => h.1) hg0, below_setCells hg0 _ _ hbl⟩)
        have hjn' : ¬ (j : Int) < (n : Int) := by omega
        have hni : ¬ (n = i) := by omega
        have hii : (i : Int) ≤ (n : Int) := by omega
        have hi0 : (0 : Int) ≤ (i : Int) := by omega
        generalize (Builtin.zeroCells zeroO.cells (n - i)).toList = ZC at hclr hfin
        clear hra hrow hcm hcm' hcll hil hcal
        replace hjn := hide hjn
        replace hjl' := hide hjl'
        go_wp2_with (at_builtin; refine wpList_clear_runO _ rfl _ _ rfl _ rfl (hclr _ _) ?_)
        go_ret
        exact hfin.out

end Go.Proofs.YteoodmilcpmmpaaGreat

namespace Go.Proofs.YteoodmilcpmmpaaGreat

open Go.RowKit Go.Shelf Go.Lib

def zeroOp : Op := ⟨0, ⟨0, 0⟩, [], 0⟩

def findB11 (l : List Op) (s : Id) : Bool := bagMay l && hasId l s

def findO (l : List Op) (s : Id) : Op := if findB11 l s then (l[posOf l s]?).getD zeroOp else zeroOp

/-- What hands back an operation, and a bool. -/
def OpB (x : Op) (b : Bool) (w : World) (e : Ending) (w' : World) : Prop := ∃ A c, e = .returned (.tuple #[.agg #[.int .u8 x.kind, .int .u32 x.id.t, .int .u8 x.id.r, .slice A x.pl.length c, .int .i64 x.pt], .bool b]) ∧ x.pl.length ≤ c ∧ c ≤ maxLen ∧ R cRun w.heap.size w' A x.pl ∧ Bl w w'

theorem has_pos {l : List Op} {s : Id} (hs : Srt l) (h : hasId l s = true) : ∃ x, l[posOf l s]? = some x ∧ x.id = s := by
  obtain ⟨x, hx, e⟩ := hasId_true h
  obtain ⟨k, hk⟩ := List.getElem?_of_mem hx
  have hcut : Cut l s k := ⟨fun j y hj hy => by rw [← e]; exact hs.get hy hk hj, fun j y hj hy => by
    by_cases h1 : j = k
    · subst h1; rw [hk] at hy; cases hy; rw [e]; exact idLess_irr s
    · have := hs.get hk hy (by omega)
      rw [e] at this
      exact idLess_as this⟩
  have hkl := (List.getElem?_eq_some_iff.1 hk).1
  rw [hcut.pos (by omega)]
  exact ⟨x, hk, e⟩

set_option maxRecDepth 100000 in
set_option maxHeartbeats 2000000 in
theorem bagFind (A : Option Addr) (c : Nat) (l : List Op) (s : Id) (w : World) (hl : l.length ≤ maxLen) (hs : s.ok) (hA : R cOp 0 w A l) :
    Calls Tryz.prog 68 #[.slice A l.length c, .agg #[.int .u32 s.t, .int .u8 s.r]] w (OpB (findO l s) (findB11 l s) w) := by
  obtain ⟨W, hW⟩ : ∃ W, W = (w.alloc (.cells #[Value.int IntKind.u32 s.t, Value.int IntKind.u8 s.r] 25)).alloc (.cells #[Value.int IntKind.u8 0, Value.int IntKind.u32 0, Value.int IntKind.u8 0, Value.slice none 0 0, Value.int IntKind.i64 0] 47) := ⟨_, rfl⟩
  have hbW : Bl w W := by rw [hW]; exact ((Bl.refl _).alloc _).alloc _
  have at0 : IdBox W w.heap.size s := by rw [hW]; exact (IdBox.new w s _).bl ((Bl.refl _).alloc _)
  have at1 : OpBox W (w.heap.size + 1) zeroOp none 0 := by
    rw [hW]
    have := OpBox.new (w.alloc (.cells #[Value.int IntKind.u32 s.t, Value.int IntKind.u8 s.r] 25)) zeroOp none 0 47
    rw [World.size_alloc] at this
    exact this
  have hchk := fun V (hb : Bl W V) => bagCheck A c l V hl (hA.bl (hbW.trans hb))
  obtain ⟨x, hx⟩ : ∃ x, x = findO l s := ⟨_, rfl⟩
  obtain ⟨b, hb⟩ : ∃ b, b = findB11 l s := ⟨_, rfl⟩
  rw [← hx, ← hb]
  have hzero : ∀ V, Bl W V → OpB zeroOp false w (.returned (.tuple #[.agg #[.int .u8 zeroOp.kind, .int .u32 zeroOp.id.t, .int .u8 zeroOp.id.r, .slice none zeroOp.pl.length 0, .int .i64 zeroOp.pt], .bool false])) (((((V.setCell ⟨w.heap.size + 1, 0, none⟩ (.int .u8 0)).setCell ⟨w.heap.size + 1, 1, none⟩ (.int .u32 0)).setCell ⟨w.heap.size + 1, 2, none⟩ (.int .u8 0)).setCell ⟨w.heap.size + 1, 3, none⟩ (.slice none 0 0)).setCell ⟨w.heap.size + 1, 4, none⟩ (.int .i64 0)) := fun V hV =>
    ⟨none, 0, rfl, Nat.le_refl _, Nat.zero_le _, R.nil, (((((hbW.trans hV).setCell (by simp) _).setCell (by simp) _).setCell (by simp) _).setCell (by simp) _).setCell (by simp) _⟩
  replace hzero := hide hzero
  cases h1 : bagMay l
  · have e1 : b = false := by rw [hb]; unfold findB11; rw [h1]; rfl
    have e2 : x = zeroOp := by rw [hx]; unfold findO; rw [← hb, e1]; rfl
    subst e1 e2
    rw [h1, okOr_false] at hchk
    replace hchk := hide hchk
    clear hx hb h1
    go_enter Tryz.func68, Tryz.ntmps68
    go_wp2_with fail
    rw [← hW]
    clear hW
    refine (hchk.out _ (Bl.refl _)).mono ?_
    rintro e w1 ⟨rfl, hb1⟩
    obtain ⟨y0, y1, y2, y3, y4⟩ := (at1.bl hb1).cells
    obtain ⟨f0, f1, f2, f3, f4⟩ := (at1.bl hb1).frozens
    have hyl := (at1.bl hb1).lt
    go_wp2_with fail
    refine bodyPost_ret (v := .tuple #[.agg #[.int .u8 0, .int .u32 0, .int .u8 0, .slice none 0 0, .int .i64 0], .bool false]) (by simp [results, Tryz.results68, go_sem, y0, y1, y2, y3, y4]) rfl ?_
    exact hzero.out w1 hb1
  rw [h1, okOr_true] at hchk
  replace hchk := hide hchk
  obtain ⟨hl1, hsrt, hall⟩ := bagMay_parts h1
  have hwh := fun V (hb : Bl W V) => bagWhere A c l s V (by omega) (hA.bl (hbW.trans hb)) hs hsrt
  cases h2 : hasId l s
  · have e1 : b = false := by rw [hb]; unfold findB11; rw [h1, h2]; rfl
    have e2 : x = zeroOp := by rw [hx]; unfold findO; rw [← hb, e1]; rfl
    subst e1 e2
    rw [h2] at hwh
    generalize posOf l s = p at hwh
    replace hwh := hide hwh
    clear hx hb h1 h2 hsrt hall
    go_enter Tryz.func68, Tryz.ntmps68
    go_wp2_with fail
    rw [← hW]
    clear hW
    refine (hchk.out _ (Bl.refl _)).mono ?_
    rintro e w1 ⟨rfl, hb1⟩
    obtain ⟨z0, z1, -, -⟩ := at0.bl hb1
    have hzl := (at0.bl hb1).lt
    go_wp2_with fail
    refine (hwh.out _ hb1).mono ?_
    rintro e w2 ⟨rfl, hb2⟩
    have hb12 := hb1.trans hb2
    obtain ⟨y0, y1, y2, y3, y4⟩ := (at1.bl hb12).cells
    obtain ⟨f0, f1, f2, f3, f4⟩ := (at1.bl hb12).frozens
    have hyl := (at1.bl hb12).lt
    clear z0 z1 hzl
    go_wp2_with fail
    refine bodyPost_ret (v := .tuple #[.agg #[.int .u8 0, .int .u32 0, .int .u8 0, .slice none 0 0, .int .i64 0], .bool false]) (by simp [results, Tryz.results68, go_sem, y0, y1, y2, y3, y4]) rfl ?_
    exact hzero.out w2 hb12
  · have e1 : b = true := by rw [hb]; unfold findB11; rw [h1, h2]; rfl
    obtain ⟨y, hy, hys⟩ := has_pos hsrt h2
    have e2 : x = y := by rw [hx]; unfold findO; rw [← hb, e1, hy]; rfl
    subst e1 e2
    rw [h2] at hwh
    have hxs := opMay_small (hall x (List.mem_of_getElem? hy))
    obtain ⟨blk, off, rfl, _, hbk⟩ := hA.addr (by have := (List.getElem?_eq_some_iff.1 hy).1; omega)
    obtain ⟨_, ho, S, sc, q1, q2, hS, c0, c1, c2, c3, c4⟩ := hA.op hy
    have hpl := (List.getElem?_eq_some_iff.1 hy).1
    generalize posOf l s = p at hwh c0 c1 c2 c3 c4 hpl hy
    have hpi : (p : Int) < (l.length : Int) := by omega
    replace hwh := hide hwh
    clear hx hb h1 h2 hsrt hall hys hy hzero
    have htw := hide (fun V (hV : Bl w V) => opTwin x S sc V (⟨ho, q1, q2, hS.bl hV⟩ : OpIn V x S sc) hxs)
    go_enter Tryz.func68, Tryz.ntmps68
    go_wp2_with fail
    rw [← hW]
    clear hW
    refine (hchk.out _ (Bl.refl _)).mono ?_
    rintro e w1 ⟨rfl, hb1⟩
    obtain ⟨z0, z1, -, -⟩ := at0.bl hb1
    have hzl := (at0.bl hb1).lt
    go_wp2_with fail
    refine (hwh.out _ hb1).mono ?_
    rintro e w2 ⟨rfl, hb2⟩
    have hb12 := hb1.trans hb2
    have hbw2 := hbW.trans hb12
    clear z0 z1 hzl
    replace c0 := (hbw2.cell hbk).trans c0
    replace c1 := (hbw2.cell hbk).trans c1
    replace c2 := (hbw2.cell hbk).trans c2
    replace c3 := (hbw2.cell hbk).trans c3
    replace c4 := (hbw2.cell hbk).trans c4
    have hkl := Nat.lt_of_lt_of_le hbk hbw2.size
    go_wp2_with fail
    refine (htw.out _ hbw2).mono ?_
    rintro e w3 ⟨A3, n3, rfl, r1, r2, hr3, hb3⟩
    have hb13 := hb12.trans hb3
    obtain ⟨y0, y1, y2, y3, y4⟩ := (at1.bl hb13).cells
    obtain ⟨f0, f1, f2, f3, f4⟩ := (at1.bl hb13).frozens
    have hyl := (at1.bl hb13).lt
    have hW1 := at1.lt
    clear c0 c1 c2 c3 c4
    go_wp2_with fail
    refine bodyPost_ret (v := .tuple #[.agg #[.int .u8 x.kind, .int .u32 x.id.t, .int .u8 x.id.r, .slice A3 x.pl.length n3, .int .i64 x.pt], .bool true]) (by simp [results, Tryz.results68, go_sem, y0, y1, y2, y3, y4]) rfl ?_
    refine ⟨A3, n3, rfl, r1, r2, ?_, ?_⟩
    · refine R.more (lo := w2.heap.size) ?_ hbw2.size
      have hlt1 : w.heap.size + 1 < w2.heap.size := Nat.lt_of_lt_of_le hW1 hb12.size
      repeat (refine R.set ?_ hlt1 _)
      exact hr3
    · have hbf := hbW.trans hb13
      repeat (refine Bl.setCell ?_ (by simp) _)
      exact hbf

end Go.Proofs.YteoodmilcpmmpaaGreat
