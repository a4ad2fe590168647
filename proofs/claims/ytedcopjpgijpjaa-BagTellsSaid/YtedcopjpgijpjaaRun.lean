/-
  Runs and operations as data; runs' ends, places that may be, code points.
-/
import Derived.Test.YtedcopjpgijpjaaOwn
namespace Go.Proofs.Ytedcopjpgijpjaa
open Go.RowKit

/-! ### The data -/
structure Run where
  t : Int
  r : Int
  m : Int
structure Op where
  kind : Int
  id : Id
  pl : List Run
  pt : Int
theorem Run.ext' {a b : Run} (h1 : a.t = b.t) (h2 : a.r = b.r) (h3 : a.m = b.m) : a = b := by cases a; cases b; simp_all
instance : DecidableEq Run := fun a b => decidable_of_iff (a.t = b.t ∧ a.r = b.r ∧ a.m = b.m) ⟨fun h => Run.ext' h.1 h.2.1 h.2.2, fun h => by subst h; exact ⟨rfl, rfl, rfl⟩⟩
instance : DecidableEq Op := fun a b => decidable_of_iff (a.kind = b.kind ∧ a.id = b.id ∧ a.pl = b.pl ∧ a.pt = b.pt) ⟨fun h => by cases a; cases b; simp_all, fun h => by subst h; simp⟩
def Run.ok (x : Run) : Prop := 0 ≤ x.t ∧ x.t < 4294967296 ∧ 0 ≤ x.r ∧ x.r < 256 ∧ i64ok x.m
def Op.ok (x : Op) : Prop := u8ok x.kind ∧ x.id.ok ∧ i64ok x.pt

def cRun : Codec Run where
  size := 3
  pos := by omega
  rd _ _ x cs := x.ok ∧ cs = [.int .u32 x.t, .int .u8 x.r, .int .i64 x.m]
  len h := by rw [h.2]; rfl
  keep _ _ h := h
  one h := by rw [h.2]; intro u hu; simp at hu; rcases hu with rfl | rfl | rfl <;> rfl
/-- The five cells of an operation. -/
def opCells (x : Op) (A : Option Addr) (c : Nat) : List Value := [.int .u8 x.kind, .int .u32 x.id.t, .int .u8 x.id.r, .slice A x.pl.length c, .int .i64 x.pt]
def cOp : Codec Op where
  size := 5
  pos := by omega
  rd w S x cs := x.ok ∧ ∃ A c, x.pl.length ≤ c ∧ c ≤ maxLen ∧ cs = opCells x A c ∧ RS cRun w S A x.pl
  len h := by obtain ⟨_, A, c, _, _, e, _⟩ := h; rw [e]; rfl
  keep k h1 h := by obtain ⟨h0, A, c, a1, a2, e, hr⟩ := h; exact ⟨h0, A, c, a1, a2, e, hr.keep k h1⟩
  one h := by obtain ⟨_, A, c, _, _, e, _⟩ := h; rw [e]; intro u hu; simp [opCells] at hu; rcases hu with rfl | rfl | rfl | rfl | rfl <;> rfl
theorem flatRun : ∀ {w : World} {S : Nat → Prop} {x : Run} {cs : List Value}, cRun.rd w S x cs → ∀ S', cRun.rd w S' x cs := fun h _ => h

section
variable {w : World} {lo : Nat} {b off k : Nat}
theorem R.run {l : List Run} {x : Run} (h : R cRun lo w (some ⟨b, off, none⟩) l) (hk : l[k]? = some x) :
    (lo ≤ b ∧ b < w.heap.size) ∧ x.ok ∧ w.cell? ⟨b, off + k * 3, none⟩ = some (.int .u32 x.t) ∧ w.cell? ⟨b, off + k * 3 + 1, none⟩ = some (.int .u8 x.r) ∧ w.cell? ⟨b, off + k * 3 + 2, none⟩ = some (.int .i64 x.m) := by
  obtain ⟨h1, m, ⟨ho, rfl⟩, ha⟩ := R.get h hk
  exact ⟨h1, ho, (ha 0 _ rfl).1, (ha 1 _ rfl).1, (ha 2 _ rfl).1⟩
theorem R.op {l : List Op} {x : Op} (h : R cOp lo w (some ⟨b, off, none⟩) l) (hk : l[k]? = some x) :
    (lo ≤ b ∧ b < w.heap.size) ∧ x.ok ∧ ∃ A c, x.pl.length ≤ c ∧ c ≤ maxLen ∧ R cRun lo w A x.pl ∧ w.cell? ⟨b, off + k * 5, none⟩ = some (.int .u8 x.kind) ∧ w.cell? ⟨b, off + k * 5 + 1, none⟩ = some (.int .u32 x.id.t) ∧ w.cell? ⟨b, off + k * 5 + 2, none⟩ = some (.int .u8 x.id.r) ∧
      w.cell? ⟨b, off + k * 5 + 3, none⟩ = some (.slice A x.pl.length c) ∧ w.cell? ⟨b, off + k * 5 + 4, none⟩ = some (.int .i64 x.pt) := by
  obtain ⟨h1, m, ⟨ho, A, c, a1, a2, rfl, hr⟩, ha⟩ := R.get h hk
  exact ⟨h1, ho, A, c, a1, a2, hr, (ha 0 _ rfl).1, (ha 1 _ rfl).1, (ha 2 _ rfl).1, (ha 3 _ rfl).1, (ha 4 _ rfl).1⟩
theorem At.lt {cs : List Value} (h : At w b off cs) (hn : 0 < cs.length) : b < w.heap.size := World.block_lt_of_cell? w _ (h 0 cs[0] (List.getElem?_eq_getElem hn)).1
theorem At.bl {w' : World} {cs : List Value} (h : At w b off cs) (hb : Bl w w') (hn : 0 < cs.length) : At w' b off cs := h.keep (hb.block b (h.lt hn))
theorem At.new (w : World) (cs : List Value) (t : TypeId) : At (w.alloc (.cells cs.toArray t)) w.heap.size 0 cs := fun j u hu => by
  refine ⟨?_, frozen_new w _ _ _⟩
  rw [World.cell?_alloc_at (w := w) _ _ w.heap.size _ rfl, Nat.zero_add]
  simpa using hu
end

/-- A stamp's two cells, in a box. -/
structure IdBox (W : World) (Y : Nat) (s : Id) : Prop where
  c0 : W.cell? ⟨Y, 0, none⟩ = some (.int .u32 s.t)
  c1 : W.cell? ⟨Y, 1, none⟩ = some (.int .u8 s.r)
  f0 : W.frozen? ⟨Y, 0, none⟩ = false
  f1 : W.frozen? ⟨Y, 1, none⟩ = false
theorem IdBox.lt {W : World} {Y : Nat} {s : Id} (h : IdBox W Y s) : Y < W.heap.size := World.block_lt_of_cell? W _ h.c0
theorem IdBox.bl {W W' : World} {Y : Nat} {s : Id} (h : IdBox W Y s) (hb : Bl W W') : IdBox W' Y s := ⟨(hb.cell h.lt).trans h.c0, (hb.cell h.lt).trans h.c1, (hb.frozen h.lt).trans h.f0, (hb.frozen h.lt).trans h.f1⟩
theorem box_set_other {w : World} {b o b' o' : Nat} {u v : Value} (h : (⟨b', o', none⟩ : Addr) ≠ ⟨b, o, none⟩) (hc : w.cell? ⟨b', o', none⟩ = some v) : (w.setCell ⟨b, o, none⟩ u).cell? ⟨b', o', none⟩ = some v :=
  (World.cell?_setCell_other w _ _ u (fun e => h e.symm)).trans hc
theorem box_set_same {w : World} {b o : Nat} {u v : Value} (hc : w.cell? ⟨b, o, none⟩ = some v) : (w.setCell ⟨b, o, none⟩ u).cell? ⟨b, o, none⟩ = some u :=
  World.cell?_setCell_same' _ _ _ (by rw [hc]; rfl)
theorem IdBox.set {W : World} {Y : Nat} {s : Id} (h : IdBox W Y s) (r : Id) : IdBox ((W.setCell ⟨Y, 0, none⟩ (.int .u32 r.t)).setCell ⟨Y, 1, none⟩ (.int .u8 r.r)) Y r :=
  ⟨box_set_other (by intro e; injection e with _ e; omega) (box_set_same h.c0), box_set_same (box_set_other (by intro e; injection e with _ e; omega) h.c1), by simp only [World.frozen?_setCell]; exact h.f0, by simp only [World.frozen?_setCell]; exact h.f1⟩
theorem IdBox.new (w : World) (s : Id) (t : TypeId) : IdBox (w.alloc (.cells #[Value.int IntKind.u32 s.t, Value.int IntKind.u8 s.r] t)) w.heap.size s := by
  have h := At.new w [Value.int IntKind.u32 s.t, Value.int IntKind.u8 s.r] t
  exact ⟨(h 0 _ rfl).1, (h 1 _ rfl).1, (h 0 _ rfl).2, (h 1 _ rfl).2⟩

/-! ### A place that may be -/
def runOne (x : Run) : Bool := decide (1 ≤ x.m) && decide (x.m ≤ 4096) && idMay ⟨x.t, x.r⟩ && idMay ⟨x.t + x.m - 1, x.r⟩
def runBehind (wt wr : Int) (x : Run) : Bool := decide (wt < x.t) && !(decide (x.r = wr) && decide (x.t = wt + 1))
def runsFrom (wt wr : Int) : List Run → Bool
  | [] => true
  | x :: l => runOne x && runBehind wt wr x && runsFrom (x.t + x.m - 1) x.r l
def runsDeep : List Run → Int
  | [] => 0
  | x :: l => x.m + runsDeep l
def placeMay (p : List Run) : Bool := decide (1 ≤ p.length) && decide (p.length ≤ 64) && runsFrom 0 (-1) p && decide (runsDeep p ≤ 4096)
theorem runsDeep_bd : ∀ (l : List Run) (wt wr : Int), runsFrom wt wr l = true → 0 ≤ runsDeep l ∧ (l.length : Int) ≤ runsDeep l ∧ runsDeep l ≤ 4096 * l.length
  | [], _, _, _ => by simp [runsDeep]
  | x :: l, wt, wr, h => by
    simp only [runsFrom, runOne, Bool.and_eq_true, decide_eq_true_eq] at h
    have := runsDeep_bd l _ _ h.2
    simp only [runsDeep, List.length_cons]
    push_cast
    omega
theorem runsFrom_good {p rest : List Run} {wt wr : Int} {k : Nat} {x : Run} (h : runsFrom 0 (-1) p = runsFrom wt wr (p.drop k)) (hd : p.drop k = x :: rest) (h1 : runOne x = true) (h2 : runBehind wt wr x = true) : runsFrom 0 (-1) p = runsFrom (x.t + x.m - 1) x.r rest := by
  rw [h, hd, runsFrom, h1, h2]; rfl
theorem runsFrom_bad {p rest : List Run} {wt wr : Int} {k : Nat} {x : Run} (h : runsFrom 0 (-1) p = runsFrom wt wr (p.drop k)) (hd : p.drop k = x :: rest) (hb : (runOne x && runBehind wt wr x) = false) : runsFrom 0 (-1) p = false := by
  rw [h, hd, runsFrom, hb]; rfl
theorem placeMay_false {p : List Run} (h : runsFrom 0 (-1) p = false) : placeMay p = false := by unfold placeMay; rw [h]; simp

/-- place.Last: the last stamp of one that may be. -/
def placeFin (p : List Run) : Id := if placeMay p then (match p.getLast? with | some x => ⟨x.t + x.m - 1, x.r⟩ | none => ⟨0, 0⟩) else ⟨0, 0⟩
theorem runsFrom_all : ∀ (l : List Run) (wt wr : Int), runsFrom wt wr l = true → ∀ x ∈ l, runOne x = true
  | [], _, _, _ => fun x hx => by cases hx
  | y :: l, wt, wr, h => fun x hx => by
    simp only [runsFrom, Bool.and_eq_true] at h
    rcases List.mem_cons.1 hx with rfl | hx
    · exact h.1.1
    · exact runsFrom_all l _ _ h.2 x hx
theorem runOne_bd {x : Run} (h : runOne x = true) : 1 ≤ x.t ∧ x.t ≤ 1073741824 ∧ 1 ≤ x.m ∧ x.m ≤ 4096 ∧ x.r < 8 ∧ x.t + x.m - 1 ≤ 1073741824 := by
  unfold runOne idMay at h
  simp at h
  omega
theorem placeMay_parts {p : List Run} (h : placeMay p = true) : 1 ≤ p.length ∧ p.length ≤ 64 ∧ runsFrom 0 (-1) p = true ∧ runsDeep p ≤ 4096 := by
  unfold placeMay at h
  simp at h
  exact ⟨h.1.1.1, h.1.1.2, h.1.2, h.2⟩
theorem placeFin_of {p : List Run} (h : placeMay p = true) : ∃ x, p[p.length - 1]? = some x ∧ placeFin p = ⟨x.t + x.m - 1, x.r⟩ ∧ 0 ≤ x.t ∧ x.t ≤ 1073741824 ∧ 1 ≤ x.m ∧ x.m ≤ 4096 := by
  obtain ⟨h1, _, h2, _⟩ := placeMay_parts h
  obtain ⟨x, hx⟩ := get_lt (show p.length - 1 < p.length by omega)
  have hb := runOne_bd (runsFrom_all p _ _ h2 x (List.mem_of_getElem? hx))
  refine ⟨x, hx, ?_, by omega, hb.2.1, hb.2.2.1, hb.2.2.2.1⟩
  unfold placeFin
  rw [h, if_pos rfl, List.getLast?_eq_getElem?, hx]

/-! ### The ends of a run -/
set_option maxHeartbeats 400000 in
theorem placeFirst (x : Run) (w : World) :
    Calls Try.prog 103 #[.agg #[.int .u32 x.t, .int .u8 x.r, .int .i64 x.m]] w fun e w' => e = .returned (.agg #[.int .u32 x.t, .int .u8 x.r]) ∧ Bl w w' := by
  go_enter Try.func103, Try.ntmps103
  go_wp2
  refine bodyPost_ret (v := .agg #[.int .u32 x.t, .int .u8 x.r]) (by simp [results, Try.results103, go_sem]) rfl ?_
  exact ⟨rfl, ((Bl.refl _).alloc _).alloc _⟩

set_option maxHeartbeats 400000 in
theorem placeEnd (x : Run) (w : World) (h0 : 0 ≤ x.t) (h1 : x.t ≤ 1073741824) (h2 : 1 ≤ x.m) (h3 : x.m ≤ 4096) :
    Calls Try.prog 104 #[.agg #[.int .u32 x.t, .int .u8 x.r, .int .i64 x.m]] w fun e w' => e = .returned (.agg #[.int .u32 (x.t + x.m - 1), .int .u8 x.r]) ∧ Bl w w' := by
  go_enter Try.func104, Try.ntmps104
  go_wp2
  refine bodyPost_ret (v := .agg #[.int .u32 (x.t + x.m - 1), .int .u8 x.r]) (by simp [results, Try.results104, go_sem]) rfl ?_
  exact ⟨rfl, ((Bl.refl _).alloc _).alloc _⟩
end Go.Proofs.Ytedcopjpgijpjaa
