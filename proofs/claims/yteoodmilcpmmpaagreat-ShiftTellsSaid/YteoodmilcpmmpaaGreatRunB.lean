/-
  Runs and operations as data; runs' ends, places that may be, code points.
  The walks of place.Check, Last, Same, Twin.
  The walks of place.Same, Twin, point.Check, and of package op.
  The walks of op.right and its closures, op.Check, Same, Twin.
-/
import Derived.Test.YteoodmilcpmmpaaGreatOwnB
import Derived.Test.YteoodmilcpmmpaaGreatBox
namespace Go.Proofs.YteoodmilcpmmpaaGreat

open Go.RowKit

structure Run where
  t : Int
  r : Int
  m : Int

structure Op where
  kind : Int
  id : Id
  pl : List Run
  pt : Int

theorem Run.ext' {a b : Run} (h1 : a.t = b.t) (h2 : a.r = b.r) (h3 : a.m = b.m) : a = b := by cases a; cases b; simp_all

instance : DecidableEq Run := fun a b => decidable_of_iff (a.t = b.t ∧ a.r = b.r ∧ a.m = b.m) ⟨fun h => Run.ext' h.1 h.2.1 h.2.2, fun h => by subst h; exact ⟨rfl, rfl, rfl⟩⟩

instance : DecidableEq Op := fun a b => decidable_of_iff (a.kind = b.kind ∧ a.id = b.id ∧ a.pl = b.pl ∧ a.pt = b.pt) ⟨fun h => by cases a; cases b; simp_all, fun h => by subst h; simp⟩

def Run.ok (x : Run) : Prop := 0 ≤ x.t ∧ x.t < 4294967296 ∧ 0 ≤ x.r ∧ x.r < 256 ∧ i64ok x.m

def Op.ok (x : Op) : Prop := u8ok x.kind ∧ x.id.ok ∧ i64ok x.pt

def cRun : Codec Run where
  size := 3
  pos := by omega
  rd _ _ x cs := x.ok ∧ cs = [.int .u32 x.t, .int .u8 x.r, .int .i64 x.m]
  len h := by rw [h.2]; rfl
  keep _ _ h := h
  one h := by rw [h.2]; intro u hu; simp at hu; rcases hu with rfl | rfl | rfl <;> rfl

/-- The five cells of an operation. -/
def opCells (x : Op) (A : Option Addr) (c : Nat) : List Value := [.int .u8 x.kind, .int .u32 x.id.t, .int .u8 x.id.r, .slice A x.pl.length c, .int .i64 x.pt]

def cOp : Codec Op where
  size := 5
  pos := by omega
  rd w S x cs := x.ok ∧ ∃ A c, x.pl.length ≤ c ∧ c ≤ maxLen ∧ cs = opCells x A c ∧ RS cRun w S A x.pl
  len h := by obtain ⟨_, A, c, _, _, e, _⟩ := h; rw [e]; rfl
  keep k h1 h := by obtain ⟨h0, A, c, a1, a2, e, hr⟩ := h; exact ⟨h0, A, c, a1, a2, e, hr.keep k h1⟩
  one h := by obtain ⟨_, A, c, _, _, e, _⟩ := h; rw [e]; intro u hu; simp [opCells] at hu; rcases hu with rfl | rfl | rfl | rfl | rfl <;> rfl

theorem flatRun : ∀ {w : World} {S : Nat → Prop} {x : Run} {cs : List Value}, cRun.rd w S x cs → ∀ S', cRun.rd w S' x cs := fun h _ => h

section

variable {w : World} {lo : Nat} {b off k : Nat}

theorem R.run {l : List Run} {x : Run} (h : R cRun lo w (some ⟨b, off, none⟩) l) (hk : l[k]? = some x) :
    (lo ≤ b ∧ b < w.heap.size) ∧ x.ok ∧ w.cell? ⟨b, off + k * 3, none⟩ = some (.int .u32 x.t) ∧ w.cell? ⟨b, off + k * 3 + 1, none⟩ = some (.int .u8 x.r) ∧ w.cell? ⟨b, off + k * 3 + 2, none⟩ = some (.int .i64 x.m) := by
  obtain ⟨h1, m, ⟨ho, rfl⟩, ha⟩ := R.get h hk
  exact ⟨h1, ho, (ha 0 _ rfl).1, (ha 1 _ rfl).1, (ha 2 _ rfl).1⟩

theorem R.op {l : List Op} {x : Op} (h : R cOp lo w (some ⟨b, off, none⟩) l) (hk : l[k]? = some x) :
    (lo ≤ b ∧ b < w.heap.size) ∧ x.ok ∧ ∃ A c, x.pl.length ≤ c ∧ c ≤ maxLen ∧ R cRun lo w A x.pl ∧ w.cell? ⟨b, off + k * 5, none⟩ = some (.int .u8 x.kind) ∧ w.cell? ⟨b, off + k * 5 + 1, none⟩ = some (.int .u32 x.id.t) ∧ w.cell? ⟨b, off + k * 5 + 2, none⟩ = some (.int .u8 x.id.r) ∧
      w.cell? ⟨b, off + k * 5 + 3, none⟩ = some (.slice A x.pl.length c) ∧ w.cell? ⟨b, off + k * 5 + 4, none⟩ = some (.int .i64 x.pt) := by
  obtain ⟨h1, m, ⟨ho, A, c, a1, a2, rfl, hr⟩, ha⟩ := R.get h hk
  exact ⟨h1, ho, A, c, a1, a2, hr, (ha 0 _ rfl).1, (ha 1 _ rfl).1, (ha 2 _ rfl).1, (ha 3 _ rfl).1, (ha 4 _ rfl).1⟩

end

def runOne (x : Run) : Bool := decide (1 ≤ x.m) && decide (x.m ≤ 4096) && idMay ⟨x.t, x.r⟩ && idMay ⟨x.t + x.m - 1, x.r⟩

def runBehind (wt wr : Int) (x : Run) : Bool := decide (wt < x.t) && !(decide (x.r = wr) && decide (x.t = wt + 1))

def runsFrom (wt wr : Int) : List Run → Bool
  | [] => true
  | x :: l => runOne x && runBehind wt wr x && runsFrom (x.t + x.m - 1) x.r l

def runsDeep : List Run → Int
  | [] => 0
  | x :: l => x.m + runsDeep l

def placeMay (p : List Run) : Bool := decide (1 ≤ p.length) && decide (p.length ≤ 64) && runsFrom 0 (-1) p && decide (runsDeep p ≤ 4096)

theorem runsDeep_bd : ∀ (l : List Run) (wt wr : Int), runsFrom wt wr l = true → 0 ≤ runsDeep l ∧ (l.length : Int) ≤ runsDeep l ∧ runsDeep l ≤ 4096 * l.length
  | [], _, _, _ => by simp [runsDeep]
  | x :: l, wt, wr, h => by
    simp only [runsFrom, runOne, Bool.and_eq_true, decide_eq_true_eq] at h
    have := runsDeep_bd l _ _ h.2
    simp only [runsDeep, List.length_cons]
    push_cast
    omega

theorem runsFrom_good {p rest : List Run} {wt wr : Int} {k : Nat} {x : Run} (h : runsFrom 0 (-1) p = runsFrom wt wr (p.drop k)) (hd : p.drop k = x :: rest) (h1 : runOne x = true) (h2 : runBehind wt wr x = true) : runsFrom 0 (-1) p = runsFrom (x.t + x.m - 1) x.r rest := by
  rw [h, hd, runsFrom, h1, h2]; rfl

theorem runsFrom_bad {p rest : List Run} {wt wr : Int} {k : Nat} {x : Run} (h : runsFrom 0 (-1) p = runsFrom wt wr (p.drop k)) (hd : p.drop k = x :: rest) (hb : (runOne x && runBehind wt wr x) = false) : runsFrom 0 (-1) p = false := by
  rw [h, hd, runsFrom, hb]; rfl

theorem placeMay_false {p : List Run} (h : runsFrom 0 (-1) p = false) : placeMay p = false := by unfold placeMay; rw [h]; simp

/-- place.Last: the last stamp of one that may be. -/
def placeFin (p : List Run) : Id := if placeMay p then (match p.getLast? with | some x => ⟨x.t + x.m - 1, x.r⟩ | none => ⟨0, 0⟩) else ⟨0, 0⟩

theorem runsFrom_all : ∀ (l : List Run) (wt wr : Int), runsFrom wt wr l = true → ∀ x ∈ l, runOne x = true
  | [], _, _, _ => fun x hx => by cases hx
  | y :: l, wt, wr, h => fun x hx => by
    simp only [runsFrom, Bool.and_eq_true] at h
    rcases List.mem_cons.1 hx with rfl | hx
    · exact h.1.1
    · exact runsFrom_all l _ _ h.2 x hx

theorem runOne_bd {x : Run} (h : runOne x = true) : 1 ≤ x.t ∧ x.t ≤ 1073741824 ∧ 1 ≤ x.m ∧ x.m ≤ 4096 ∧ x.r < 8 ∧ x.t + x.m - 1 ≤ 1073741824 := by
  unfold runOne idMay at h
  simp at h
  omega

theorem placeMay_parts {p : List Run} (h : placeMay p = true) : 1 ≤ p.length ∧ p.length ≤ 64 ∧ runsFrom 0 (-1) p = true ∧ runsDeep p ≤ 4096 := by
  unfold placeMay at h
  simp at h
  exact ⟨h.1.1.1, h.1.1.2, h.1.2, h.2⟩

theorem placeFin_of {p : List Run} (h : placeMay p = true) : ∃ x, p[p.length - 1]? = some x ∧ placeFin p = ⟨x.t + x.m - 1, x.r⟩ ∧ 0 ≤ x.t ∧ x.t ≤ 1073741824 ∧ 1 ≤ x.m ∧ x.m ≤ 4096 := by
  obtain ⟨h1, _, h2, _⟩ := placeMay_parts h
  obtain ⟨x, hx⟩ := get_lt (show p.length - 1 < p.length by omega)
  have hb := runOne_bd (runsFrom_all p _ _ h2 x (List.mem_of_getElem? hx))
  refine ⟨x, hx, ?_, by omega, hb.2.1, hb.2.2.1, hb.2.2.2.1⟩
  unfold placeFin
  rw [h, if_pos rfl, List.getLast?_eq_getElem?, hx]

set_option maxHeartbeats 400000 in
theorem placeFirst (x : Run) (w : World) :
    Calls Tryz.prog 67 #[.agg #[.int .u32 x.t, .int .u8 x.r, .int .i64 x.m]] w fun e w' => e = .returned (.agg #[.int .u32 x.t, .int .u8 x.r]) ∧ Bl w w' := by
  go_enter Tryz.func67, Tryz.ntmps67
  go_wp2
  refine bodyPost_ret (v := .agg #[.int .u32 x.t, .int .u8 x.r]) (by simp [results, Tryz.results67, go_sem]) rfl ?_
  exact ⟨rfl, ((Bl.refl _).alloc _).alloc _⟩

set_option maxHeartbeats 400000 in
theorem placeEnd (x : Run) (w : World) (h0 : 0 ≤ x.t) (h1 : x.t ≤ 1073741824) (h2 : 1 ≤ x.m) (h3 : x.m ≤ 4096) :
    Calls Tryz.prog 97 #[.agg #[.int .u32 x.t, .int .u8 x.r, .int .i64 x.m]] w fun e w' => e = .returned (.agg #[.int .u32 (x.t + x.m - 1), .int .u8 x.r]) ∧ Bl w w' := by
  go_enter Tryz.func97, Tryz.ntmps97
  go_wp2
  refine bodyPost_ret (v := .agg #[.int .u32 (x.t + x.m - 1), .int .u8 x.r]) (by simp [results, Tryz.results97, go_sem]) rfl ?_
  exact ⟨rfl, ((Bl.refl _).alloc _).alloc _⟩

end Go.Proofs.YteoodmilcpmmpaaGreat

namespace Go.Proofs.YteoodmilcpmmpaaGreat

open Go.RowKit

set_option maxRecDepth 100000 in
set_option maxHeartbeats 1000000 in
theorem placeCheck (A : Option Addr) (c : Nat) (p : List Run) (w : World) (hl : p.length ≤ maxLen) (hA : R cRun 0 w A p) :
    Calls Tryz.prog 42 #[.slice A p.length c] w fun e w' => e = .returned (.int .i64 (okOr 8 (placeMay p))) ∧ Bl w w' := by
  unfold maxLen at hl
  obtain ⟨N, hN⟩ : ∃ N, N = okOr 8 (placeMay p) := ⟨_, rfl⟩
  rw [← hN]
  by_cases hn : p.length < 1
  · have e1 := hide (show N = 8 by rw [hN]; unfold placeMay; rw [decide_eq_false (show ¬ 1 ≤ p.length by omega)]; rfl)
    clear hN
    go_enter Tryz.func42, Tryz.ntmps42
    go_wp2
    go_ret
    exact ⟨ret_int e1.out.symm, Bl.refl _⟩
  by_cases hbig : 64 < p.length
  · have e1 := hide (show N = 8 by rw [hN]; unfold placeMay; rw [decide_eq_false (show ¬ p.length ≤ 64 by omega), Bool.and_false]; rfl)
    clear hN hn
    have hbig' : (64 : Int) < (p.length : Int) := by omega
    go_enter Tryz.func42, Tryz.ntmps42
    go_wp2
    go_ret
    exact ⟨ret_int e1.out.symm, Bl.refl _⟩
  have hbad := hide (show runsFrom 0 (-1) p = false → 8 = N from fun h => by rw [hN, placeMay_false h]; rfl)
  have hgood := hide (show runsFrom 0 (-1) p = true → N = okOr 8 (decide (runsDeep p ≤ 4096)) from fun h => by rw [hN]; unfold placeMay; rw [h, decide_eq_true (show 1 ≤ p.length by omega), decide_eq_true (show p.length ≤ 64 by omega)]; rfl)
  clear hN
  have h1 : (1 : Int) ≤ (p.length : Int) := by omega
  have h64 : (p.length : Int) ≤ 64 := by omega
  go_enter Tryz.func42, Tryz.ntmps42
  go_wp2
  go_loopw [3, 17] (fun s i wr => Bl w wr ∧ ∃ (k : Nat) (wt wr' S : Int), k ≤ p.length ∧ i = .int .i64 k ∧ s = .int .i64 S ∧ 0 ≤ S ∧ S ≤ 4096 * k ∧ 0 ≤ wt ∧ wt ≤ 1073741824 ∧
    IdBox wr w.heap.size ⟨wt, if k = 0 then 0 else wr'⟩ ∧ (k = 0 → wt = 0 ∧ wr' = -1) ∧ Hid (runsFrom 0 (-1) p = runsFrom wt wr' (p.drop k)) ∧ Hid (runsDeep p = S + runsDeep (p.drop k))) (fun _ i _ => p.length - (intOf i).toNat)
  case atStart => exact ⟨(Bl.refl _).alloc _, 0, 0, -1, 0, Nat.zero_le _, rfl, rfl, by omega, by omega, by omega, by omega, IdBox.new w ⟨0, 0⟩ _, fun _ => ⟨rfl, rfl⟩, rfl, by simp [Hid]⟩
  case round =>
    obtain ⟨hbl, k, wt, wr', S, hk, rfl, rfl, hS0, hS1, hw0, hw1, hat, hz, hf, hd⟩ := hrel
    by_cases hlt : k < p.length
    · have hR := hA.bl hbl
      obtain ⟨b, off, rfl, _, hb⟩ := hR.addr (by omega)
      obtain ⟨x, hx⟩ := get_lt hlt
      obtain ⟨_, ⟨o0, o1, o2, o3, o4, o5⟩, c0, c1, c2⟩ := hR.run hx
      have hdr := hide (drop_cons hx)
      clear hx
      have hki : (k : Int) < (p.length : Int) := by omega
      have hno : (runOne x && runBehind wt wr' x) = false → 8 = N := fun h => hbad.out (runsFrom_bad hf.out hdr.out h)
      replace hno := hide hno
      by_cases hm1 : x.m < 1
      · have g := hide (hno.out (by unfold runOne; rw [decide_eq_false (show ¬ 1 ≤ x.m by omega)]; rfl))
        clear hf hd hz hgood hbad hdr hat hno
        go_wp2
        go_ret
        exact ⟨ret_int g.out, hbl.alloc _⟩
      by_cases hm2 : 4096 < x.m
      · have g := hide (hno.out (by unfold runOne; rw [decide_eq_false (show ¬ x.m ≤ 4096 by omega), Bool.and_false]; rfl))
        clear hf hd hz hgood hbad hdr hat hno
        go_wp2
        go_ret
        exact ⟨ret_int g.out, hbl.alloc _⟩
      have hm1' : 1 ≤ x.m := by omega
      have hm2' : x.m ≤ 4096 := by omega
      clear hm1 hm2
      have hone : runOne x = (idMay ⟨x.t, x.r⟩ && idMay ⟨x.t + x.m - 1, x.r⟩) := by unfold runOne; rw [decide_eq_true hm1', decide_eq_true hm2']; rfl
      have h1 := fun W => stampCheck ⟨x.t, x.r⟩ W
      have atx : ∀ V, Bl (wr.alloc (.cells #[Value.int IntKind.u32 x.t, Value.int IntKind.u8 x.r, Value.int IntKind.i64 x.m] 40)) V → V.cell? ⟨wr.heap.size, 0, none⟩ = some (.int .u32 x.t) ∧ V.cell? ⟨wr.heap.size, 1, none⟩ = some (.int .u8 x.r) ∧ V.cell? ⟨wr.heap.size, 2, none⟩ = some (.int .i64 x.m) ∧ wr.heap.size < V.heap.size := fun V hV => by
        have h := (At.new wr [Value.int IntKind.u32 x.t, Value.int IntKind.u8 x.r, Value.int IntKind.i64 x.m] 40).bl hV (by simp)
        exact ⟨(h 0 _ rfl).1, (h 1 _ rfl).1, (h 2 _ rfl).1, h.lt (by simp)⟩
      have hV0 : Bl wr (wr.alloc (.cells #[Value.int IntKind.u32 x.t, Value.int IntKind.u8 x.r, Value.int IntKind.i64 x.m] 40)) := (Bl.refl _).alloc _
      replace atx := hide atx
      cases hi1 : idMay ⟨x.t, x.r⟩
      · have g := hide (hno.out (by rw [hone, hi1]; rfl))
        rw [hi1, okOr_false] at h1
        replace h1 := hide h1
        clear hf hd hz hgood hbad hdr hat hno hone hi1
        go_wp2_with fail
        refine (placeFirst x _).mono ?_
        rintro e w1 ⟨rfl, hb1⟩
        go_wp2_with fail
        refine (h1.out _).mono ?_
        rintro e w2 ⟨rfl, hb2⟩
        go_wp2_with fail
        go_ret
        exact ⟨ret_int g.out, (hbl.trans hV0).trans (hb1.trans hb2)⟩
      have hx1 : 1 ≤ x.t ∧ x.t ≤ 1073741824 ∧ x.r < 8 := by
        have := hi1
        unfold idMay at this
        simp at this
        omega
      obtain ⟨t0, t1, t2⟩ := hx1
      have h2 := fun W => stampCheck ⟨x.t + x.m - 1, x.r⟩ W
      rw [hi1, okOr_true] at h1
      replace h1 := hide h1
      cases hi2 : idMay ⟨x.t + x.m - 1, x.r⟩
      · have g := hide (hno.out (by rw [hone, hi1, hi2]; rfl))
        rw [hi2, okOr_false] at h2
        replace h2 := hide h2
        clear hf hd hz hgood hbad hdr hat hno hone hi1 hi2
        go_wp2_with fail
        refine (placeFirst x _).mono ?_
        rintro e w1 ⟨rfl, hb1⟩
        go_wp2_with fail
        refine (h1.out _).mono ?_
        rintro e w2 ⟨rfl, hb2⟩
        have hb12 := hb1.trans hb2
        obtain ⟨x0, x1, x2, x3⟩ := atx.out _ hb12
        go_wp2_with fail
        refine (placeEnd x _ o0 t1 hm1' hm2').mono ?_
        rintro e w3 ⟨rfl, hb3⟩
        go_wp2_with fail
        refine (h2.out _).mono ?_
        rintro e w4 ⟨rfl, hb4⟩
        go_wp2_with fail
        go_ret
        exact ⟨ret_int g.out, (hbl.trans hV0).trans (hb12.trans (hb3.trans hb4))⟩
      have hx2 : x.t + x.m - 1 ≤ 1073741824 := by
        have := hi2
        unfold idMay at this
        simp at this
        omega
      rw [hi1, hi2] at hone
      rw [hi2, okOr_true] at h2
      replace h2 := hide h2
      replace hone := hide (show runOne x = true from hone)
      clear hi1 hi2
      -- behind the checks
      have hrel : ∀ (W : World), Bl w W → IdBox W w.heap.size ⟨x.t + x.m - 1, x.r⟩ → runBehind wt wr' x = true → Bl w W ∧ ∃ (k' : Nat) (wt' wr'' S' : Int), k' ≤ p.length ∧ Value.int .i64 ((k : Int) + 1) = .int .i64 k' ∧ Value.int .i64 (S + x.m) = .int .i64 S' ∧ 0 ≤ S' ∧ S' ≤ 4096 * k' ∧ 0 ≤ wt' ∧ wt' ≤ 1073741824 ∧
          IdBox W w.heap.size ⟨wt', if k' = 0 then 0 else wr''⟩ ∧ (k' = 0 → wt' = 0 ∧ wr'' = -1) ∧ Hid (runsFrom 0 (-1) p = runsFrom wt' wr'' (p.drop k')) ∧ Hid (runsDeep p = S' + runsDeep (p.drop k')) := fun W hW hI hB =>
        ⟨hW, k + 1, x.t + x.m - 1, x.r, S + x.m, by omega, by go_num, rfl, by omega, by push_cast; omega, by omega, hx2, by rw [if_neg (by omega)]; exact hI, fun h => by omega, runsFrom_good hf.out hdr.out hone.out hB, by rw [hd.out, hdr.out, runsDeep]; simp only [Hid]; omega⟩
      replace hrel := hide hrel
      by_cases hk0 : k = 0
      · have hbeh := hide (show runBehind wt wr' x = true by obtain ⟨rfl, rfl⟩ := hz hk0; unfold runBehind; rw [decide_eq_true (show 0 < x.t by omega), decide_eq_false (show ¬ x.r = -1 by omega)]; rfl)
        have hki0 : ¬ (0 : Int) < (k : Int) := by omega
        clear hz hf hd hgood hbad hdr hno hone hk0
        go_wp2_with fail
        refine (placeFirst x _).mono ?_
        rintro e w1 ⟨rfl, hb1⟩
        go_wp2_with fail
        refine (h1.out _).mono ?_
        rintro e w2 ⟨rfl, hb2⟩
        have hb12 := hb1.trans hb2
        obtain ⟨x0, x1, x2, x3⟩ := atx.out _ hb12
        go_wp2_with fail
        refine (placeEnd x _ o0 t1 hm1' hm2').mono ?_
        rintro e w3 ⟨rfl, hb3⟩
        clear x0 x1 x2 x3
        go_wp2_with fail
        refine (h2.out _).mono ?_
        rintro e w4 ⟨rfl, hb4⟩
        have hb14 := hb12.trans (hb3.trans hb4)
        obtain ⟨x0, x1, x2, x3⟩ := atx.out _ hb14
        have hbx := (hbl.trans hV0).trans hb14
        have hat4 := hat.bl (hV0.trans hb14)
        go_wp2_with fail
        refine (placeEnd x _ o0 t1 hm1' hm2').mono ?_
        rintro e w5 ⟨rfl, hb5⟩
        have hb15 := hb14.trans hb5
        clear x0 x1 x2 x3
        obtain ⟨x0, x1, x2, x3⟩ := atx.out _ hb15
        obtain ⟨y0, y1, f0, f1⟩ := hat4.bl hb5
        have hat5 := (hat4.bl hb5).set ⟨x.t + x.m - 1, x.r⟩
        have hl5 := (hat4.bl hb5).lt
        have hne1 : w.heap.size ≠ wr.heap.size := by have := hat.lt; omega
        have hne2 : wr.heap.size ≠ w.heap.size := by have := hat.lt; omega
        go_wp2_with fail
        go_roundw
        case rel => exact hrel.out _ (((hbx.trans hb5).setCell (Nat.le_refl _) _).setCell (Nat.le_refl _) _) hat5 hbeh.out
        case measure => simp [intOf]; omega
      · have hki0 : (0 : Int) < (k : Int) := by omega
        rw [if_neg hk0] at hat
        by_cases hq1 : x.t ≤ wt
        · have g := hide (hno.out (by unfold runBehind; rw [decide_eq_false (show ¬ wt < x.t by omega), Bool.false_and, Bool.and_false]))
          clear hz hf hd hgood hbad hdr hno hone hrel
          go_wp2_with fail
          refine (placeFirst x _).mono ?_
          rintro e w1 ⟨rfl, hb1⟩
          go_wp2_with fail
          refine (h1.out _).mono ?_
          rintro e w2 ⟨rfl, hb2⟩
          have hb12 := hb1.trans hb2
          obtain ⟨x0, x1, x2, x3⟩ := atx.out _ hb12
          go_wp2_with fail
          refine (placeEnd x _ o0 t1 hm1' hm2').mono ?_
          rintro e w3 ⟨rfl, hb3⟩
          clear x0 x1 x2 x3
          go_wp2_with fail
          refine (h2.out _).mono ?_
          rintro e w4 ⟨rfl, hb4⟩
          have hb14 := hb12.trans (hb3.trans hb4)
          obtain ⟨x0, x1, x2, x3⟩ := atx.out _ hb14
          have hbx := (hbl.trans hV0).trans hb14
          have hat4 := hat.bl (hV0.trans hb14)
          obtain ⟨y0, y1, f0, f1⟩ := hat4
          go_wp2_with fail
          go_ret
          exact ⟨ret_int g.out, hbx⟩
        have hq1' : wt < x.t := by omega
        by_cases hq2 : x.r = wr'
        · have e1 : (x.r == wr') = true := by simp [hq2]
          by_cases hq3 : x.t = wt + 1
          · have g := hide (hno.out (by unfold runBehind; rw [decide_eq_true hq2, decide_eq_true hq3]; simp))
            have e2 : (x.t == wt + 1) = true := by simp [hq3]
            clear hz hf hd hgood hbad hdr hno hone hrel hq1 hq2 hq3
            go_wp2_with fail
            refine (placeFirst x _).mono ?_
            rintro e w1 ⟨rfl, hb1⟩
            go_wp2_with fail
            refine (h1.out _).mono ?_
            rintro e w2 ⟨rfl, hb2⟩
            have hb12 := hb1.trans hb2
            obtain ⟨x0, x1, x2, x3⟩ := atx.out _ hb12
            go_wp2_with fail
            refine (placeEnd x _ o0 t1 hm1' hm2').mono ?_
            rintro e w3 ⟨rfl, hb3⟩
            clear x0 x1 x2 x3
            go_wp2_with fail
            refine (h2.out _).mono ?_
            rintro e w4 ⟨rfl, hb4⟩
            have hb14 := hb12.trans (hb3.trans hb4)
            obtain ⟨x0, x1, x2, x3⟩ := atx.out _ hb14
            have hbx := (hbl.trans hV0).trans hb14
            have hat4 := hat.bl (hV0.trans hb14)
            obtain ⟨y0, y1, f0, f1⟩ := hat4
            go_wp2_with fail
            go_ret
            exact ⟨ret_int g.out, hbx⟩
          · have hbeh := hide (show runBehind wt wr' x = true by unfold runBehind; rw [decide_eq_true hq1', decide_eq_false hq3]; simp)
            have e2 : (x.t == wt + 1) = false := by simp [hq3]
            clear hz hf hd hgood hbad hdr hno hone hq1 hq2 hq3
            go_wp2_with fail
            refine (placeFirst x _).mono ?_
            rintro e w1 ⟨rfl, hb1⟩
            go_wp2_with fail
            refine (h1.out _).mono ?_
            rintro e w2 ⟨rfl, hb2⟩
            have hb12 := hb1.trans hb2
            obtain ⟨x0, x1, x2, x3⟩ := atx.out _ hb12
            go_wp2_with fail
            refine (placeEnd x _ o0 t1 hm1' hm2').mono ?_
            rintro e w3 ⟨rfl, hb3⟩
            clear x0 x1 x2 x3
            go_wp2_with fail
            refine (h2.out _).mono ?_
            rintro e w4 ⟨rfl, hb4⟩
            have hb14 := hb12.trans (hb3.trans hb4)
            obtain ⟨x0, x1, x2, x3⟩ := atx.out _ hb14
            have hbx := (hbl.trans hV0).trans hb14
            have hat4 := hat.bl (hV0.trans hb14)
            have hat4c := hat4
            obtain ⟨z0, z1, g0, g1⟩ := hat4c
            go_wp2_with fail
            clear z0 z1 g0 g1
            refine (placeEnd x _ o0 t1 hm1' hm2').mono ?_
            rintro e w5 ⟨rfl, hb5⟩
            have hb15 := hb14.trans hb5
            clear x0 x1 x2 x3
            obtain ⟨x0, x1, x2, x3⟩ := atx.out _ hb15
            obtain ⟨y0, y1, f0, f1⟩ := hat4.bl hb5
            have hat5 := (hat4.bl hb5).set ⟨x.t + x.m - 1, x.r⟩
            have hl5 := (hat4.bl hb5).lt
            have hne1 : w.heap.size ≠ wr.heap.size := by have := hat.lt; omega
            have hne2 : wr.heap.size ≠ w.heap.size := by have := hat.lt; omega
            go_wp2_with fail
            go_roundw
            case rel => exact hrel.out _ (((hbx.trans hb5).setCell (Nat.le_refl _) _).setCell (Nat.le_refl _) _) hat5 hbeh.out
            case measure => simp [intOf]; omega
        · have hbeh := hide (show runBehind wt wr' x = true by unfold runBehind; rw [decide_eq_true hq1', decide_eq_false hq2]; simp)
          have e1 : (x.r == wr') = false := by simp [hq2]
          clear hz hf hd hgood hbad hdr hno hone hq1 hq2
          go_wp2_with fail
          refine (placeFirst x _).mono ?_
          rintro e w1 ⟨rfl, hb1⟩
          go_wp2_with fail
          refine (h1.out _).mono ?_
          rintro e w2 ⟨rfl, hb2⟩
          have hb12 := hb1.trans hb2
          obtain ⟨x0, x1, x2, x3⟩ := atx.out _ hb12
          go_wp2_with fail
          refine (placeEnd x _ o0 t1 hm1' hm2').mono ?_
          rintro e w3 ⟨rfl, hb3⟩
          clear x0 x1 x2 x3
          go_wp2_with fail
          refine (h2.out _).mono ?_
          rintro e w4 ⟨rfl, hb4⟩
          have hb14 := hb12.trans (hb3.trans hb4)
          obtain ⟨x0, x1, x2, x3⟩ := atx.out _ hb14
          have hbx := (hbl.trans hV0).trans hb14
          have hat4 := hat.bl (hV0.trans hb14)
          have hat4c := hat4
          obtain ⟨z0, z1, g0, g1⟩ := hat4c
          go_wp2_with fail
          clear z0 z1 g0 g1
          refine (placeEnd x _ o0 t1 hm1' hm2').mono ?_
          rintro e w5 ⟨rfl, hb5⟩
          have hb15 := hb14.trans hb5
          clear x0 x1 x2 x3
          obtain ⟨x0, x1, x2, x3⟩ := atx.out _ hb15
          obtain ⟨y0, y1, f0, f1⟩ := hat4.bl hb5
          have hat5 := (hat4.bl hb5).set ⟨x.t + x.m - 1, x.r⟩
          have hl5 := (hat4.bl hb5).lt
          have hne1 : w.heap.size ≠ wr.heap.size := by have := hat.lt; omega
          have hne2 : wr.heap.size ≠ w.heap.size := by have := hat.lt; omega
          go_wp2_with fail
          go_roundw
          case rel => exact hrel.out _ (((hbx.trans hb5).setCell (Nat.le_refl _) _).setCell (Nat.le_refl _) _) hat5 hbeh.out
          case measure => simp [intOf]; omega
    · have hkl : p.length ≤ k := by omega
      have hre : runsFrom 0 (-1) p = true := by rw [hf.out, List.drop_eq_nil_of_le hkl]; rfl
      have hsum : runsDeep p = S := by rw [hd.out, List.drop_eq_nil_of_le hkl]; simp [runsDeep]
      have g := hgood.out hre
      rw [hsum] at g
      clear hf hd hz hbad hgood hre hsum hat
      by_cases h4 : S ≤ 4096
      · rw [decide_eq_true h4] at g
        replace g := hide g
        go_wp2
        go_ret
        exact ⟨ret_int (by rw [g.out]; rfl), hbl⟩
      · rw [decide_eq_false h4] at g
        replace g := hide g
        have h4' : 4096 < S := by omega
        go_wp2
        go_ret
        exact ⟨ret_int (by rw [g.out]; rfl), hbl⟩

set_option maxRecDepth 100000 in
set_option maxHeartbeats 1000000 in
theorem placeLast (A : Option Addr) (c : Nat) (p : List Run) (w : World) (hl : p.length ≤ maxLen) (hA : R cRun 0 w A p) :
    Calls Tryz.prog 61 #[.slice A p.length c] w fun e w' => e = .returned (.agg #[.int .u32 (placeFin p).t, .int .u8 (placeFin p).r]) ∧ Bl w w' := by
  have hl' := hl
  unfold maxLen at hl'
  have hc := fun W (hb : Bl w W) => placeCheck A c p W hl (hA.bl hb)
  have hV0 : Bl w (w.alloc (.cells #[Value.int IntKind.u32 0, Value.int IntKind.u8 0] 25)) := (Bl.refl _).alloc _
  have hat := IdBox.new w ⟨0, 0⟩ 25
  cases hm : placeMay p
  · have g := hide (show placeFin p = ⟨0, 0⟩ by unfold placeFin; rw [hm]; rfl)
    rw [hm, okOr_false] at hc
    replace hc := hide hc
    clear hm
    go_enter Tryz.func61, Tryz.ntmps61
    go_wp2_with fail
    refine (hc.out _ hV0).mono ?_
    rintro e w1 ⟨rfl, hb1⟩
    obtain ⟨y0, y1, f0, f1⟩ := hat.bl hb1
    have hl1 := (hat.bl hb1).lt
    go_wp2_with fail
    refine bodyPost_ret (v := .agg #[.int .u32 0, .int .u8 0]) (by simp [results, Tryz.results61, go_sem, y0, y1]) rfl ?_
    rw [g.out]
    exact ⟨rfl, ((hV0.trans hb1).setCell (Nat.le_refl _) _).setCell (Nat.le_refl _) _⟩
  obtain ⟨x, hx, hfx, hx0, hx1, hx2, hx3⟩ := placeFin_of hm
  have hn : 1 ≤ p.length := by have := (List.getElem?_eq_some_iff.1 hx).1; omega
  rw [hm, okOr_true] at hc
  replace hc := hide hc
  obtain ⟨b, off, rfl, _, hb⟩ := hA.addr (by omega)
  obtain ⟨_, ⟨o0, o1, o2, o3, o4, o5⟩, c0, c1, c2⟩ := hA.run hx
  have hnn : ((p.length : Int) - 1) = ((p.length - 1 : Nat) : Int) := by omega
  obtain ⟨n, hnl⟩ : ∃ n, n = p.length - 1 := ⟨_, rfl⟩
  rw [← hnl] at hnn hx c0 c1 c2
  have hni : n < p.length := by omega
  have g := hide hfx
  clear hm hfx hx hnl
  go_enter Tryz.func61, Tryz.ntmps61
  go_wp2_with fail
  refine (hc.out _ hV0).mono ?_
  rintro e w1 ⟨rfl, hb1⟩
  have hb01 := hV0.trans hb1
  replace c0 := (hb01.cell hb).trans c0
  replace c1 := (hb01.cell hb).trans c1
  replace c2 := (hb01.cell hb).trans c2
  have hb1s := hb01.size
  go_wp2_with fail
  refine (placeEnd x _ hx0 hx1 hx2 hx3).mono ?_
  rintro e w2 ⟨rfl, hb2⟩
  obtain ⟨y0, y1, f0, f1⟩ := hat.bl (hb1.trans hb2)
  have hl1 := (hat.bl (hb1.trans hb2)).lt
  go_wp2_with fail
  refine bodyPost_ret (v := .agg #[.int .u32 (x.t + x.m - 1), .int .u8 x.r]) (by simp [results, Tryz.results61, go_sem, y0, y1]) rfl ?_
  rw [g.out]
  exact ⟨rfl, ((hb01.trans hb2).setCell (Nat.le_refl _) _).setCell (Nat.le_refl _) _⟩

end Go.Proofs.YteoodmilcpmmpaaGreat

namespace Go.Proofs.YteoodmilcpmmpaaGreat

open Go.RowKit

def neqRun (x y : Run) : Bool := !decide (x = y)

theorem run_neqRun (x y : Run) (W : World) : (binOp .neq 40 (.agg #[.int .u32 x.t, .int .u8 x.r, .int .i64 x.m]) (.agg #[.int .u32 y.t, .int .u8 y.r, .int .i64 y.m])).run Tryz.prog W = .ok (.bool (neqRun x y)) W := by
  have u3 := Tryz.underlying23
  have a3 := Tryz.isAgg23
  have z3 := Tryz.sizeOf23
  have u5 := Tryz.underlying5
  have a5 := Tryz.isAgg5
  have z5 := Tryz.sizeOf5
  have u7 := Tryz.underlying3
  have a7 := Tryz.isAgg3
  have z7 := Tryz.sizeOf3
  have hS : Tryz.prog.underlying 40 = some (.struct (Tryz.prog.fieldsOf 40)) := by kernel_rfl
  have hp : Tryz.prog.stoodInHeld 40 = false := by kernel_rfl
  rw [run_neq_struct, show (10000 : Nat) = 9999 + 1 from rfl, run_equalIn_agg W 9999 40 _ _ hS hp]
  simp only [Program.fieldsOf, Tryz.underlying40]
  go_simp
  have e : neqRun x y = !(x.t == y.t && (x.r == y.r && x.m == y.m)) := by
    unfold neqRun
    by_cases h : x = y
    · subst h; simp
    · have : ¬ (x.t = y.t ∧ x.r = y.r ∧ x.m = y.m) := fun h' => h (Run.ext' h'.1 h'.2.1 h'.2.2)
      simp [h]; by_cases h1 : x.t = y.t <;> by_cases h2 : x.r = y.r <;> by_cases h3 : x.m = y.m <;> simp_all
  rw [e]
  by_cases h1 : x.t = y.t <;> by_cases h2 : x.r = y.r <;> by_cases h3 : x.m = y.m <;> simp [h1, h2, h3]

theorem neqRun_false {x y : Run} (h : neqRun x y = false) : x = y := by unfold neqRun at h; simpa using h

theorem neqRun_true {x y : Run} (h : neqRun x y = true) : x ≠ y := by unfold neqRun at h; simpa using h

theorem Tryz.infoRun : (Tryz.prog.info? 40).map (fun i => (i.zero, i.size, i.bytes)) = some (some (.agg #[.int .u32 0, .int .u8 0, .int .i64 0]), 3, 16) := by kernel_rfl

set_option maxHeartbeats 400000 in
theorem runClone (A : Option Addr) (c : Nat) (l : List Run) (w : World) (hl : l.length ≤ 1048576) (hA : R cRun 0 w A l) :
    Calls Tryz.prog 93 #[.slice A l.length c] w (New cRun l w) := by
  obtain ⟨i0, hi, hz0, hz1, hz2⟩ := info_parts Tryz.infoRun
  have hnil := fun (W : World) (a : Option Addr) (n c : Nat) => Lib.run_eql_slice_nil (P := Tryz.prog) W 26 40 a n c 0 0 Tryz.underlying26
  have hl : l.length ≤ 9223372036854775807 := by omega
  cases A with
  | none =>
    obtain ⟨_, _, _, h0⟩ := hA.all
    obtain rfl := h0 rfl
    go_enter Tryz.func93, Tryz.ntmps93
    go_wp2
    go_ret
    exact ⟨none, 0, rfl, Nat.le_refl _, by unfold maxLen; omega, R.nil, Bl.refl _⟩
  | some ad =>
    go_enter Tryz.func93, Tryz.ntmps93
    go_wp2_with (at_builtin
                 refine wpList_append_any2 (C := cRun) (xs := []) (ys := l) rfl (.tmp 5) (.tmp 6) _ rfl 40 i0 _ 16 Tryz.underlying26 hi hz0 hz1 hz2 rfl (.slice (some ⟨w.heap.size, 0, none⟩) 0 0) w.heap.size rfl (Own.empty (Nat.le_refl _)) (some ad) l.length c rfl rfl ((hA.bl ((Bl.refl _).alloc _)).source flatRun) ?c1 ?c2 ?c3 ?_
                 case c1 => simp only [List.length_nil, maxLen]; omega
                 case c2 => simp only [List.length_nil]; omega
                 case c3 => simp
                 intro v1 w1 hown hg _)
    go_ret
    have hbl := ((Bl.refl w).alloc _).app (Own.empty (C := cRun) (e := 40) (Nat.le_refl _)) (Nat.le_refl _) hg
    simp only [List.nil_append] at hown
    obtain ⟨A', c', rfl, hr, h1, h2⟩ := hown.reads
    exact ⟨A', c', rfl, h1, h2, hr, hbl⟩

set_option maxHeartbeats 400000 in
theorem placeTwin (A : Option Addr) (c : Nat) (l : List Run) (w : World) (hl : l.length ≤ 1048576) (hA : R cRun 0 w A l) :
    Calls Tryz.prog 37 #[.slice A l.length c] w (New cRun l w) := by
  go_enter Tryz.func37, Tryz.ntmps37
  go_wp2_with (go_at_call 93; refine (runClone A c l _ hl hA).mono ?_; rintro e w' ⟨A', c', rfl, h1, h2, hr, hb⟩)
  go_ret
  exact ⟨A', c', rfl, h1, h2, hr, hb⟩

def pointIs (n : Int) : Bool := decide (0 ≤ n) && decide (n ≤ 1114111) && (decide (n < 55296) || decide (57343 < n))

set_option maxHeartbeats 400000 in
theorem validRune (n : Int) (w : World) (h0 : 0 ≤ n) (h1 : n ≤ 1114111) :
    Calls Tryz.prog 199 #[.int .i32 n] w fun e w' => e = .returned (.bool (decide (n < 55296) || decide (57343 < n))) ∧ Bl w w' := by
  go_enter Tryz.func199, Tryz.ntmps199
  go_wp2
  all_goals
    go_ret
    exact ⟨ret_bool (by simp_all <;> omega), Bl.refl _⟩

set_option maxHeartbeats 400000 in
theorem pointCheck (n : Int) (w : World) (hn : i64ok n) :
    Calls Tryz.prog 160 #[.int .i64 n] w fun e w' => e = .returned (.int .i64 (okOr 40 (pointIs n))) ∧ Bl w w' := by
  obtain ⟨n0, n1⟩ := hn
  obtain ⟨N, hN⟩ : ∃ N, N = okOr 40 (pointIs n) := ⟨_, rfl⟩
  rw [← hN]
  by_cases h0 : n < 0
  · have g := hide (show 40 = N by rw [hN]; unfold pointIs; rw [decide_eq_false (show ¬ 0 ≤ n by omega)]; rfl)
    clear hN
    go_enter Tryz.func160, Tryz.ntmps160
    go_wp2
    go_ret
    exact ⟨ret_int g.out, Bl.refl _⟩
  by_cases h1 : 1114111 < n
  · have g := hide (show 40 = N by rw [hN]; unfold pointIs; rw [decide_eq_false (show ¬ n ≤ 1114111 by omega), Bool.and_false]; rfl)
    have h0' : 0 ≤ n := by omega
    clear hN h0
    go_enter Tryz.func160, Tryz.ntmps160
    go_wp2
    go_ret
    exact ⟨ret_int g.out, Bl.refl _⟩
  have h0' : 0 ≤ n := by omega
  have h1' : n ≤ 1114111 := by omega
  have hv := fun W => validRune n W h0' h1'
  have hpt : pointIs n = (decide (n < 55296) || decide (57343 < n)) := by unfold pointIs; rw [decide_eq_true h0', decide_eq_true h1']; rfl
  rw [← hpt] at hv
  clear h0 h1 hpt
  cases hq : pointIs n
  · have g := hide (show 40 = N by rw [hN, hq]; rfl)
    rw [hq] at hv
    replace hv := hide hv
    clear hN hq
    go_enter Tryz.func160, Tryz.ntmps160
    go_wp2_with fail
    refine (hv.out _).mono ?_
    rintro e w1 ⟨rfl, hb1⟩
    go_wp2_with fail
    go_ret
    exact ⟨ret_int g.out, hb1⟩
  · have g := hide (show 0 = N by rw [hN, hq]; rfl)
    rw [hq] at hv
    replace hv := hide hv
    clear hN hq
    go_enter Tryz.func160, Tryz.ntmps160
    go_wp2_with fail
    refine (hv.out _).mono ?_
    rintro e w1 ⟨rfl, hb1⟩
    go_wp2_with fail
    go_ret
    exact ⟨ret_int g.out, hb1⟩

end Go.Proofs.YteoodmilcpmmpaaGreat

namespace Go.Proofs.YteoodmilcpmmpaaGreat

open Go.RowKit

def OpBox (W : World) (Y : Nat) (x : Op) (A : Option Addr) (c : Nat) : Prop := At W Y 0 (opCells x A c)

section

variable {W W' : World} {Y : Nat} {x : Op} {A : Option Addr} {c : Nat}

theorem OpBox.new (w : World) (x : Op) (A : Option Addr) (c : Nat) (t : TypeId) : OpBox (w.alloc (.cells #[Value.int IntKind.u8 x.kind, Value.int IntKind.u32 x.id.t, Value.int IntKind.u8 x.id.r, Value.slice A x.pl.length c, Value.int IntKind.i64 x.pt] t)) w.heap.size x A c := At.new w (opCells x A c) t

theorem OpBox.bl (h : OpBox W Y x A c) (hb : Bl W W') : OpBox W' Y x A c := At.bl h hb (by simp [opCells])

theorem OpBox.lt (h : OpBox W Y x A c) : Y < W.heap.size := At.lt h (by simp [opCells])

theorem OpBox.cells (h : OpBox W Y x A c) : W.cell? ⟨Y, 0, none⟩ = some (.int .u8 x.kind) ∧ W.cell? ⟨Y, 1, none⟩ = some (.int .u32 x.id.t) ∧ W.cell? ⟨Y, 2, none⟩ = some (.int .u8 x.id.r) ∧ W.cell? ⟨Y, 3, none⟩ = some (.slice A x.pl.length c) ∧ W.cell? ⟨Y, 4, none⟩ = some (.int .i64 x.pt) :=
  ⟨(h 0 _ rfl).1, (h 1 _ rfl).1, (h 2 _ rfl).1, (h 3 _ rfl).1, (h 4 _ rfl).1⟩

theorem OpBox.frozens (h : OpBox W Y x A c) : W.frozen? ⟨Y, 0, none⟩ = false ∧ W.frozen? ⟨Y, 1, none⟩ = false ∧ W.frozen? ⟨Y, 2, none⟩ = false ∧ W.frozen? ⟨Y, 3, none⟩ = false ∧ W.frozen? ⟨Y, 4, none⟩ = false :=
  ⟨(h 0 _ rfl).2, (h 1 _ rfl).2, (h 2 _ rfl).2, (h 3 _ rfl).2, (h 4 _ rfl).2⟩

end

def opTail (x : Op) : Bool :=
  if x.kind = 1 then !neqId (placeFin x.pl) x.id && pointIs x.pt
  else if x.kind = 2 then !neqId (placeFin x.pl) x.id && decide (x.pt = 0)
  else decide (x.pt = 0) && decide ((placeFin x.pl).t < x.id.t)

def opMay (x : Op) : Bool := decide (1 ≤ x.kind) && decide (x.kind ≤ 4) && idMay x.id && placeMay x.pl && opTail x

/-- A pure operation value, its place readable: what the calls ask. -/
structure OpIn (w : World) (x : Op) (A : Option Addr) (c : Nat) : Prop where
  ok : x.ok
  h1 : x.pl.length ≤ c
  h2 : c ≤ maxLen
  hR : R cRun 0 w A x.pl

theorem OpIn.bl {w w' : World} {x : Op} {A : Option Addr} {c : Nat} (h : OpIn w x A c) (hb : Bl w w') : OpIn w' x A c := ⟨h.ok, h.h1, h.h2, h.hR.bl hb⟩

theorem OpIn.small {w : World} {x : Op} {A : Option Addr} {c : Nat} (h : OpIn w x A c) : x.pl.length ≤ maxLen := Nat.le_trans h.h1 h.h2

set_option maxRecDepth 100000 in
set_option maxHeartbeats 1000000 in
theorem opOwn (x : Op) (A : Option Addr) (c : Nat) (w : World) (hx : OpIn w x A c) :
    Calls Tryz.prog 157 #[.agg #[.int .u8 x.kind, .int .u32 x.id.t, .int .u8 x.id.r, .slice A x.pl.length c, .int .i64 x.pt]] w fun e w' => e = .returned (.bool (!neqId (placeFin x.pl) x.id)) ∧ Bl w w' := by
  have hl := hx.small
  have heq := run_eqId (placeFin x.pl) x.id
  have hla := fun W (hb : Bl w W) => placeLast A c x.pl W hl (hx.hR.bl hb)
  obtain ⟨W, hW⟩ : ∃ W, W = w.alloc (.cells #[Value.int IntKind.u8 x.kind, Value.int IntKind.u32 x.id.t, Value.int IntKind.u8 x.id.r, Value.slice A x.pl.length c, Value.int IntKind.i64 x.pt] 47) := ⟨_, rfl⟩
  have hbW : Bl w W := by rw [hW]; exact (Bl.refl _).alloc _
  have hat : OpBox W w.heap.size x A c := by rw [hW]; exact OpBox.new w x A c _
  obtain ⟨c0, c1, c2, c3, c4⟩ := hat.cells
  have hlt := hat.lt
  have C1 := fun p : Wd W => Wd.cell c1 hlt p
  have C2 := fun p : Wd W => Wd.cell c2 hlt p
  have C3 := fun p : Wd W => Wd.cell c3 hlt p
  have hcw := hide (fun p : Wd W => hla p.v (hbW.trans p.h))
  clear c0 c1 c2 c3 c4 hat hla
  go_enter Tryz.func157, Tryz.ntmps157
  go_wp2
  rw [← hW]
  clear hW
  (refine wp_region_wd (by kernel_rfl) (by kernel_rfl) ?_
   repeat (go_big_quiet_step ((go_at_call 61; exact Calls.wd (hcw.out _))))
   refine wpQuiet_nil ?_
   intro w2 hw'
   obtain ⟨⟨wx, hb2⟩, hw''⟩ := hw'
   subst hw'')
  go_wp2
  go_ret
  exact ⟨rfl, hbW.trans hb2⟩

set_option maxRecDepth 100000 in
set_option maxHeartbeats 1000000 in
theorem opYounger (x : Op) (A : Option Addr) (c : Nat) (w : World) (hx : OpIn w x A c) :
    Calls Tryz.prog 158 #[.agg #[.int .u8 x.kind, .int .u32 x.id.t, .int .u8 x.id.r, .slice A x.pl.length c, .int .i64 x.pt]] w fun e w' => e = .returned (.bool (decide (x.pt = 0) && decide ((placeFin x.pl).t < x.id.t))) ∧ Bl w w' := by
  have hl := hx.small
  have hfd : ∀ W : World, (Instr.field 25 (.agg #[.int .u32 (placeFin x.pl).t, .int .u8 (placeFin x.pl).r]) 0).run Tryz.prog W = .ok (.int .u32 (placeFin x.pl).t) W := fun _ => by kernel_rfl
  have hla := fun W (hb : Bl w W) => placeLast A c x.pl W hl (hx.hR.bl hb)
  obtain ⟨W, hW⟩ : ∃ W, W = w.alloc (.cells #[Value.int IntKind.u8 x.kind, Value.int IntKind.u32 x.id.t, Value.int IntKind.u8 x.id.r, Value.slice A x.pl.length c, Value.int IntKind.i64 x.pt] 47) := ⟨_, rfl⟩
  have hbW : Bl w W := by rw [hW]; exact (Bl.refl _).alloc _
  have hat : OpBox W w.heap.size x A c := by rw [hW]; exact OpBox.new w x A c _
  obtain ⟨c0, c1, c2, c3, c4⟩ := hat.cells
  have hlt := hat.lt
  have C1 := fun p : Wd W => Wd.cell c1 hlt p
  have C2 := fun p : Wd W => Wd.cell c2 hlt p
  have C3 := fun p : Wd W => Wd.cell c3 hlt p
  have C4 := fun p : Wd W => Wd.cell c4 hlt p
  have hcw := hide (fun p : Wd W => hla p.v (hbW.trans p.h))
  clear c0 c1 c2 c3 c4 hat hla
  by_cases hp : x.pt = 0
  · have hp' : (x.pt == 0) = true := by simp [hp]
    have g := hide (show decide ((placeFin x.pl).t < x.id.t) = (decide (x.pt = 0) && decide ((placeFin x.pl).t < x.id.t)) by rw [decide_eq_true hp]; rfl)
    clear hp
    go_enter Tryz.func158, Tryz.ntmps158
    go_wp2
    rw [← hW]
    clear hW
    (refine wp_region_wd (by kernel_rfl) (by kernel_rfl) ?_
     repeat (go_big_quiet_step ((go_at_call 61; exact Calls.wd (hcw.out _))))
     refine wpQuiet_nil ?_
     intro w2 hw'
     obtain ⟨⟨wx, hb2⟩, hw''⟩ := hw'
     subst hw'')
    go_wp2
    go_ret
    exact ⟨ret_bool g.out, hbW.trans hb2⟩
  · have hp' : (x.pt == 0) = false := by simp [hp]
    have g := hide (show false = (decide (x.pt = 0) && decide ((placeFin x.pl).t < x.id.t)) by rw [decide_eq_false hp]; rfl)
    clear hp
    go_enter Tryz.func158, Tryz.ntmps158
    go_wp2
    rw [← hW]
    clear hW
    (refine wp_region_wd (by kernel_rfl) (by kernel_rfl) ?_
     repeat (go_big_quiet_step ((go_at_call 61; exact Calls.wd (hcw.out _))))
     refine wpQuiet_nil ?_
     intro w2 hw'
     obtain ⟨⟨wx, hb2⟩, hw''⟩ := hw'
     subst hw'')
    go_wp2
    go_ret
    exact ⟨ret_bool g.out, hbW.trans hb2⟩

set_option maxRecDepth 100000 in
set_option maxHeartbeats 1000000 in
theorem opInsert (x : Op) (A : Option Addr) (c Y : Nat) (w : World) (hx : OpIn w x A c) (hY : w.cell? ⟨Y, 0, none⟩ = some (.func (.func 157) #[] #[])) :
    Calls Tryz.prog 159 #[.agg #[.int .u8 x.kind, .int .u32 x.id.t, .int .u8 x.id.r, .slice A x.pl.length c, .int .i64 x.pt], .pointer (some ⟨Y, 0, none⟩)] w fun e w' => e = .returned (.bool (!neqId (placeFin x.pl) x.id && pointIs x.pt)) ∧ Bl w w' := by
  have hpt := fun W => pointCheck x.pt W hx.ok.2.2
  have hV0 : Bl w (w.alloc (.cells #[Value.int IntKind.u8 x.kind, Value.int IntKind.u32 x.id.t, Value.int IntKind.u8 x.id.r, Value.slice A x.pl.length c, Value.int IntKind.i64 x.pt] 47)) := (Bl.refl _).alloc _
  have hat := OpBox.new w x A c 47
  have hYl : Y < w.heap.size := World.block_lt_of_cell? w _ hY
  have hne : Y ≠ w.heap.size := by omega
  have how := fun W (hb : Bl w W) => opOwn x A c W (hx.bl hb)
  cases hq : !neqId (placeFin x.pl) x.id
  · have g := hide (show false = (false && pointIs x.pt) from rfl)
    rw [hq] at how
    replace how := hide how
    clear hq
    go_enter Tryz.func159, Tryz.ntmps159
    go_wp2_with fail
    refine (how.out _ hV0).mono ?_
    rintro e w1 ⟨rfl, hb1⟩
    go_wp2_with fail
    go_ret
    exact ⟨rfl, hV0.trans hb1⟩
  · rw [hq] at how
    replace how := hide how
    clear hq
    cases hpi : pointIs x.pt
    · rw [hpi, okOr_false] at hpt
      replace hpt := hide hpt
      clear hpi
      go_enter Tryz.func159, Tryz.ntmps159
      go_wp2_with fail
      refine (how.out _ hV0).mono ?_
      rintro e w1 ⟨rfl, hb1⟩
      obtain ⟨x0, x1, x2, x3, x4⟩ := (hat.bl hb1).cells
      go_wp2_with fail
      refine (hpt.out _).mono ?_
      rintro e w2 ⟨rfl, hb2⟩
      go_wp2_with fail
      go_ret
      exact ⟨rfl, (hV0.trans hb1).trans hb2⟩
    · rw [hpi, okOr_true] at hpt
      replace hpt := hide hpt
      clear hpi
      go_enter Tryz.func159, Tryz.ntmps159
      go_wp2_with fail
      refine (how.out _ hV0).mono ?_
      rintro e w1 ⟨rfl, hb1⟩
      obtain ⟨x0, x1, x2, x3, x4⟩ := (hat.bl hb1).cells
      go_wp2_with fail
      refine (hpt.out _).mono ?_
      rintro e w2 ⟨rfl, hb2⟩
      go_wp2_with fail
      go_ret
      exact ⟨rfl, (hV0.trans hb1).trans hb2⟩

set_option maxRecDepth 100000 in
set_option maxHeartbeats 1000000 in
theorem opMark (x : Op) (A : Option Addr) (c Y : Nat) (w : World) (hx : OpIn w x A c) (hY : w.cell? ⟨Y, 0, none⟩ = some (.func (.func 157) #[] #[])) :
    Calls Tryz.prog 161 #[.agg #[.int .u8 x.kind, .int .u32 x.id.t, .int .u8 x.id.r, .slice A x.pl.length c, .int .i64 x.pt], .pointer (some ⟨Y, 0, none⟩)] w fun e w' => e = .returned (.bool (!neqId (placeFin x.pl) x.id && decide (x.pt = 0))) ∧ Bl w w' := by
  have hV0 : Bl w (w.alloc (.cells #[Value.int IntKind.u8 x.kind, Value.int IntKind.u32 x.id.t, Value.int IntKind.u8 x.id.r, Value.slice A x.pl.length c, Value.int IntKind.i64 x.pt] 47)) := (Bl.refl _).alloc _
  have hat := OpBox.new w x A c 47
  have hYl : Y < w.heap.size := World.block_lt_of_cell? w _ hY
  have hne : Y ≠ w.heap.size := by omega
  have how := fun W (hb : Bl w W) => opOwn x A c W (hx.bl hb)
  cases hq : !neqId (placeFin x.pl) x.id
  · rw [hq] at how
    replace how := hide how
    clear hq
    go_enter Tryz.func161, Tryz.ntmps161
    go_wp2_with fail
    refine (how.out _ hV0).mono ?_
    rintro e w1 ⟨rfl, hb1⟩
    go_wp2_with fail
    go_ret
    exact ⟨rfl, hV0.trans hb1⟩
  · rw [hq] at how
    replace how := hide how
    clear hq
    have e1 : (x.pt == 0) = decide (x.pt = 0) := by by_cases h : x.pt = 0 <;> simp [h]
    generalize decide (x.pt = 0) = b at e1
    go_enter Tryz.func161, Tryz.ntmps161
    go_wp2_with fail
    refine (how.out _ hV0).mono ?_
    rintro e w1 ⟨rfl, hb1⟩
    obtain ⟨x0, x1, x2, x3, x4⟩ := (hat.bl hb1).cells
    go_wp2_with fail
    go_ret
    exact ⟨rfl, hV0.trans hb1⟩

end Go.Proofs.YteoodmilcpmmpaaGreat
