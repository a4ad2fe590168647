/-
  The walks of bag.order, Check, where.
  The walk of bag.where, over slices.BinarySearchFunc.
  The walk of bag.Twin.
  slices.Insert at operations: one, put into a slice of the call's own.
-/
import Derived.Test.YteoodmilcpmmpaaGreatOp3B
import Derived.Test.YteoodmilcpmmpaaGreatInsert2
namespace Go.Proofs.YteoodmilcpmmpaaGreat

open Go.RowKit

def idCmp (a b : Id) : Int := if idLess a b then -1 else if idLess b a then 1 else 0

set_option maxHeartbeats 400000 in
theorem bagOrder (a b : Id) (w : World) (ha : a.ok) (hb : b.ok) :
    Calls Tryz.prog 95 #[.agg #[.int .u32 a.t, .int .u8 a.r], .agg #[.int .u32 b.t, .int .u8 b.r]] w fun e w' => e = .returned (.int .i64 (idCmp a b)) ∧ Bl w w' := by
  obtain ⟨N, hN⟩ : ∃ N, N = idCmp a b := ⟨_, rfl⟩
  rw [← hN]
  obtain ⟨W, hW⟩ : ∃ W, W = (w.alloc (.cells #[Value.int IntKind.u32 a.t, Value.int IntKind.u8 a.r] 25)).alloc (.cells #[Value.int IntKind.u32 b.t, Value.int IntKind.u8 b.r] 25) := ⟨_, rfl⟩
  have hbW : Bl w W := by rw [hW]; exact ((Bl.refl _).alloc _).alloc _
  have at0 : IdBox W w.heap.size a := by rw [hW]; exact (IdBox.new w a _).bl ((Bl.refl _).alloc _)
  have at1 : IdBox W (w.heap.size + 1) b := by
    rw [hW]
    have := IdBox.new (w.alloc (.cells #[Value.int IntKind.u32 a.t, Value.int IntKind.u8 a.r] 25)) b 25
    rw [World.size_alloc] at this
    exact this
  obtain ⟨c0, c1, -, -⟩ := at0
  obtain ⟨d0, d1, -, -⟩ := at1
  have hl0 := World.block_lt_of_cell? _ _ c0
  have hl1 := World.block_lt_of_cell? _ _ d0
  have h1 := hide (fun V => stampLess a b V ha hb)
  have h2 := hide (fun V => stampLess b a V hb ha)
  cases e1 : idLess a b
  · rw [e1] at h1
    cases e2 : idLess b a
    · rw [e2] at h2
      have g := hide (show 0 = N by rw [hN]; unfold idCmp; rw [e1, e2]; rfl)
      clear hN e1 e2
      go_enter Tryz.func95, Tryz.ntmps95
      go_wp2_with fail
      rw [← hW]
      clear hW
      refine (h1.out _).mono ?_
      rintro e w1 ⟨rfl, hb1⟩
      have x0 := (hb1.cell hl0).trans c0
      have x1 := (hb1.cell hl0).trans c1
      have y0 := (hb1.cell hl1).trans d0
      have y1 := (hb1.cell hl1).trans d1
      have hz1 := Nat.lt_of_lt_of_le hl0 hb1.size
      have hz2 := Nat.lt_of_lt_of_le hl1 hb1.size
      clear c0 c1 d0 d1
      go_wp2_with fail
      refine (h2.out _).mono ?_
      rintro e w2 ⟨rfl, hb2⟩
      go_wp2_with fail
      go_ret
      exact ⟨ret_int g.out, hbW.trans (hb1.trans hb2)⟩
    · rw [e2] at h2
      have g := hide (show 1 = N by rw [hN]; unfold idCmp; rw [e1, e2]; rfl)
      clear hN e1 e2
      go_enter Tryz.func95, Tryz.ntmps95
      go_wp2_with fail
      rw [← hW]
      clear hW
      refine (h1.out _).mono ?_
      rintro e w1 ⟨rfl, hb1⟩
      have x0 := (hb1.cell hl0).trans c0
      have x1 := (hb1.cell hl0).trans c1
      have y0 := (hb1.cell hl1).trans d0
      have y1 := (hb1.cell hl1).trans d1
      have hz1 := Nat.lt_of_lt_of_le hl0 hb1.size
      have hz2 := Nat.lt_of_lt_of_le hl1 hb1.size
      clear c0 c1 d0 d1
      go_wp2_with fail
      refine (h2.out _).mono ?_
      rintro e w2 ⟨rfl, hb2⟩
      go_wp2_with fail
      go_ret
      exact ⟨ret_int g.out, hbW.trans (hb1.trans hb2)⟩
  · rw [e1] at h1
    have g := hide (show -1 = N by rw [hN]; unfold idCmp; rw [e1]; rfl)
    clear hN e1
    go_enter Tryz.func95, Tryz.ntmps95
    go_wp2_with fail
    rw [← hW]
    clear hW
    refine (h1.out _).mono ?_
    rintro e w1 ⟨rfl, hb1⟩
    go_wp2_with fail
    go_ret
    exact ⟨ret_int g.out, hbW.trans hb1⟩

def bagFrom (last : Id) : List Op → Bool
  | [] => true
  | x :: l => opMay x && idLess last x.id && bagFrom x.id l

def bagMay (l : List Op) : Bool := decide (l.length ≤ 1024) && bagFrom ⟨0, 0⟩ l

theorem bagFrom_good {l rest : List Op} {last : Id} {k : Nat} {x : Op} (h : bagFrom ⟨0, 0⟩ l = bagFrom last (l.drop k)) (hd : l.drop k = x :: rest) (h1 : opMay x = true) (h2 : idLess last x.id = true) : bagFrom ⟨0, 0⟩ l = bagFrom x.id rest := by
  rw [h, hd, bagFrom, h1, h2]; rfl

theorem bagFrom_bad {l rest : List Op} {last : Id} {k : Nat} {x : Op} (h : bagFrom ⟨0, 0⟩ l = bagFrom last (l.drop k)) (hd : l.drop k = x :: rest) (hb : (opMay x && idLess last x.id) = false) : bagFrom ⟨0, 0⟩ l = false := by
  rw [h, hd, bagFrom, hb]; rfl

theorem idCmp_neg {a b : Id} (h : idLess a b = true) : idCmp a b = -1 := by unfold idCmp; rw [h]; rfl

theorem idCmp_pos {a b : Id} (h : idLess a b = false) : 0 ≤ idCmp a b := by unfold idCmp; rw [h]; cases idLess b a <;> decide

set_option maxRecDepth 100000 in
set_option maxHeartbeats 2000000 in
theorem bagCheck (A : Option Addr) (c : Nat) (l : List Op) (w : World) (hl : l.length ≤ maxLen) (hA : R cOp 0 w A l) :
    Calls Tryz.prog 41 #[.slice A l.length c] w fun e w' => e = .returned (.int .i64 (okOr 8 (bagMay l))) ∧ Bl w w' := by
  unfold maxLen at hl
  obtain ⟨N, hN⟩ : ∃ N, N = okOr 8 (bagMay l) := ⟨_, rfl⟩
  rw [← hN]
  by_cases hbig : 1024 < l.length
  · have g := hide (show 8 = N by rw [hN]; unfold bagMay; rw [decide_eq_false (show ¬ l.length ≤ 1024 by omega)]; rfl)
    have hbig' : (1024 : Int) < (l.length : Int) := by omega
    clear hN
    go_enter Tryz.func41, Tryz.ntmps41
    go_wp2
    go_ret
    exact ⟨ret_int g.out, Bl.refl _⟩
  have hN' := hide (show N = okOr 8 (bagFrom ⟨0, 0⟩ l) by rw [hN]; unfold bagMay; rw [decide_eq_true (show l.length ≤ 1024 by omega)]; rfl)
  clear hN
  have h64 : (l.length : Int) ≤ 1024 := by omega
  go_enter Tryz.func41, Tryz.ntmps41
  go_wp2
  go_loopw [11] (fun i wr => Bl w wr ∧ ∃ (k : Nat) (last : Id), k ≤ l.length ∧ i = .int .i64 k ∧ last.ok ∧ IdBox wr w.heap.size last ∧ Hid (bagFrom ⟨0, 0⟩ l = bagFrom last (l.drop k))) (fun i _ => l.length - (intOf i).toNat)
  case atStart => exact ⟨(Bl.refl _).alloc _, 0, ⟨0, 0⟩, Nat.zero_le _, rfl, ⟨by decide, by decide, by decide, by decide⟩, IdBox.new w ⟨0, 0⟩ _, rfl⟩
  case round =>
    obtain ⟨hbl, k, last, hk, rfl, hlok, hat, hf⟩ := hrel
    by_cases hlt : k < l.length
    · have hR := hA.bl hbl
      obtain ⟨b, off, rfl, _, hb⟩ := hR.addr (by omega)
      obtain ⟨x, hx⟩ := get_lt hlt
      obtain ⟨_, ho, B, d, hcd, hdm, hB, c0, c1, c2, c3, c4⟩ := hR.op hx
      have hdr := hide (drop_cons hx)
      clear hx
      have hki : (k : Int) < (l.length : Int) := by omega
      obtain ⟨V, hV⟩ : ∃ V, V = wr.alloc (.cells #[Value.int IntKind.u8 x.kind, Value.int IntKind.u32 x.id.t, Value.int IntKind.u8 x.id.r, Value.slice B x.pl.length d, Value.int IntKind.i64 x.pt] 47) := ⟨_, rfl⟩
      have hbV : Bl wr V := by rw [hV]; exact (Bl.refl _).alloc _
      have atx : OpBox V wr.heap.size x B d := by rw [hV]; exact OpBox.new wr x B d _
      have hin : OpIn V x B d := ⟨ho, hcd, hdm, hB.bl hbV⟩
      have hchk := fun W (hb : Bl V W) => opCheck x B d W (hin.bl hb)
      have hne1 : w.heap.size ≠ wr.heap.size := by have := hat.lt; omega
      have hne2 : wr.heap.size ≠ w.heap.size := by have := hat.lt; omega
      cases hm : opMay x
      · have g := hide (show 8 = N by rw [hN'.out, bagFrom_bad hf.out hdr.out (by rw [hm]; rfl)]; rfl)
        rw [hm, okOr_false] at hchk
        replace hchk := hide (hchk V (Bl.refl _))
        clear hf hdr hN' hat hm
        go_wp2_with fail
        rw [← hV]
        clear hV
        refine hchk.out.mono ?_
        rintro e w1 ⟨rfl, hb1⟩
        go_wp2_with fail
        go_ret
        exact ⟨ret_int g.out, (hbl.trans hbV).trans hb1⟩
      rw [hm, okOr_true] at hchk
      replace hchk := hide (hchk V (Bl.refl _))
      have hord := fun W => bagOrder last x.id W hlok ho.2.1
      cases hs : idLess last x.id
      · have g := hide (show 8 = N by rw [hN'.out, bagFrom_bad hf.out hdr.out (by rw [hm, hs]; rfl)]; rfl)
        have hcp := idCmp_pos hs
        generalize idCmp last x.id = z at hord hcp
        replace hord := hide hord
        clear hf hdr hN' hm hs
        go_wp2_with fail
        rw [← hV]
        clear hV
        refine hchk.out.mono ?_
        rintro e w1 ⟨rfl, hb1⟩
        obtain ⟨x0, x1, x2, x3, x4⟩ := (atx.bl hb1).cells
        have hlx := (atx.bl hb1).lt
        have hly := (hat.bl (hbV.trans hb1)).lt
        obtain ⟨y0, y1, f0, f1⟩ := hat.bl (hbV.trans hb1)
        go_wp2_with fail
        refine (hord.out _).mono ?_
        rintro e w2 ⟨rfl, hb2⟩
        go_wp2_with fail
        go_ret
        exact ⟨ret_int g.out, (hbl.trans hbV).trans (hb1.trans hb2)⟩
      · have hgd := hide (bagFrom_good hf.out hdr.out hm hs)
        rw [idCmp_neg hs] at hord
        replace hord := hide hord
        clear hf hdr hm hs
        go_wp2_with fail
        rw [← hV]
        clear hV
        refine hchk.out.mono ?_
        rintro e w1 ⟨rfl, hb1⟩
        obtain ⟨x0, x1, x2, x3, x4⟩ := (atx.bl hb1).cells
        have hlx := (atx.bl hb1).lt
        have hly := (hat.bl (hbV.trans hb1)).lt
        obtain ⟨y0, y1, f0, f1⟩ := hat.bl (hbV.trans hb1)
        go_wp2_with fail
        refine (hord.out _).mono ?_
        rintro e w2 ⟨rfl, hb2⟩
        have hb12 := hb1.trans hb2
        clear x0 x1 x2 x3 x4 hlx hly y0 y1 f0 f1
        obtain ⟨x0, x1, x2, x3, x4⟩ := (atx.bl hb12).cells
        have hlx := (atx.bl hb12).lt
        have hly := (hat.bl (hbV.trans hb12)).lt
        have hatn := (hat.bl (hbV.trans hb12)).set x.id
        obtain ⟨y0, y1, f0, f1⟩ := hat.bl (hbV.trans hb12)
        go_wp2_with fail
        go_roundw
        case rel => exact ⟨(((hbl.trans hbV).trans hb12).setCell (Nat.le_refl _) _).setCell (Nat.le_refl _) _, k + 1, x.id, by omega, by go_num, ho.2.1, hatn, hgd.out⟩
        case measure => simp [intOf]; omega
    · have hkl : l.length ≤ k := by omega
      have g := hide (show 0 = N by rw [hN'.out, hf.out, List.drop_eq_nil_of_le hkl]; rfl)
      clear hf hN' hat
      go_wp2
      go_ret
      exact ⟨ret_int g.out, hbl⟩

end Go.Proofs.YteoodmilcpmmpaaGreat

namespace Go.Proofs.YteoodmilcpmmpaaGreat

open Go.RowKit

/-- Where a stamp's operation is, or would be; whether it is there. -/
def posOf (l : List Op) (s : Id) : Nat := (l.takeWhile fun o => idLess o.id s).length

def hasId (l : List Op) (s : Id) : Bool := l.any fun o => decide (o.id = s)

def Srt (l : List Op) : Prop := l.Pairwise fun a b => idLess a.id b.id = true

theorem idLess_tr {a b c : Id} (h : idLess a b = true) (k : idLess b c = true) : idLess a c = true := by
  unfold idLess at *
  simp at *
  omega

theorem idLess_irr (a : Id) : idLess a a = false := by unfold idLess; simp

theorem idLess_as {a b : Id} (h : idLess a b = true) : idLess b a = false := by
  unfold idLess at *
  simp at *
  omega

theorem idLess_tot {a b : Id} (h : idLess a b = false) (k : idLess b a = false) : a = b := by
  unfold idLess at *
  simp at *
  exact Id.ext' (by omega) (by omega)

theorem bagFrom_srt : ∀ (l : List Op) (last : Id), bagFrom last l = true → Srt l ∧ (∀ x ∈ l, opMay x = true ∧ idLess last x.id = true)
  | [], _, _ => ⟨List.Pairwise.nil, fun _ h => by cases h⟩
  | x :: l, last, h => by
    simp only [bagFrom, Bool.and_eq_true] at h
    obtain ⟨h1, h2⟩ := bagFrom_srt l x.id h.2
    refine ⟨List.Pairwise.cons (fun y hy => (h2 y hy).2) h1, fun y hy => ?_⟩
    rcases List.mem_cons.1 hy with rfl | hy
    · exact h.1
    · exact ⟨(h2 y hy).1, idLess_tr h.1.2 (h2 y hy).2⟩

theorem bagMay_parts {l : List Op} (h : bagMay l = true) : l.length ≤ 1024 ∧ Srt l ∧ ∀ x ∈ l, opMay x = true := by
  unfold bagMay at h
  simp only [Bool.and_eq_true, decide_eq_true_eq] at h
  obtain ⟨h1, h2⟩ := bagFrom_srt l _ h.2
  exact ⟨h.1, h1, fun x hx => (h2 x hx).1⟩

theorem Srt.get {l : List Op} (h : Srt l) {i j : Nat} {x y : Op} (hi : l[i]? = some x) (hj : l[j]? = some y) (hij : i < j) : idLess x.id y.id = true := by
  obtain ⟨hi', rfl⟩ := List.getElem?_eq_some_iff.1 hi
  obtain ⟨hj', rfl⟩ := List.getElem?_eq_some_iff.1 hj
  exact List.pairwise_iff_getElem.1 h i j hi' hj' hij

/-- All ahead of i are less than s, all from i on are not. -/
def Cut (l : List Op) (s : Id) (i : Nat) : Prop := (∀ k x, k < i → l[k]? = some x → idLess x.id s = true) ∧ (∀ k x, i ≤ k → l[k]? = some x → idLess x.id s = false)

theorem Cut.pos {l : List Op} {s : Id} {i : Nat} (h : Cut l s i) (hi : i ≤ l.length) : posOf l s = i := by
  unfold posOf
  have h1 : ∀ x ∈ l.take i, idLess x.id s = true := fun x hx => by
    obtain ⟨k, hk⟩ := List.getElem?_of_mem hx
    rw [List.getElem?_take] at hk
    split at hk
    · exact h.1 k x (by assumption) hk
    · cases hk
  have h2 : (l.drop i).takeWhile (fun o => idLess o.id s) = [] := by
    cases hd : l.drop i with
    | nil => rfl
    | cons y r =>
      have hy : l[i]? = some y := by
        have := List.getElem?_drop (xs := l) (i := i) (j := 0)
        rw [hd] at this
        simpa using this.symm
      rw [List.takeWhile_cons, h.2 i y (Nat.le_refl _) hy]
      rfl
  have h3 : l.takeWhile (fun o => idLess o.id s) = l.take i := by
    conv => lhs; rw [← List.take_append_drop i l]
    rw [List.takeWhile_append_of_pos h1, h2, List.append_nil]
  rw [h3, List.length_take, Nat.min_eq_left hi]

theorem pos_le (l : List Op) (s : Id) : posOf l s ≤ l.length := by
  unfold posOf
  exact (List.takeWhile_prefix _).length_le

/-- Where it stands. -/
theorem has_of_cut {l : List Op} {s : Id} {i : Nat} (hs : Srt l) (h : Cut l s i) : (i < l.length → ∀ x, l[i]? = some x → (decide (idCmp x.id s = 0)) = hasId l s) ∧ (l.length ≤ i → false = hasId l s) := by
  have hno : ∀ k x, l[k]? = some x → x.id = s → k = i ∧ i < l.length := fun k x hk e => by
    have hkl := (List.getElem?_eq_some_iff.1 hk).1
    by_cases h1 : k < i
    · have := h.1 k x h1 hk
      rw [e, idLess_irr] at this
      cases this
    · by_cases h2 : k = i
      · exact ⟨h2, by omega⟩
      · obtain ⟨y, hy⟩ := get_lt (show i < l.length by omega)
        have h3 := h.2 i y (Nat.le_refl _) hy
        have h4 := hs.get hy hk (by omega)
        rw [e] at h4
        rw [h4] at h3
        cases h3
  have hhas : hasId l s = true ↔ ∃ (k : Nat) (x : Op), l[k]? = some x ∧ x.id = s := by
    unfold hasId
    rw [List.any_eq_true]
    constructor
    · rintro ⟨x, hx, e⟩
      obtain ⟨k, hk⟩ := List.getElem?_of_mem hx
      exact ⟨k, x, hk, by simpa using e⟩
    · rintro ⟨k, x, hk, e⟩
      exact ⟨x, List.mem_of_getElem? hk, by simpa using e⟩
  constructor
  · intro hi x hx
    rw [Bool.eq_iff_iff, hhas, decide_eq_true_eq]
    constructor
    · intro h0
      refine ⟨i, x, hx, ?_⟩
      have h1 := h.2 i x (Nat.le_refl _) hx
      unfold idCmp at h0
      rw [h1] at h0
      cases h2 : idLess s x.id
      · exact idLess_tot h1 h2
      · rw [h2] at h0; simp at h0
    · rintro ⟨k, y, hk, e⟩
      obtain ⟨rfl, _⟩ := hno k y hk e
      rw [hx] at hk
      cases hk
      subst e
      unfold idCmp
      rw [idLess_irr]
      rfl
  · intro hi
    rw [Bool.eq_iff_iff]
    constructor
    · intro h0; cases h0
    · intro h0
      obtain ⟨k, x, hk, e⟩ := hhas.1 h0
      have := (hno k x hk e).2
      omega

set_option maxRecDepth 100000 in
set_option maxHeartbeats 1000000 in
theorem bagWhere1 (x : Op) (A : Option Addr) (c : Nat) (s : Id) (w : World) (hx : OpIn w x A c) (hs : s.ok) :
    Calls Tryz.prog 112 #[.agg #[.int .u8 x.kind, .int .u32 x.id.t, .int .u8 x.id.r, .slice A x.pl.length c, .int .i64 x.pt], .agg #[.int .u32 s.t, .int .u8 s.r]] w fun e w' => e = .returned (.int .i64 (idCmp x.id s)) ∧ Bl w w' := by
  have ho := hide (fun V => bagOrder x.id s V hx.ok.2.1 hs)
  have hb : ∀ o1 o2, Bl w ((w.alloc o1).alloc o2) := fun _ _ => ((Bl.refl _).alloc _).alloc _
  go_enter Tryz.func112, Tryz.ntmps112
  go_wp2_with fail
  refine (ho.out _).mono ?_
  rintro e w1 ⟨rfl, hb1⟩
  go_wp2_with fail
  go_ret
  exact ⟨rfl, (hb _ _).trans hb1⟩

set_option maxRecDepth 100000 in
set_option maxHeartbeats 2000000 in
theorem bagSearch (A : Option Addr) (c : Nat) (l : List Op) (s : Id) (w : World) (hl : l.length ≤ 1048576) (hA : R cOp 0 w A l) (hs : s.ok) (hso : Srt l) :
    Calls Tryz.prog 111 #[.slice A l.length c, .agg #[.int .u32 s.t, .int .u8 s.r], .func (.func 112) #[] #[]] w fun e w' => e = .returned (.tuple #[.int .i64 (posOf l s), .bool (hasId l s)]) ∧ Bl w w' := by
  obtain ⟨N, hN⟩ : ∃ N, N = posOf l s := ⟨_, rfl⟩
  obtain ⟨T, hT⟩ : ∃ T, T = hasId l s := ⟨_, rfl⟩
  rw [← hN, ← hT]
  have hfin : ∀ i, i ≤ l.length → Cut l s i → N = i ∧ (i < l.length → ∀ x, l[i]? = some x → (decide (idCmp x.id s = 0)) = T) ∧ (l.length ≤ i → false = T) := fun i hi h => by
    have := has_of_cut hso h
    rw [← hT] at this
    exact ⟨hN.trans (h.pos hi), this⟩
  replace hfin := hide hfin
  replace hso := hide hso
  clear hN hT
  go_enter Tryz.func111, Tryz.ntmps111
  go_wp2
  go_loopw [9, 10] (fun i j wr => Bl w wr ∧ ∃ (p q : Nat), p ≤ q ∧ q ≤ l.length ∧ i = .int .i64 p ∧ j = .int .i64 q ∧ wr.cell? ⟨w.heap.size, 0, none⟩ = some (.int .u32 s.t) ∧ wr.cell? ⟨w.heap.size, 1, none⟩ = some (.int .u8 s.r) ∧ Hid ((∀ k x, k < p → l[k]? = some x → idLess x.id s = true) ∧ (∀ k x, q ≤ k → l[k]? = some x → idLess x.id s = false))) (fun i j _ => (intOf j).toNat - (intOf i).toNat)
  case atStart =>
    have h := IdBox.new w s 25
    exact ⟨(Bl.refl _).alloc _, 0, l.length, Nat.zero_le _, Nat.le_refl _, rfl, rfl, h.c0, h.c1, fun k x hk => by omega, fun k x hk hx => by have := (List.getElem?_eq_some_iff.1 hx).1; omega⟩
  case round =>
    obtain ⟨hbl, p, q, hpq, hq, rfl, rfl, s0, s1, hcut⟩ := hrel
    have hsl := World.block_lt_of_cell? _ _ s0
    by_cases hlt : p < q
    · obtain ⟨m, hm⟩ : ∃ m, m = (p + q) / 2 := ⟨_, rfl⟩
      have hR := hA.bl hbl
      obtain ⟨b, off, rfl, _, hb⟩ := hR.addr (by omega)
      obtain ⟨x, hx⟩ := get_lt (show m < l.length by omega)
      obtain ⟨_, ho, B, d, hcd, hdm, hB, c0, c1, c2, c3, c4⟩ := hR.op hx
      have C0 := fun p : Wd wr => Wd.cell c0 hb p
      have C1 := fun p : Wd wr => Wd.cell c1 hb p
      have C2 := fun p : Wd wr => Wd.cell c2 hb p
      have C3 := fun p : Wd wr => Wd.cell c3 hb p
      have C4 := fun p : Wd wr => Wd.cell c4 hb p
      have S0 := fun p : Wd wr => Wd.cell s0 hsl p
      have S1 := fun p : Wd wr => Wd.cell s1 hsl p
      clear c0 c1 c2 c3 c4
      have hpi : (p : Int) < (q : Int) := by omega
      have hmi : (m : Int) < (l.length : Int) := by omega
      have hmm : ((p : Int) + (q : Int)) / 2 = (m : Int) := by omega
      have hm1 : p ≤ m := by omega
      have hm2 : m < q := by omega
      replace hm := hide hm
      have hcl := fun pw : Wd wr => bagWhere1 x B d s pw.v ⟨ho, hcd, hdm, hB.bl pw.h⟩ hs
      have hc0 : ∀ V, Bl wr V → V.cell? ⟨w.heap.size, 0, none⟩ = some (.int .u32 s.t) ∧ V.cell? ⟨w.heap.size, 1, none⟩ = some (.int .u8 s.r) := fun V hV => ⟨(hV.cell hsl).trans s0, (hV.cell hsl).trans s1⟩
      replace hc0 := hide hc0
      clear s0 s1
      cases e1 : idLess x.id s
      · have hz := idCmp_pos e1
        have g := hide (show ∀ k y, m ≤ k → l[k]? = some y → idLess y.id s = false from fun k y hk hy => by
          by_cases h : k = m
          · subst h; rw [hx] at hy; cases hy; exact e1
          · have h2 := hso.out.get hx hy (by omega)
            cases h3 : idLess y.id s
            · rfl
            · rw [idLess_tr h2 h3] at e1; cases e1)
        generalize idCmp x.id s = z at hcl hz
        replace hcl := hide hcl
        clear hx e1
        go_wp2
        (refine wp_region_wd (by kernel_rfl) (by kernel_rfl) ?_
         repeat (go_big_quiet_step ((go_at_call 112; exact Calls.wd (hcl.out _))))
         refine wpQuiet_nil ?_
         intro w2 hw'
         obtain ⟨⟨wx, hb2⟩, hw''⟩ := hw'
         subst hw'')
        go_wp2
        go_roundw
        case rel => exact ⟨hbl.trans hb2, p, m, by omega, by omega, rfl, rfl, (hc0.out _ hb2).1, (hc0.out _ hb2).2, hcut.out.1, g.out⟩
        case measure => simp [intOf]; omega
      · rw [idCmp_neg e1] at hcl
        have g := hide (show ∀ k y, k < m + 1 → l[k]? = some y → idLess y.id s = true from fun k y hk hy => by
          by_cases h : k = m
          · subst h; rw [hx] at hy; cases hy; exact e1
          · exact idLess_tr (hso.out.get hy hx (by omega)) e1)
        replace hcl := hide hcl
        clear hx e1
        go_wp2
        (refine wp_region_wd (by kernel_rfl) (by kernel_rfl) ?_
         repeat (go_big_quiet_step ((go_at_call 112; exact Calls.wd (hcl.out _))))
         refine wpQuiet_nil ?_
         intro w2 hw'
         obtain ⟨⟨wx, hb2⟩, hw''⟩ := hw'
         subst hw'')
        go_wp2
        go_roundw
        case rel => exact ⟨hbl.trans hb2, m + 1, q, by omega, hq, by go_num, rfl, (hc0.out _ hb2).1, (hc0.out _ hb2).2, g.out, hcut.out.2⟩
        case measure => simp [intOf]; omega
    · obtain rfl : p = q := by omega
      obtain ⟨hNp, hT1, hT2⟩ := hfin.out p hq hcut.out
      have S0 := fun p : Wd wr => Wd.cell s0 hsl p
      have S1 := fun p : Wd wr => Wd.cell s1 hsl p
      clear s0 s1
      subst hNp
      by_cases hpn : N < l.length
      · have hR := hA.bl hbl
        obtain ⟨b, off, rfl, _, hb⟩ := hR.addr (by omega)
        obtain ⟨x, hx⟩ := get_lt hpn
        obtain ⟨_, ho, B, d, hcd, hdm, hB, c0, c1, c2, c3, c4⟩ := hR.op hx
        have C0 := fun p : Wd wr => Wd.cell c0 hb p
        have C1 := fun p : Wd wr => Wd.cell c1 hb p
        have C2 := fun p : Wd wr => Wd.cell c2 hb p
        have C3 := fun p : Wd wr => Wd.cell c3 hb p
        have C4 := fun p : Wd wr => Wd.cell c4 hb p
        clear c0 c1 c2 c3 c4
        have hni : (N : Int) < (l.length : Int) := by omega
        have hd := hT1 hpn x hx
        have hcl := fun pw : Wd wr => bagWhere1 x B d s pw.v ⟨ho, hcd, hdm, hB.bl pw.h⟩ hs
        have hz : (idCmp x.id s == 0) = T := by rw [← hd]; by_cases h : idCmp x.id s = 0 <;> simp [h]
        generalize idCmp x.id s = z at hcl hz
        replace hcl := hide hcl
        have hpd : decide ((N : Int) < (l.length : Int)) = true := by simpa using hni
        clear hd hx hT1 hT2
        go_wp2
        (refine wp_region_wd (by kernel_rfl) (by kernel_rfl) ?_
         repeat (go_big_quiet_step ((go_at_call 112; exact Calls.wd (hcl.out _))))
         refine wpQuiet_nil ?_
         intro w2 hw'
         obtain ⟨⟨wx, hb2⟩, hw''⟩ := hw'
         subst hw'')
        go_wp2
        go_ret2
        exact ⟨rfl, hbl.trans hb2⟩
      · have hpd : decide ((N : Int) < (l.length : Int)) = false := by simp; omega
        have g := hide (hT2 (by omega))
        clear hT1 hT2
        go_wp2
        (refine wp_region_wd (by kernel_rfl) (by kernel_rfl) ?_
         repeat (go_big_quiet_step ((fail)))
         refine wpQuiet_nil ?_
         intro w2 hw'
         obtain ⟨⟨wx, hb2⟩, hw''⟩ := hw'
         subst hw'')
        go_wp2
        go_ret2
        rw [g.out]
        exact ⟨rfl, hbl.trans hb2⟩

set_option maxHeartbeats 400000 in
theorem bagWhere (A : Option Addr) (c : Nat) (l : List Op) (s : Id) (w : World) (hl : l.length ≤ 1048576) (hA : R cOp 0 w A l) (hs : s.ok) (hso : Srt l) :
    Calls Tryz.prog 56 #[.slice A l.length c, .agg #[.int .u32 s.t, .int .u8 s.r]] w fun e w' => e = .returned (.tuple #[.int .i64 (posOf l s), .bool (hasId l s)]) ∧ Bl w w' := by
  have hb0 : ∀ o, Bl w (w.alloc o) := fun _ => (Bl.refl _).alloc _
  have hc := hide (fun W (hb : Bl w W) => bagSearch A c l s W hl (hA.bl hb) hs hso)
  go_enter Tryz.func56, Tryz.ntmps56
  go_wp2_with fail
  refine (hc.out _ (hb0 _)).mono ?_
  rintro e w1 ⟨rfl, hb1⟩
  go_wp2_with fail
  go_ret2
  exact ⟨rfl, (hb0 _).trans hb1⟩

end Go.Proofs.YteoodmilcpmmpaaGreat

namespace Go.Proofs.YteoodmilcpmmpaaGreat

open Go.RowKit Go.Shelf Go.Lib

def RowAt (w : World) (g : Nat) (t : TypeId) (cs : List Value) : Prop := w.heap[g]? = some (.cells cs.toArray t (0, 0))

section

variable {w w' : World} {g o : Nat} {t : TypeId} {cs p q vs old : List Value} {u v : Value}

theorem RowAt.lt (h : RowAt w g t cs) : g < w.heap.size := (Array.getElem?_eq_some_iff.1 h).1

theorem RowAt.bl (h : RowAt w g t cs) (hb : Bl w w') : RowAt w' g t cs := (hb.block g h.lt).trans h

theorem RowAt.new (w : World) (cs : Array Value) (t : TypeId) : RowAt (w.alloc (.cells cs t)) w.heap.size t cs.toList := by
  unfold RowAt
  rw [Array.toArray_toList]
  exact heap_alloc_new w _

theorem RowAt.set (h : RowAt w g t (p ++ v :: q)) (u : Value) : RowAt (w.setCell ⟨g, p.length, none⟩ u) g t (p ++ u :: q) := by
  unfold RowAt at *
  simp [World.setCell, Array.getElem?_modify, h]

theorem RowAt.sets : ∀ (vs old p : List Value) (w : World), old.length = vs.length → RowAt w g t (p ++ (old ++ q)) → RowAt (w.setCells g p.length vs) g t (p ++ (vs ++ q))
  | [], [], p, w, _, h => h
  | u :: vs, v :: old, p, w, hl, h => by
    have h1 : RowAt (w.setCell ⟨g, p.length, none⟩ u) g t ((p ++ [u]) ++ (old ++ q)) := by
      have := RowAt.set (p := p) (v := v) (q := old ++ q) h u
      simpa using this
    have h2 := RowAt.sets vs old (p ++ [u]) _ (by simpa using hl) h1
    rw [List.length_append] at h2
    simpa [World.setCells] using h2

theorem RowAt.at (h : RowAt w g t cs) : At w g 0 cs := fun j u hu => by
  rw [Nat.zero_add]
  refine ⟨?_, ?_⟩
  · rw [cell_of_row w g j _ _ (0, 0) h]
    simpa using hu
  · unfold RowAt at h
    simp [World.frozen?, h]

theorem RowAt.own {base n size : Nat} (h : RowAt w g t cs) (hl : cs.length = n * size) (hb : base ≤ g) (hm : n ≤ maxLen) : w.ownsRow base t size (.slice (some ⟨g, 0, none⟩) n n) n cs :=
  ⟨hl, .inr ⟨g, n, cs.toArray, rfl, hb, h, Nat.le_refl _, hm, by simpa using hl, List.take_of_length_le (by simp; omega)⟩⟩

theorem RowAt.part {m : List Value} (h : RowAt w g t (p ++ (m ++ q))) : At w g p.length m := by
  have h1 := (h.at.right (cs := p)).left
  rwa [Nat.zero_add] at h1

end

theorem Tryz.infoOp : (Tryz.prog.info? 47).map (fun i => (i.zero, i.size, i.bytes)) = some (some (.agg #[.int .u8 0, .int .u32 0, .int .u8 0, .slice none 0 0, .int .i64 0]), 5, 48) := by kernel_rfl

/-- What hands back a bag of the call's own. -/
def NewBag (l : List Op) (w : World) (e : Ending) (w' : World) : Prop := ∃ g, e = .returned (.slice (some ⟨g, 0, none⟩) l.length l.length) ∧ Own cOp 47 w.heap.size w' (.slice (some ⟨g, 0, none⟩) l.length l.length) l ∧ Bl w w'

def smallB (l : List Op) : Prop := l.length ≤ 1048576 ∧ ∀ x ∈ l, x.pl.length ≤ 1048576

theorem run_copy_none (w : World) (dT sT ty elem : TypeId) (g : Nat) (hu : Tryz.prog.underlying dT = some (.slice elem)) (i : TypeInfo) (hi : Tryz.prog.info? elem = some i) (c : Nat) :
    (Builtin.copy_ #[dT, sT] ty #[.slice (some ⟨g, 0, none⟩) 0 0, .slice none 0 c]).run Tryz.prog w = .ok (goInt 0) w := by
  simp [Builtin.copy_, run_underlying hu, Builtin.lenOf, Builtin.firstCells, sizeOf, typeInfo, hi, storeCells]

set_option maxRecDepth 100000 in
set_option maxHeartbeats 2000000 in
theorem bagTwin (A : Option Addr) (c : Nat) (l : List Op) (w : World) (hl : smallB l) (hA : R cOp 0 w A l) :
    Calls Tryz.prog 57 #[.slice A l.length c] w (NewBag l w) := by
  obtain ⟨i0, hi, hz0, hz1, hz2⟩ := info_parts Tryz.infoOp
  obtain ⟨hl, hsm⟩ := hl
  obtain ⟨n, hn⟩ : ∃ n, n = l.length := ⟨_, rfl⟩
  have hmk : ∀ V, (Instr.makeSlice 22 (.int .i64 (n : Int)) (.int .i64 (n : Int))).run Tryz.prog V = .ok (.slice (some ⟨V.heap.size, 0, none⟩) n n) (V.alloc (.cells (madeCells #[Value.int IntKind.u8 0, Value.int IntKind.u32 0, Value.int IntKind.u8 0, Value.slice none 0 0, Value.int IntKind.i64 0] (n * 5)) 47)) := by
    intro V
    have := run_make (P := Tryz.prog) V 22 47 i0 _ Tryz.underlying22 hi hz0 .i64 .i64 (n : Int) (n : Int) (by omega) (Int.le_refl _) (by rw [hz2]; omega) (by omega)
    rw [hz1, Int.toNat_natCast] at this
    exact this
  obtain ⟨cs, hrd, hsl⟩ := hA
  have hcl : cs.length = n * 5 := by rw [hn]; exact hrd.length
  have hsz : (Tryz.prog.info? 47).map (·.size) = some 5 := by rw [hi]; simp [hz1]
  obtain ⟨V1, hV1⟩ : ∃ V1, V1 = w.alloc (.cells (madeCells #[Value.int IntKind.u8 0, Value.int IntKind.u32 0, Value.int IntKind.u8 0, Value.slice none 0 0, Value.int IntKind.i64 0] (n * 5)) 47) := ⟨_, rfl⟩
  have hb1 : Bl w V1 := by rw [hV1]; exact (Bl.refl _).alloc _
  have hmadel : (madeCells #[Value.int IntKind.u8 0, Value.int IntKind.u32 0, Value.int IntKind.u8 0, Value.slice none 0 0, Value.int IntKind.i64 0] (n * 5)).size = n * 5 := by simp [madeCells]
  have hrow1 : RowAt V1 w.heap.size 47 (madeCells #[Value.int IntKind.u8 0, Value.int IntKind.u32 0, Value.int IntKind.u8 0, Value.slice none 0 0, Value.int IntKind.i64 0] (n * 5)).toList := by rw [hV1]; exact RowAt.new w _ _
  have hcp : ∀ ty, (Builtin.copy_ #[22, 22] ty #[.slice (some ⟨w.heap.size, 0, none⟩) n n, .slice A n c]).run Tryz.prog V1 = .ok (goInt (n : Int)) (V1.setCells w.heap.size 0 cs) := fun ty => by
    cases A with
    | none =>
      have hcs : cs = [] := by
        by_cases h : cs = []
        · exact h
        · obtain ⟨b, off, e, _⟩ := hsl h
          cases e
      have hn0 : n = 0 := by rw [hcs, List.length_nil] at hcl; omega
      rw [hcs, hn0]
      exact run_copy_none V1 _ _ ty 47 w.heap.size Tryz.underlying22 i0 hi c
    | some ad =>
      refine run_copy_cellsK V1 _ _ ty 47 5 w.heap.size 0 n n ad n c cs Tryz.underlying22 hsz n (by simp) hcl (fun j v hj => ?_) (fun j hj => ?_) (fun j hj => ?_) hrd.one
      · obtain ⟨b, off, e, hS, ha⟩ := hsl (by intro e; subst e; simp at hj)
        cases e
        rw [add_plain']
        exact (hb1.cell hS.2).trans (ha j v hj).1
      · have h1 := (hrow1.at j ((madeCells #[Value.int IntKind.u8 0, Value.int IntKind.u32 0, Value.int IntKind.u8 0, Value.slice none 0 0, Value.int IntKind.i64 0] (n * 5)).toList[j]'(by rw [Array.length_toList, hmadel]; omega)) (List.getElem?_eq_getElem _)).1
        rw [h1]
        rfl
      · exact (hrow1.at j ((madeCells #[Value.int IntKind.u8 0, Value.int IntKind.u32 0, Value.int IntKind.u8 0, Value.slice none 0 0, Value.int IntKind.i64 0] (n * 5)).toList[j]'(by rw [Array.length_toList, hmadel]; omega)) (List.getElem?_eq_getElem _)).2
  have hrow2 : RowAt (V1.setCells w.heap.size 0 cs) w.heap.size 47 cs := by
    have := RowAt.sets (q := []) cs (madeCells #[Value.int IntKind.u8 0, Value.int IntKind.u32 0, Value.int IntKind.u8 0, Value.slice none 0 0, Value.int IntKind.i64 0] (n * 5)).toList [] V1 (by rw [Array.length_toList, hmadel, hcl]) (by simpa using hrow1)
    simpa using this
  obtain ⟨V2, hV2⟩ : ∃ V2, V2 = V1.setCells w.heap.size 0 cs := ⟨_, rfl⟩
  have hb2 : Bl w V2 := by rw [hV2]; exact below_setCells (Nat.le_refl _) _ _ hb1
  rw [← hV2] at hcp hrow2
  have hrel0 : Bl w V2 ∧ ∃ (k : Nat) (ca cb : List Value), k ≤ n ∧ Value.int .i64 0 = .int .i64 (k : Int) ∧ RowAt V2 w.heap.size 47 (ca ++ cb) ∧ RdL cOp V2 (fun b => (w.heap.size ≤ b ∧ b < V2.heap.size) ∧ b ≠ w.heap.size) (l.take k) ca ∧ RdL cOp w (Fresh 0 w) (l.drop k) cb :=
    ⟨hb2, 0, [], cs, Nat.zero_le _, rfl, hrow2, rfl, hrd⟩
  replace hrel0 := hide hrel0
  replace hn := hide hn
  have hnm : n ≤ 1048576 := by rw [hn.out]; exact hl
  rw [← hn.out]
  replace hsm := hide hsm
  subst hV1
  clear hrow2 hrow1 hb2 hrd hsl hcl hmadel hl
  go_enter Tryz.func57, Tryz.ntmps57
  go_wp2_with (at_builtin
               refine wpList_copy_runI _ rfl _ _ 22 22 rfl _ _ rfl rfl (hcp _) ?_)
  rw [← hV2]
  clear hcp hV2 hb1 hmk
  go_loopw [13] (fun i wr => Bl w wr ∧ ∃ (k : Nat) (ca cb : List Value), k ≤ n ∧ i = .int .i64 (k : Int) ∧ RowAt wr w.heap.size 47 (ca ++ cb) ∧ RdL cOp wr (fun b => (w.heap.size ≤ b ∧ b < wr.heap.size) ∧ b ≠ w.heap.size) (l.take k) ca ∧ RdL cOp w (Fresh 0 w) (l.drop k) cb) (fun i _ => n - (RowKit.intOf i).toNat)
  case atStart => exact hrel0.out
  case round =>
    obtain ⟨hbl, k, ca, cb, hk, rfl, hrow, hra, hrb⟩ := hrel
    have hkl : k ≤ l.length := by rw [← hn.out]; exact hk
    have hcal : ca.length = k * 5 := by
      have := hra.length
      rw [List.length_take, Nat.min_eq_left hkl] at this
      exact this
    by_cases hlt : k < n
    · obtain ⟨x, hx⟩ := get_lt (show k < l.length by rw [← hn.out]; exact hlt)
      rw [drop_cons hx] at hrb
      obtain ⟨m, cb', rfl, ⟨ho, B, d, hcd, hdm, rfl, hB⟩, hrb'⟩ := hrb
      have hts := hide (take_snoc hx)
      have hxs := hsm.out x (List.mem_of_getElem? hx)
      clear hx
      have hki : (k : Int) < (n : Int) := by omega
      have hbx : OpIn wr x B d := ⟨ho, hcd, hdm, R.bl hB hbl⟩
      have hpa : At wr w.heap.size (k * 5) (opCells x B d) := by rw [← hcal]; exact RowAt.part hrow
      have hc0 := (hpa 0 _ rfl).1
      have hc1 := (hpa 1 _ rfl).1
      have hc2 := (hpa 2 _ rfl).1
      have hc3 := (hpa 3 _ rfl).1
      have hc4 := (hpa 4 _ rfl).1
      simp only [Nat.add_zero] at hc0
      have hgl := hrow.lt
      have hnel : (opCells x B d).length = 5 := rfl
      have htw := hide (opTwin x B d wr hbx hxs)
      go_wp2_with fail
      refine htw.out.mono ?_
      rintro e w1 ⟨A1, n1, rfl, q1, q2, hr1, hb1⟩
      have hpa1 := hpa.bl hb1 (by rw [hnel]; omega)
      clear hc0 hc1 hc2 hc3 hc4
      have hc0 := (hpa1 0 _ rfl).1
      have hc1 := (hpa1 1 _ rfl).1
      have hc2 := (hpa1 2 _ rfl).1
      have hc3 := (hpa1 3 _ rfl).1
      have hc4 := (hpa1 4 _ rfl).1
      have hf0 := (hpa1 0 _ rfl).2
      have hf1 := (hpa1 1 _ rfl).2
      have hf2 := (hpa1 2 _ rfl).2
      have hf3 := (hpa1 3 _ rfl).2
      have hf4 := (hpa1 4 _ rfl).2
      simp only [Nat.add_zero] at hc0 hf0
      have hg1 := Nat.lt_of_lt_of_le hgl hb1.size
      have hrow1 : RowAt (w1.setCells w.heap.size (k * 5) (opCells x A1 n1)) w.heap.size 47 ((ca ++ opCells x A1 n1) ++ cb') := by
        have := RowAt.sets (opCells x A1 n1) (opCells x B d) ca w1 rfl (hrow.bl hb1)
        rw [hcal] at this
        rw [List.append_assoc]
        exact this
      have hra1 : RdL cOp (w1.setCells w.heap.size (k * 5) (opCells x A1 n1)) (fun b => (w.heap.size ≤ b ∧ b < (w1.setCells w.heap.size (k * 5) (opCells x A1 n1)).heap.size) ∧ b ≠ w.heap.size) (l.take (k + 1)) (ca ++ opCells x A1 n1) := by
        rw [hts.out]
        refine RdL.append ((hra.keep (hb1.keeps fun b h => h.1.2) (fun b h => (⟨⟨h.1.1, Nat.lt_of_lt_of_le h.1.2 hb1.size⟩, h.2⟩ : (w.heap.size ≤ b ∧ b < w1.heap.size) ∧ b ≠ w.heap.size))).keep (keeps_setCells (fun b h => h.2) _ _ _) fun b h => ⟨⟨h.1.1, by rw [size_setCells]; exact h.1.2⟩, h.2⟩) (RdL.one1 ⟨ho, A1, n1, q1, q2, rfl, ?_⟩)
        refine RS.keep (RS.up (S' := fun b => (w.heap.size ≤ b ∧ b < w1.heap.size) ∧ b ≠ w.heap.size) hr1 (fun b h => ⟨⟨Nat.le_trans hbl.size h.1, h.2⟩, by have := h.1; omega⟩)) (keeps_setCells (fun b h => h.2) _ _ _) fun b h => ⟨⟨h.1.1, by rw [size_setCells]; exact h.1.2⟩, h.2⟩
      have hbl1 : Bl w (w1.setCells w.heap.size (k * 5) (opCells x A1 n1)) := below_setCells (Nat.le_refl _) _ _ (hbl.trans hb1)
      have hrn : Bl w (w1.setCells w.heap.size (k * 5) (opCells x A1 n1)) ∧ ∃ (k' : Nat) (ca cb : List Value), k' ≤ n ∧ Value.int .i64 ((k : Int) + 1) = .int .i64 (k' : Int) ∧ RowAt (w1.setCells w.heap.size (k * 5) (opCells x A1 n1)) w.heap.size 47 (ca ++ cb) ∧ RdL cOp (w1.setCells w.heap.size (k * 5) (opCells x A1 n1)) (fun b => (w.heap.size ≤ b ∧ b < (w1.setCells w.heap.size (k * 5) (opCells x A1 n1)).heap.size) ∧ b ≠ w.heap.size) (l.take k') ca ∧ RdL cOp w (Fresh 0 w) (l.drop k') cb :=
        ⟨hbl1, k + 1, _, cb', by omega, by go_num, hrow1, hra1, hrb'⟩
      replace hrn := hide hrn
      clear hrow hrow1 hra1 hbl1 hra hrb' hpa hpa1
      go_wp2_with fail
      go_roundw
      case rel => exact hrn.out
      case measure => simp [RowKit.intOf]; omega
    · have hkn : k = n := by omega
      subst hkn
      have e1 : l.take k = l := List.take_of_length_le (by rw [← hn.out]; exact Nat.le_refl _)
      have e2 : l.drop k = [] := List.drop_eq_nil_of_le (by rw [← hn.out]; exact Nat.le_refl _)
      rw [e1] at hra
      rw [e2] at hrb
      obtain rfl : cb = [] := hrb
      rw [List.append_nil] at hrow
      have hg := hide (show NewBag l w (.returned (.slice (some ⟨w.heap.size, 0, none⟩) k k)) wr from by
        rw [hn.out]
        refine ⟨w.heap.size, rfl, ⟨ca, RowAt.own hrow (by rw [hcal, hn.out]; rfl) (Nat.le_refl _) (by rw [← hn.out]; unfold maxLen; omega), hra.keep (Keeps.refl _ _) fun b h => ⟨h.1, fun e => h.2 (by cases e; rfl)⟩⟩, hbl⟩)
      clear e1 e2 hra hrow
      go_wp2
      go_ret
      exact hg.out

end Go.Proofs.YteoodmilcpmmpaaGreat

namespace Go.Proofs.YteoodmilcpmmpaaGreat

open Go.RowKit Go.Shelf Go.Lib

set_option maxHeartbeats 4000000 in
set_option maxRecDepth 100000 in
/-- There is room, i < len(s): in place. -/
theorem opInsertShift (b n c i vb vc : Nat) (cs vs : List Value) (w : World) (hi : i < n) (hroom : n + 1 ≤ c) (hc63 : c ≤ 9223372036854775807) (hvb : vb ≠ b)
    (hcl : cs.length = n * 5) (hvl : vs.length = 5)
    (hcs : ∀ (j : Nat) v, cs[j]? = some v → w.cell? ⟨b, j, none⟩ = some v) (hsp : ∀ j, j < (n + 1) * 5 → (w.cell? ⟨b, j, none⟩).isSome = true) (hfz : ∀ j, j < (n + 1) * 5 → w.frozen? ⟨b, j, none⟩ = false)
    (hvs : ∀ (j : Nat) v, vs[j]? = some v → w.cell? ⟨vb, j, none⟩ = some v) (h1c : ∀ v ∈ cs, v.oneCell' = true) (h1v : ∀ v ∈ vs, v.oneCell' = true)
    (tA tB : TypeId) (kA kB : Nat) (hsa : w.shape? vb = some (tA, kA)) (hsb : w.shape? b = some (tB, kB)) (hkB : kB ≠ 0) (hfa : w.frozen? ⟨vb, 0, none⟩ = false) (hfe : w.frozen? ⟨vb, kA, none⟩ = false) :
    Calls Tryz.prog 58 #[.slice (some ⟨b, 0, none⟩) n c, .int .i64 i, .slice (some ⟨vb, 0, none⟩) 1 vc] w fun e w' =>
      e = .returned (.slice (some ⟨b, 0, none⟩) (n + 1) c) ∧ w' = (w.drew.setCells b ((i + 1) * 5) (cs.drop (i * 5))).setCells b (i * 5) vs := by
  have hz2 : ((i : Int) == (n : Int)) = false := beq_eq_false_iff_ne.2 (by omega)
  have hsz : (Tryz.prog.info? 47).map (·.size) = some 5 := by
    obtain ⟨i0, hi0, h0, h1, h2⟩ := info_parts Tryz.infoOp
    rw [hi0]; simp [h1]
  have hov : ∀ lb cb, (callFunc 113 #[.slice (some ⟨vb, 0, none⟩) 1 vc, .slice (some ⟨b, (i + 1) * 5, none⟩) lb cb]).run Tryz.prog w = .ok (.value (.bool false)) w := fun lb cb => by
    rw [run_callFunc_extern Tryz.func113 (by kernel_rfl) (by kernel_rfl) (by kernel_rfl) (e := Extern.SlicesOverlaps.overlaps #[22, 22] #[4]) (by kernel_rfl),
      Lib.run_overlaps_apart w 22 4 47 Tryz.underlying22 5 Tryz.sizeOf47 ⟨vb, 0, none⟩ ⟨b, (i + 1) * 5, none⟩ 1 vc lb cb hvb tA tB kA kB hsa hsb hkB hfa hfe]
    rfl
  have hdl : (cs.drop (i * 5)).length = (n - i) * 5 := by rw [List.length_drop, hcl]; omega
  have hw1 : IntKind.i64.wrap ((i : Int) + 1) = (i : Int) + 1 := by rw [IntKind.wrap_i64]; omega
  have hb1 : (0 : Int) ≤ (i : Int) + 1 := by omega
  have hin : i ≤ n := by omega
  have htn : ((i : Int) + 1).toNat = i + 1 := by omega
  have hb2 : ¬ (c = i + 1) := by omega
  have hb3 : (i : Int) ≤ (n : Int) + 1 := by omega
  have hb4 : ¬ (c = i) := by omega
  have hcp1 : ∀ ty dc sc, (Builtin.copy_ #[22, 22] ty #[.slice (some ⟨b, (i + 1) * 5, none⟩) (n - i) dc, .slice (some ⟨b, i * 5, none⟩) (n + 1 - i) sc]).run Tryz.prog w.drew = .ok (goInt ((n - i : Nat) : Int)) (w.drew.setCells b ((i + 1) * 5) (cs.drop (i * 5))) := fun ty dc sc =>
    run_copy_cellsK w.drew _ _ ty 47 5 b ((i + 1) * 5) (n - i) dc ⟨b, i * 5, none⟩ (n + 1 - i) sc (cs.drop (i * 5)) Tryz.underlying22 hsz (n - i) (by simp only [Nat.min_def]; split <;> omega) hdl
      (fun j v hj => by rw [Addr.add_lit]; exact hcs (i * 5 + j) v (by rwa [List.getElem?_drop] at hj))
      (fun j hj => hsp _ (by omega)) (fun j hj => hfz _ (by omega)) (fun v hv => h1c v (List.mem_of_mem_drop hv))
  obtain ⟨W1, hW1⟩ : ∃ W1, W1 = w.drew.setCells b ((i + 1) * 5) (cs.drop (i * 5)) := ⟨_, rfl⟩
  have hsp1 : ∀ k, k < (n + 1) * 5 → (W1.cell? ⟨b, k, none⟩).isSome = true := fun k hk => by
    rw [hW1]
    exact isSome_setCells b (cs.drop (i * 5)) ((i + 1) * 5) w.drew (fun j hj => hsp _ (by rw [hdl] at hj; omega)) _ (hsp k hk)
  have hcp2 : ∀ (W : World), (∀ x, W.cell? x = W1.cell? x) → (∀ x, W.frozen? x = W1.frozen? x) → ∀ ty dc, (Builtin.copy_ #[22, 22] ty #[.slice (some ⟨b, i * 5, none⟩) (n + 1 - i) dc, .slice (some ⟨vb, 0, none⟩) 1 vc]).run Tryz.prog W = .ok (goInt 1) (W.setCells b (i * 5) vs) := fun W hWc hWf ty dc =>
    run_copy_cellsK W _ _ ty 47 5 b (i * 5) (n + 1 - i) dc ⟨vb, 0, none⟩ 1 vc vs Tryz.underlying22 hsz 1 (by simp only [Nat.min_def]; split <;> omega) hvl
      (fun j v hj => by
        rw [Addr.add_lit, hWc, hW1, World.cell?_setCells_out b _ _ _ _ (fun h _ => absurd h hvb), Nat.zero_add]
        exact hvs j v hj)
      (fun j hj => by rw [hWc]; exact hsp1 _ (by omega)) (fun j hj => by rw [hWf, hW1, World.frozen?_setCells]; exact hfz _ (by omega)) h1v
  rw [← hW1] at hcp1
  go_enter Tryz.func58, Tryz.ntmps58
  go_wp2_with (simp only [hov])
  go_region_law (refine step_copy_runI rfl _ _ 22 22 rfl _ _ (by simp [Act.eval, Act.put]) (by simp [Act.eval, Act.put]) (hcp1 _ _ _) ?_)
  go_wp2_with (at_builtin; refine wpList_copy_runI _ rfl _ _ 22 22 rfl _ _ rfl rfl (hcp2 _ (fun _ => rfl) (fun _ => rfl) _ _) ?_)
  go_ret
  exact ⟨rfl, rfl⟩

def zeroO : Value := .agg #[.int .u8 0, .int .u32 0, .int .u8 0, .slice none 0 0, .int .i64 0]

theorem zeroO_size : zeroO.cells.size = 5 := rfl

theorem opInfo : (Tryz.prog.info? 47).map (fun i => (i.zero, i.size, i.bytes)) = some (some zeroO, 5, 48) := Tryz.infoOp

set_option maxHeartbeats 4000000 in
set_option maxRecDepth 100000 in
/-- There is no room, i < len(s): a new row. -/
theorem opInsertGrow (b n c i vb vc : Nat) (cs vs : List Value) (w : World) (hi : i < n) (hnc : n ≤ c) (hroom : c < n + 1) (hbig : (n + 1) * 48 ≤ 140737488355328)
    (hcl : cs.length = n * 5) (hvl : vs.length = 5)
    (hcs : ∀ (j : Nat) v, cs[j]? = some v → w.cell? ⟨b, j, none⟩ = some v)
    (hvs : ∀ (j : Nat) v, vs[j]? = some v → w.cell? ⟨vb, j, none⟩ = some v) (h1c : ∀ v ∈ cs, v.oneCell' = true) (h1v : ∀ v ∈ vs, v.oneCell' = true) :
    Calls Tryz.prog 58 #[.slice (some ⟨b, 0, none⟩) n c, .int .i64 i, .slice (some ⟨vb, 0, none⟩) 1 vc] w fun e w' => ∃ (G : Nat) (ROW : Array Value), n + 1 ≤ G ∧ G ≤ maxLen ∧ ROW.size = G * 5 ∧ ROW.toList.take (i * 5) = cs.take (i * 5) ∧
      e = .returned (.slice (some ⟨w.heap.size, 0, none⟩) (n + 1) G) ∧
      w' = (((w.alloc (.cells ROW 47)).drew.setCells w.heap.size (i * 5) vs).drew).setCells w.heap.size ((i + 1) * 5) (cs.drop (i * 5)) := by
  obtain ⟨i0, hi0, hz0, hzs, hzb⟩ := info_parts opInfo
  have hz2 : ((i : Int) == (n : Int)) = false := beq_eq_false_iff_ne.2 (by omega)
  have hz3 : decide ((c : Int) < (n : Int) + 1) = true := by simp; omega
  have hsz : (Tryz.prog.info? 47).map (·.size) = some 5 := by rw [hi0]; simp [hzs]
  have hbw : b < w.heap.size := block_lt_of_cell (hcs 0 _ (List.getElem?_eq_getElem (by omega)))
  have hvw : vb < w.heap.size := block_lt_of_cell (hvs 0 _ (List.getElem?_eq_getElem (by omega)))
  have hkk : (n : Int) + 1 - (i : Int) = ((n + 1 - i : Nat) : Int) := by omega
  have hik : i + (n + 1 - i) = n + 1 := by omega
  have hold : (Builtin.firstCells i0.size i (.slice (some ⟨b, 0, none⟩) i c)).run Tryz.prog w.drew = .ok (cs.take (i * 5)).toArray w.drew := by
    rw [hzs]
    exact run_firstCells_some w.drew 5 i ⟨b, 0, none⟩ i c (cs.take (i * 5)) (by rw [List.length_take]; omega) (fun j v hj => by
      rw [Addr.add_lit, Nat.zero_add]
      rw [List.getElem?_take] at hj
      split at hj
      · exact hcs j v hj
      · cases hj)
  have hrz : ∀ ty, (Builtin.append_ #[22, 3] ty #[.slice (some ⟨b, 0, none⟩) i c, .int .i64 ((n : Int) + 1 - (i : Int))]).run Tryz.prog w =
      .ok (.slice (some ⟨w.heap.size, 0, none⟩) (n + 1) (grownCap w (n + 1) c 47)) (w.drew.alloc (.cells ((cs.take (i * 5)).toArray ++ Builtin.zeroCells zeroO.cells (n + 1 - i) ++ Builtin.zeroCells zeroO.cells (grownCap w (n + 1) c 47 - (n + 1))) 47)) := fun ty => by
    have h := Lib.run_append_grow_zeros w 22 3 ty 47 i0 _ .i64 .i64 Tryz.underlying22 Tryz.underlying3 hi0 hz0 (some ⟨b, 0, none⟩) i c (cs.take (i * 5)) hold (n + 1 - i) (by omega) (by omega) (by omega) (by omega) (by rw [hzb]; omega) (by rw [hzb, hik]; exact growslice_fits hroom hbig)
    rw [hik] at h
    rw [hkk]
    exact h
  have hGn : n + 1 ≤ grownCap w (n + 1) c 47 := grownCap_ge w _ _ _
  have hGm := grownCap_le_maxLen w (n + 1) c 47 (by unfold maxLen; omega)
  obtain ⟨G, hG⟩ : ∃ G, G = grownCap w (n + 1) c 47 := ⟨_, rfl⟩
  obtain ⟨ROW, hROW⟩ : ∃ ROW : Array Value, ROW = (cs.take (i * 5)).toArray ++ Builtin.zeroCells zeroO.cells (n + 1 - i) ++ Builtin.zeroCells zeroO.cells (G - (n + 1)) := ⟨_, rfl⟩
  rw [← hG] at hrz hGn hGm
  rw [← hROW] at hrz
  have hzc : ∀ k, (Builtin.zeroCells zeroO.cells k).size = k * 5 := fun k => by
    unfold Builtin.zeroCells
    rw [zeroO_size]
    simp
  have hRl : ROW.size = G * 5 := by
    rw [hROW]
    simp only [Array.size_append, hzc, List.size_toArray, List.length_take, hcl]
    omega
  have hRt : ROW.toList.take (i * 5) = cs.take (i * 5) := by
    rw [hROW]
    simp only [Array.toList_append]
    rw [List.append_assoc, List.take_append_of_le_length (by simp [hcl]; omega)]
    exact List.take_of_length_le (by simp; omega)
  have hGmx := hGm
  obtain ⟨W1, hW1⟩ : ∃ W1, W1 = w.drew.alloc (.cells ROW 47) := ⟨_, rfl⟩
  rw [← hW1] at hrz
  have hN : ∀ j, j < (n + 1) * 5 → (W1.cell? ⟨w.heap.size, j, none⟩).isSome = true := fun j hj => by
    rw [hW1, World.cell?_alloc_at (w := w.drew) ROW _ w.heap.size j rfl, Array.getElem?_eq_getElem (by omega)]; rfl
  have hNf : ∀ j, W1.frozen? ⟨w.heap.size, j, none⟩ = false := fun j => by rw [hW1]; exact World.frozen?_alloc_at (w := w.drew) ROW _ w.heap.size j rfl
  have hOb : ∀ j v, w.cell? ⟨b, j, none⟩ = some v → W1.cell? ⟨b, j, none⟩ = some v := fun j v h => by rw [hW1, World.cell?_alloc_past (w := w.drew) _ b j hbw]; exact h
  have hOv : ∀ j v, w.cell? ⟨vb, j, none⟩ = some v → W1.cell? ⟨vb, j, none⟩ = some v := fun j v h => by rw [hW1, World.cell?_alloc_past (w := w.drew) _ vb j hvw]; exact h
  have hcpA : ∀ (W : World), (∀ x, W.cell? x = W1.cell? x) → (∀ x, W.frozen? x = W1.frozen? x) → ∀ ty dc, (Builtin.copy_ #[22, 22] ty #[.slice (some ⟨w.heap.size, i * 5, none⟩) (n + 1 - i) dc, .slice (some ⟨vb, 0, none⟩) 1 vc]).run Tryz.prog W = .ok (goInt 1) (W.setCells w.heap.size (i * 5) vs) := fun W hWc hWf ty dc =>
    run_copy_cellsK W _ _ ty 47 5 w.heap.size (i * 5) (n + 1 - i) dc ⟨vb, 0, none⟩ 1 vc vs Tryz.underlying22 hsz 1 (by simp only [Nat.min_def]; split <;> omega) hvl
      (fun j v hj => by rw [Addr.add_lit, hWc, Nat.zero_add]; exact hOv _ v (hvs j v hj))
      (fun j hj => by rw [hWc]; exact hN _ (by omega)) (fun j hj => by rw [hWf]; exact hNf _) h1v
  have hG63 : G ≤ 9223372036854775807 := by unfold maxLen at hGm; omega
  have hGi : ¬ (G = i) := by omega
  have hGim : ¬ (G = i + 1) := by omega
  have hci : ¬ (c = i) := by omega
  have hbN : b ≠ w.heap.size := by omega
  have hdl : (cs.drop (i * 5)).length = (n - i) * 5 := by rw [List.length_drop, hcl]; omega
  have hcpB : ∀ (W : World), (∀ x, W.cell? x = (W1.setCells w.heap.size (i * 5) vs).cell? x) → (∀ x, W.frozen? x = (W1.setCells w.heap.size (i * 5) vs).frozen? x) → ∀ ty dc sc, (Builtin.copy_ #[22, 22] ty #[.slice (some ⟨w.heap.size, (i + 1) * 5, none⟩) (n - i) dc, .slice (some ⟨b, i * 5, none⟩) (n - i) sc]).run Tryz.prog W = .ok (goInt ((n - i : Nat) : Int)) (W.setCells w.heap.size ((i + 1) * 5) (cs.drop (i * 5))) := fun W hWc hWf ty dc sc =>
    run_copy_cellsK W _ _ ty 47 5 w.heap.size ((i + 1) * 5) (n - i) dc ⟨b, i * 5, none⟩ (n - i) sc (cs.drop (i * 5)) Tryz.underlying22 hsz (n - i) (by simp only [Nat.min_def]; split <;> omega) hdl
      (fun j v hj => by
        rw [Addr.add_lit, hWc, World.cell?_setCells_out _ _ _ _ _ (fun h _ => absurd h hbN)]
        exact hOb _ v (hcs (i * 5 + j) v (by rwa [List.getElem?_drop] at hj)))
      (fun j hj => by rw [hWc]; exact isSome_setCells w.heap.size vs (i * 5) W1 (fun t ht => hN _ (by omega)) _ (hN _ (by rw [hdl] at hj; omega)))
      (fun j hj => by rw [hWf, World.frozen?_setCells]; exact hNf _) (fun v hv => h1c v (List.mem_of_mem_drop hv))
  subst hW1
  have hE1 : ∀ x, ((w.alloc (.cells ROW 47)).drew).cell? x = (w.drew.alloc (.cells ROW 47)).cell? x := fun x => rfl
  have hE2 : ∀ x, ((w.alloc (.cells ROW 47)).drew).frozen? x = (w.drew.alloc (.cells ROW 47)).frozen? x := fun x => rfl
  have hF1 : ∀ x, (((w.alloc (.cells ROW 47)).drew.setCells w.heap.size (i * 5) vs).drew).cell? x = ((w.drew.alloc (.cells ROW 47)).setCells w.heap.size (i * 5) vs).cell? x := fun x => rfl
  have hF2 : ∀ x, (((w.alloc (.cells ROW 47)).drew.setCells w.heap.size (i * 5) vs).drew).frozen? x = ((w.drew.alloc (.cells ROW 47)).setCells w.heap.size (i * 5) vs).frozen? x := fun x => rfl
  have hw1 : IntKind.i64.wrap ((i : Int) + 1) = (i : Int) + 1 := by rw [IntKind.wrap_i64]; omega
  have hb1 : (0 : Int) ≤ (i : Int) + 1 := by omega
  have hin : i ≤ n := by omega
  have htn : ((i : Int) + 1).toNat = i + 1 := by omega
  have hb3 : (i : Int) ≤ (n : Int) := by omega
  have hRR := hide (And.intro hRl hRt)
  clear hkk hik hold hROW hG hRl hRt hzc hi0 hz0 hzs hzb hsz hN hNf hOb hOv
  go_enter Tryz.func58, Tryz.ntmps58
  go_wp2_with (first
    | (at_builtin; refine Lib.wpList_append_run _ rfl _ _ _ _ rfl _ _ rfl rfl _ _ (hrz _) ?_)
    | (at_builtin; refine wpList_copy_runI _ rfl _ _ 22 22 rfl _ _ rfl rfl (hcpA _ hE1 hE2 _ _) ?_))
  go_region_law (refine step_copy_runI rfl _ _ 22 22 rfl (.slice (some ⟨w.heap.size, (i + 1) * 5, none⟩) (n - i) (G - (i + 1))) (.slice (some ⟨b, i * 5, none⟩) (n - i) (c - i)) (by simp [Act.eval, Act.put]) (by simp [Act.eval, Act.put]) (hcpB _ hF1 hF2 3 (G - (i + 1)) (c - i)) ?_)
  go_wp2
  go_ret
  exact ⟨G, ROW, hGn, hGm, hRR.out.1, hRR.out.2, rfl, rfl⟩

set_option maxRecDepth 100000 in
set_option maxHeartbeats 2000000 in
theorem opInsertC (base : Nat) (v : Value) (xs : List Op) (i : Nat) (y : Op) (A : Option Addr) (c : Nat) (w1 : World) (hown : Own cOp 47 base w1 v xs) (hbase : base ≤ w1.heap.size) (hi : i ≤ xs.length) (hl : xs.length ≤ 1048576)
    (hy : cOp.rd w1 (fun b => (base ≤ b ∧ b < w1.heap.size) ∧ v.ownBlock ≠ some b) y (opCells y A c)) :
    Calls Tryz.prog 58 #[v, .int .i64 i, .slice (some ⟨w1.heap.size, 0, none⟩) 1 1] (w1.alloc (.cells (opCells y A c).toArray 47)) (NewFrom cOp base (xs.take i ++ y :: xs.drop i) w1) := by
  obtain ⟨w, hw⟩ : ∃ w, w = w1.alloc (.cells (opCells y A c).toArray 47) := ⟨_, rfl⟩
  have hbw : Bl w1 w := by rw [hw]; exact (Bl.refl _).alloc _
  have hzw : w.heap.size = w1.heap.size + 1 := by rw [hw, World.size_alloc]
  have hnew := heap_alloc_new w1 (.cells (opCells y A c).toArray 47)
  rw [← hw] at hnew ⊢
  have hvs : ∀ (j : Nat) u, (opCells y A c)[j]? = some u → w.cell? ⟨w1.heap.size, j, none⟩ = some u := fun j u hu => by
    rw [cell_of_row w w1.heap.size j _ _ (0, 0) hnew]; simpa using hu
  have hvf : ∀ o, w.frozen? ⟨w1.heap.size, o, none⟩ = false := fun o => by rw [hw]; exact frozen_new w1 _ _ o
  have h1v := cOp.one hy
  have hvl : (opCells y A c).length = 5 := rfl
  obtain ⟨i0, hi0, hz0, hz1, hz2⟩ := info_parts Tryz.infoOp
  have hown2 := hown.bl hbw
  have hfn : ∀ v2 w2, Own cOp 47 base w2 v2 (xs ++ [y]) → w.grownBy w2 v.ownBlock → NewFrom cOp base (xs ++ [y]) w1 (.returned v2) w2 := fun v2 w2 ho hg => by
    obtain ⟨A', c', rfl, hr, k1, k2⟩ := ho.reads
    exact ⟨A', c', rfl, k1, k2, hr, Below.grown (Below.mono hbw hbase) hg (by omega) (fun k hk => (hown2.lt hk).1)⟩
  have hsrc : ∃ news, RdL cOp w (fun b => (base ≤ b ∧ b < w.heap.size) ∧ v.ownBlock ≠ some b) [y] news ∧ (∀ ad, some (⟨w1.heap.size, 0, none⟩ : Addr) = some ad → ∀ (j : Nat) (u : Value), news[j]? = some u → w.cell? (ad.add j) = some u) ∧ (some (⟨w1.heap.size, 0, none⟩ : Addr) = none → [y] = []) :=
    ⟨opCells y A c, RdL.one1 (cOp.keep (hbw.keeps fun b hb => hb.1.2) (fun b hb => ⟨⟨hb.1.1, by have := hb.1.2; omega⟩, hb.2⟩) hy), fun ad e j u hu => by
      cases e
      rw [add_plain', Nat.zero_add]
      exact hvs j u hu, fun e => by cases e⟩
  have hlx : xs.length ≤ 9223372036854775807 := by omega
  replace hfn := hide hfn
  clear hw
  obtain ⟨cells, ho, hr⟩ := hown
  obtain ⟨hcl, hnl | ⟨g, cap, cur, hv, hbg, hgc, hnc, hcm, hsz, htk⟩⟩ := ho
  · obtain ⟨rfl, hx0⟩ := hnl
    obtain rfl := List.eq_nil_of_length_eq_zero hx0
    obtain rfl : i = 0 := by simpa using hi
    clear hr hcl hnew hvs hvf hx0
    go_enter Tryz.func58, Tryz.ntmps58
    go_wp2_with (at_builtin
                 (refine wpList_append_any2 (C := cOp) (xs := []) (ys := [y]) rfl (.tmp 23) (.tmp 24) _ rfl 47 i0 _ 48 Tryz.underlying22 hi0 hz0 hz1 hz2 rfl _ base rfl hown2 (some ⟨w1.heap.size, 0, none⟩) 1 1 rfl rfl hsrc ?c1 ?c2 ?c3 ?_)
                 case c1 => simp [maxLen]
                 case c2 => simp
                 case c3 => omega
                 intro v2 w2 hown3 hg2 _)
    go_ret
    exact hfn.out _ _ hown3 hg2
  have hcm' := hcm
  unfold maxLen at hcm'
  by_cases hin : i = xs.length
  · subst hin
    have hE := hide (show xs.take xs.length ++ y :: xs.drop xs.length = xs ++ [y] by rw [List.take_length, List.drop_length])
    have hee : ((xs.length : Int) == (xs.length : Int)) = true := by simp
    subst hv
    clear hr hcl hnew hvs hvf hgc htk
    by_cases hce : cap = xs.length
    · subst hce
      go_enter Tryz.func58, Tryz.ntmps58
      go_wp2_with (at_builtin
                   (refine wpList_append_any2 (C := cOp) (xs := xs) (ys := [y]) rfl (.tmp 23) (.tmp 24) _ rfl 47 i0 _ 48 Tryz.underlying22 hi0 hz0 hz1 hz2 rfl _ base rfl hown2 (some ⟨w1.heap.size, 0, none⟩) 1 1 rfl rfl hsrc ?c1 ?c2 ?c3 ?_)
                   case c1 => simp [maxLen]; omega
                   case c2 => simp; omega
                   case c3 => omega
                   intro v2 w2 hown3 hg2 _)
      go_ret
      rw [hE.out]
      exact hfn.out _ _ hown3 hg2
    · go_enter Tryz.func58, Tryz.ntmps58
      go_wp2_with (at_builtin
                   (refine wpList_append_any2 (C := cOp) (xs := xs) (ys := [y]) rfl (.tmp 23) (.tmp 24) _ rfl 47 i0 _ 48 Tryz.underlying22 hi0 hz0 hz1 hz2 rfl _ base rfl hown2 (some ⟨w1.heap.size, 0, none⟩) 1 1 rfl rfl hsrc ?c1 ?c2 ?c3 ?_)
                   case c1 => simp [maxLen]; omega
                   case c2 => simp; omega
                   case c3 => omega
                   intro v2 w2 hown3 hg2 _)
      go_ret
      rw [hE.out]
      exact hfn.out _ _ hown3 hg2
  -- in the midst
  have hin' : i < xs.length := by omega
  subst hv
  have hg1 : g < w1.heap.size := (Array.getElem?_eq_some_iff.1 hgc).1
  have hgc2 : w.heap[g]? = some (.cells cur 47 (0, 0)) := (hbw.block g hg1).trans hgc
  have hne : w1.heap.size ≠ g := by omega
  have hcs : ∀ (j : Nat) u, cells[j]? = some u → w.cell? ⟨g, j, none⟩ = some u := fun j u hu => by
    rw [cell_of_row w g j cur _ (0, 0) hgc2]
    rw [← htk, List.getElem?_take] at hu
    split at hu
    · simpa using hu
    · cases hu
  have h1c := hr.one
  have hfr : ∀ o, w.frozen? ⟨g, o, none⟩ = false := fun o => by simp [World.frozen?, hgc2]
  -- the pieces
  have hxs : xs = xs.take i ++ xs.drop i := (List.take_append_drop i xs).symm
  have hr2 := hr
  rw [hxs] at hr2
  obtain ⟨ca, cb, hcc, hra, hrb⟩ := hr2.split
  have hcal : ca.length = i * 5 := by
    have := hra.length
    rw [List.length_take, Nat.min_eq_left (by omega)] at this
    exact this
  have hcat : cells.take (i * 5) = ca := by rw [hcc, List.take_append_of_le_length (by omega), List.take_of_length_le (by omega)]
  have hcad : cells.drop (i * 5) = cb := by rw [hcc, List.drop_append_of_le_length (by omega), List.drop_of_length_le (by omega)]; rfl
  have hcbl : cb.length = (xs.length - i) * 5 := by
    have := congrArg List.length hcc
    rw [List.length_append, hcl, hcal] at this
    have h8 : cOp.size = 5 := rfl
    rw [h8] at this
    omega
  have hcl8 : cells.length = xs.length * 5 := hcl
  have hrall : RdL cOp w1 (fun b => (base ≤ b ∧ b < w1.heap.size) ∧ (Value.slice (some ⟨g, 0, none⟩) xs.length cap).ownBlock ≠ some b) (xs.take i ++ y :: xs.drop i) (ca ++ (opCells y A c ++ cb)) := hra.append ((RdL.one1 hy).append hrb)
  have hylen : (xs.take i ++ y :: xs.drop i).length = xs.length + 1 := by simp; omega
  have hob : ∀ b, ((base ≤ b ∧ b < w1.heap.size) ∧ (Value.slice (some ⟨g, 0, none⟩) xs.length cap).ownBlock ≠ some b) → b ≠ g := fun b hb e => hb.2 (by rw [e]; rfl)
  by_cases hroom : xs.length + 1 ≤ cap
  · have hsp : ∀ j, j < (xs.length + 1) * 5 → (w.cell? ⟨g, j, none⟩).isSome = true := fun j hj => by
      rw [cell_of_row w g j cur _ (0, 0) hgc2, Array.getElem?_eq_getElem (by have h8 : cOp.size = 5 := rfl; rw [h8] at hsz; omega)]
      rfl
    have hins := (ins_cells (W := w.drew) (g := g) (p := i * 5) (q := 5) (a := ca) (vs := opCells y A c) (b := cb) hcal hvl (fun j hj => hsp j (by omega)) (fun j u hu => hcs j u (by rw [hcc, List.getElem?_append_left (by exact (List.getElem?_eq_some_iff.1 hu).1)]; exact hu))).1
    refine (opInsertShift g xs.length cap i w1.heap.size 1 cells (opCells y A c) w hin' hroom hcm' hne hcl8 hvl hcs hsp (fun j _ => hfr j) hvs h1c h1v 47 47 5 cur.size ?_ ?_ ?_ (hvf 0) (hvf 5)).mono ?_
    · simp [World.shape?, hnew, hvl]
    · simp [World.shape?, hgc2]
    · have h8 : cOp.size = 5 := rfl
      rw [h8] at hsz
      omega
    rintro e w' ⟨rfl, rfl⟩
    rw [hcad, show (i + 1) * 5 = i * 5 + 5 by omega]
    refine ⟨some ⟨g, 0, none⟩, cap, by rw [hylen], by rw [hylen]; exact hroom, hcm, ⟨_, hrall.keep (fun b hb => ?_) (fun b hb => ⟨hb.1.1, ?_⟩), fun _ => ⟨g, 0, rfl, ⟨hbg, ?_⟩, fun j u hu => ⟨?_, ?_⟩⟩⟩, ?_⟩
    · exact ((((hbw.keeps fun _ h => h.1.2).trans (Keeps.drew _ _)).trans (keeps_setCells hob _ _ _)).trans (keeps_setCells hob _ _ _)) b hb
    · rw [size_setCells, size_setCells]; show b < w.heap.size; have := hb.1.2; omega
    · rw [size_setCells, size_setCells]; show g < w.heap.size; omega
    · rw [Nat.zero_add]; exact hins j u hu
    · rw [World.frozen?_setCells, World.frozen?_setCells]; exact hfr _
    · exact below_setCells hbg _ _ (below_setCells hbg _ _ (Below.mono hbw.drew hbase))
  · refine (opInsertGrow g xs.length cap i w1.heap.size 1 cells (opCells y A c) w hin' hnc (by omega) (by omega) hcl8 hvl hcs hvs h1c h1v).mono ?_
    rintro e w' ⟨G, ROW, hG1, hG2, hRs, hRt, rfl, rfl⟩
    rw [hcad, show (i + 1) * 5 = i * 5 + 5 by omega]
    have hH : w.heap.size = w1.heap.size + 1 := hzw
    have hal := heap_alloc_new w (.cells ROW 47)
    have hins := (ins_cells (W := (w.alloc (.cells ROW 47)).drew.drew) (g := w.heap.size) (p := i * 5) (q := 5) (a := ca) (vs := opCells y A c) (b := cb) hcal hvl (fun j hj => by
        show ((w.alloc (.cells ROW 47)).cell? ⟨w.heap.size, j, none⟩).isSome = true
        rw [cell_of_row _ w.heap.size j ROW _ (0, 0) hal, Array.getElem?_eq_getElem (by omega)]; rfl) (fun j u hu => by
        show (w.alloc (.cells ROW 47)).cell? ⟨w.heap.size, j, none⟩ = some u
        rw [cell_of_row _ w.heap.size j ROW _ (0, 0) hal]
        rw [← hcat, ← hRt, List.getElem?_take] at hu
        split at hu
        · simpa using hu
        · cases hu)).2
    have hob2 : ∀ b, ((base ≤ b ∧ b < w1.heap.size) ∧ (Value.slice (some ⟨g, 0, none⟩) xs.length cap).ownBlock ≠ some b) → b ≠ w.heap.size := fun b hb e => by have := hb.1.2; omega
    refine ⟨some ⟨w.heap.size, 0, none⟩, G, by rw [hylen], by rw [hylen]; exact hG1, hG2, ⟨_, hrall.keep (fun b hb => ?_) (fun b hb => ⟨hb.1.1, ?_⟩), fun _ => ⟨w.heap.size, 0, rfl, ⟨by omega, ?_⟩, fun j u hu => ⟨?_, ?_⟩⟩⟩, ?_⟩
    · exact (((((((hbw.alloc _).keeps fun _ h => h.1.2).trans (Keeps.drew _ _)).trans (keeps_setCells hob2 _ _ _)).trans (Keeps.drew _ _)).trans (keeps_setCells hob2 _ _ _))) b hb
    · simp only [size_setCells, drew_heap, World.size_alloc]
      have := hb.1.2
      omega
    · simp only [size_setCells, drew_heap, World.size_alloc]
      omega
    · rw [Nat.zero_add, drew_setCells]
      exact hins j u hu
    · rw [World.frozen?_setCells, drew_frozen, World.frozen?_setCells, drew_frozen]
      exact frozen_new w ROW _ _
    · exact below_setCells (by omega) _ _ (Below.drew (below_setCells (g := w.heap.size) (by omega) _ _ (Below.drew (Below.mono (hbw.alloc (.cells ROW 47)) hbase))))

end Go.Proofs.YteoodmilcpmmpaaGreat
