/-
  The walks of bag.order, Check, where.
-/
import Derived.Test.YtedcopjpgijpjaaOp4
namespace Go.Proofs.Ytedcopjpgijpjaa
open Go.RowKit

def idCmp (a b : Id) : Int := if idLess a b then -1 else if idLess b a then 1 else 0

set_option maxHeartbeats 400000 in
theorem bagOrder (a b : Id) (w : World) (ha : a.ok) (hb : b.ok) :
    Calls Try.prog 38 #[.agg #[.int .u32 a.t, .int .u8 a.r], .agg #[.int .u32 b.t, .int .u8 b.r]] w fun e w' => e = .returned (.int .i64 (idCmp a b)) ∧ Bl w w' := by
  obtain ⟨N, hN⟩ : ∃ N, N = idCmp a b := ⟨_, rfl⟩
  rw [← hN]
  obtain ⟨W, hW⟩ : ∃ W, W = (w.alloc (.cells #[Value.int IntKind.u32 a.t, Value.int IntKind.u8 a.r] 30)).alloc (.cells #[Value.int IntKind.u32 b.t, Value.int IntKind.u8 b.r] 30) := ⟨_, rfl⟩
  have hbW : Bl w W := by rw [hW]; exact ((Bl.refl _).alloc _).alloc _
  have at0 : IdBox W w.heap.size a := by rw [hW]; exact (IdBox.new w a _).bl ((Bl.refl _).alloc _)
  have at1 : IdBox W (w.heap.size + 1) b := by
    rw [hW]
    have := IdBox.new (w.alloc (.cells #[Value.int IntKind.u32 a.t, Value.int IntKind.u8 a.r] 30)) b 30
    rw [World.size_alloc] at this
    exact this
  obtain ⟨c0, c1, -, -⟩ := at0
  obtain ⟨d0, d1, -, -⟩ := at1
  have hl0 := World.block_lt_of_cell? _ _ c0
  have hl1 := World.block_lt_of_cell? _ _ d0
  have h1 := hide (fun V => stampLess a b V ha hb)
  have h2 := hide (fun V => stampLess b a V hb ha)
  cases e1 : idLess a b
  · rw [e1] at h1
    cases e2 : idLess b a
    · rw [e2] at h2
      have g := hide (show 0 = N by rw [hN]; unfold idCmp; rw [e1, e2]; rfl)
      clear hN e1 e2
      go_enter Try.func38, Try.ntmps38
      go_wp2_with fail
      rw [← hW]
      clear hW
      refine (h1.out _).mono ?_
      rintro e w1 ⟨rfl, hb1⟩
      have x0 := (hb1.cell hl0).trans c0
      have x1 := (hb1.cell hl0).trans c1
      have y0 := (hb1.cell hl1).trans d0
      have y1 := (hb1.cell hl1).trans d1
      have hz1 := Nat.lt_of_lt_of_le hl0 hb1.size
      have hz2 := Nat.lt_of_lt_of_le hl1 hb1.size
      clear c0 c1 d0 d1
      go_wp2_with fail
      refine (h2.out _).mono ?_
      rintro e w2 ⟨rfl, hb2⟩
      go_wp2_with fail
      go_ret
      exact ⟨ret_int g.out, hbW.trans (hb1.trans hb2)⟩
    · rw [e2] at h2
      have g := hide (show 1 = N by rw [hN]; unfold idCmp; rw [e1, e2]; rfl)
      clear hN e1 e2
      go_enter Try.func38, Try.ntmps38
      go_wp2_with fail
      rw [← hW]
      clear hW
      refine (h1.out _).mono ?_
      rintro e w1 ⟨rfl, hb1⟩
      have x0 := (hb1.cell hl0).trans c0
      have x1 := (hb1.cell hl0).trans c1
      have y0 := (hb1.cell hl1).trans d0
      have y1 := (hb1.cell hl1).trans d1
      have hz1 := Nat.lt_of_lt_of_le hl0 hb1.size
      have hz2 := Nat.lt_of_lt_of_le hl1 hb1.size
      clear c0 c1 d0 d1
      go_wp2_with fail
      refine (h2.out _).mono ?_
      rintro e w2 ⟨rfl, hb2⟩
      go_wp2_with fail
      go_ret
      exact ⟨ret_int g.out, hbW.trans (hb1.trans hb2)⟩
  · rw [e1] at h1
    have g := hide (show -1 = N by rw [hN]; unfold idCmp; rw [e1]; rfl)
    clear hN e1
    go_enter Try.func38, Try.ntmps38
    go_wp2_with fail
    rw [← hW]
    clear hW
    refine (h1.out _).mono ?_
    rintro e w1 ⟨rfl, hb1⟩
    go_wp2_with fail
    go_ret
    exact ⟨ret_int g.out, hbW.trans hb1⟩

/-! ### A bag that may be -/
def bagFrom (last : Id) : List Op → Bool
  | [] => true
  | x :: l => opMay x && idLess last x.id && bagFrom x.id l
def bagMay (l : List Op) : Bool := decide (l.length ≤ 1024) && bagFrom ⟨0, 0⟩ l
theorem bagFrom_good {l rest : List Op} {last : Id} {k : Nat} {x : Op} (h : bagFrom ⟨0, 0⟩ l = bagFrom last (l.drop k)) (hd : l.drop k = x :: rest) (h1 : opMay x = true) (h2 : idLess last x.id = true) : bagFrom ⟨0, 0⟩ l = bagFrom x.id rest := by
  rw [h, hd, bagFrom, h1, h2]; rfl
theorem bagFrom_bad {l rest : List Op} {last : Id} {k : Nat} {x : Op} (h : bagFrom ⟨0, 0⟩ l = bagFrom last (l.drop k)) (hd : l.drop k = x :: rest) (hb : (opMay x && idLess last x.id) = false) : bagFrom ⟨0, 0⟩ l = false := by
  rw [h, hd, bagFrom, hb]; rfl
theorem idCmp_neg {a b : Id} (h : idLess a b = true) : idCmp a b = -1 := by unfold idCmp; rw [h]; rfl
theorem idCmp_pos {a b : Id} (h : idLess a b = false) : 0 ≤ idCmp a b := by unfold idCmp; rw [h]; cases idLess b a <;> decide

set_option maxRecDepth 100000 in
set_option maxHeartbeats 2000000 in
theorem bagCheck (A : Option Addr) (c : Nat) (l : List Op) (w : World) (hl : l.length ≤ maxLen) (hA : R cOp 0 w A l) :
    Calls Try.prog 15 #[.slice A l.length c] w fun e w' => e = .returned (.int .i64 (okOr 8 (bagMay l))) ∧ Bl w w' := by
  unfold maxLen at hl
  obtain ⟨N, hN⟩ : ∃ N, N = okOr 8 (bagMay l) := ⟨_, rfl⟩
  rw [← hN]
  by_cases hbig : 1024 < l.length
  · have g := hide (show 8 = N by rw [hN]; unfold bagMay; rw [decide_eq_false (show ¬ l.length ≤ 1024 by omega)]; rfl)
    have hbig' : (1024 : Int) < (l.length : Int) := by omega
    clear hN
    go_enter Try.func15, Try.ntmps15
    go_wp2
    go_ret
    exact ⟨ret_int g.out, Bl.refl _⟩
  have hN' := hide (show N = okOr 8 (bagFrom ⟨0, 0⟩ l) by rw [hN]; unfold bagMay; rw [decide_eq_true (show l.length ≤ 1024 by omega)]; rfl)
  clear hN
  have h64 : (l.length : Int) ≤ 1024 := by omega
  go_enter Try.func15, Try.ntmps15
  go_wp2
  go_loopw [11] (fun i wr => Bl w wr ∧ ∃ (k : Nat) (last : Id), k ≤ l.length ∧ i = .int .i64 k ∧ last.ok ∧ IdBox wr w.heap.size last ∧ Hid (bagFrom ⟨0, 0⟩ l = bagFrom last (l.drop k))) (fun i _ => l.length - (intOf i).toNat)
  case atStart => exact ⟨(Bl.refl _).alloc _, 0, ⟨0, 0⟩, Nat.zero_le _, rfl, ⟨by decide, by decide, by decide, by decide⟩, IdBox.new w ⟨0, 0⟩ _, rfl⟩
  case round =>
    obtain ⟨hbl, k, last, hk, rfl, hlok, hat, hf⟩ := hrel
    by_cases hlt : k < l.length
    · have hR := hA.bl hbl
      obtain ⟨b, off, rfl, _, hb⟩ := hR.addr (by omega)
      obtain ⟨x, hx⟩ := get_lt hlt
      obtain ⟨_, ho, B, d, hcd, hdm, hB, c0, c1, c2, c3, c4⟩ := hR.op hx
      have hdr := hide (drop_cons hx)
      clear hx
      have hki : (k : Int) < (l.length : Int) := by omega
      obtain ⟨V, hV⟩ : ∃ V, V = wr.alloc (.cells #[Value.int IntKind.u8 x.kind, Value.int IntKind.u32 x.id.t, Value.int IntKind.u8 x.id.r, Value.slice B x.pl.length d, Value.int IntKind.i64 x.pt] 33) := ⟨_, rfl⟩
      have hbV : Bl wr V := by rw [hV]; exact (Bl.refl _).alloc _
      have atx : OpBox V wr.heap.size x B d := by rw [hV]; exact OpBox.new wr x B d _
      have hin : OpIn V x B d := ⟨ho, hcd, hdm, hB.bl hbV⟩
      have hchk := fun W (hb : Bl V W) => opCheck x B d W (hin.bl hb)
      have hne1 : w.heap.size ≠ wr.heap.size := by have := hat.lt; omega
      have hne2 : wr.heap.size ≠ w.heap.size := by have := hat.lt; omega
      cases hm : opMay x
      · have g := hide (show 8 = N by rw [hN'.out, bagFrom_bad hf.out hdr.out (by rw [hm]; rfl)]; rfl)
        rw [hm, okOr_false] at hchk
        replace hchk := hide (hchk V (Bl.refl _))
        clear hf hdr hN' hat hm
        go_wp2_with fail
        rw [← hV]
        clear hV
        refine hchk.out.mono ?_
        rintro e w1 ⟨rfl, hb1⟩
        go_wp2_with fail
        go_ret
        exact ⟨ret_int g.out, (hbl.trans hbV).trans hb1⟩
      rw [hm, okOr_true] at hchk
      replace hchk := hide (hchk V (Bl.refl _))
      have hord := fun W => bagOrder last x.id W hlok ho.2.1
      cases hs : idLess last x.id
      · have g := hide (show 8 = N by rw [hN'.out, bagFrom_bad hf.out hdr.out (by rw [hm, hs]; rfl)]; rfl)
        have hcp := idCmp_pos hs
        generalize idCmp last x.id = z at hord hcp
        replace hord := hide hord
        clear hf hdr hN' hm hs
        go_wp2_with fail
        rw [← hV]
        clear hV
        refine hchk.out.mono ?_
        rintro e w1 ⟨rfl, hb1⟩
        obtain ⟨x0, x1, x2, x3, x4⟩ := (atx.bl hb1).cells
        have hlx := (atx.bl hb1).lt
        have hly := (hat.bl (hbV.trans hb1)).lt
        obtain ⟨y0, y1, f0, f1⟩ := hat.bl (hbV.trans hb1)
        go_wp2_with fail
        refine (hord.out _).mono ?_
        rintro e w2 ⟨rfl, hb2⟩
        go_wp2_with fail
        go_ret
        exact ⟨ret_int g.out, (hbl.trans hbV).trans (hb1.trans hb2)⟩
      · have hgd := hide (bagFrom_good hf.out hdr.out hm hs)
        rw [idCmp_neg hs] at hord
        replace hord := hide hord
        clear hf hdr hm hs
        go_wp2_with fail
        rw [← hV]
        clear hV
        refine hchk.out.mono ?_
        rintro e w1 ⟨rfl, hb1⟩
        obtain ⟨x0, x1, x2, x3, x4⟩ := (atx.bl hb1).cells
        have hlx := (atx.bl hb1).lt
        have hly := (hat.bl (hbV.trans hb1)).lt
        obtain ⟨y0, y1, f0, f1⟩ := hat.bl (hbV.trans hb1)
        go_wp2_with fail
        refine (hord.out _).mono ?_
        rintro e w2 ⟨rfl, hb2⟩
        have hb12 := hb1.trans hb2
        clear x0 x1 x2 x3 x4 hlx hly y0 y1 f0 f1
        obtain ⟨x0, x1, x2, x3, x4⟩ := (atx.bl hb12).cells
        have hlx := (atx.bl hb12).lt
        have hly := (hat.bl (hbV.trans hb12)).lt
        have hatn := (hat.bl (hbV.trans hb12)).set x.id
        obtain ⟨y0, y1, f0, f1⟩ := hat.bl (hbV.trans hb12)
        go_wp2_with fail
        go_roundw
        case rel => exact ⟨(((hbl.trans hbV).trans hb12).setCell (Nat.le_refl _) _).setCell (Nat.le_refl _) _, k + 1, x.id, by omega, by go_num, ho.2.1, hatn, hgd.out⟩
        case measure => simp [intOf]; omega
    · have hkl : l.length ≤ k := by omega
      have g := hide (show 0 = N by rw [hN'.out, hf.out, List.drop_eq_nil_of_le hkl]; rfl)
      clear hf hN' hat
      go_wp2
      go_ret
      exact ⟨ret_int g.out, hbl⟩
end Go.Proofs.Ytedcopjpgijpjaa
