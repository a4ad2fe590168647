/-
  The walks of slices.DeleteFunc at operations, of bag.Less and bag.Find.
-/
import Derived.Test.YtedcopjpgijpjaaBagLess
namespace Go.Proofs.Ytedcopjpgijpjaa
open Go.RowKit Go.Shelf Go.Lib

theorem Own.row {base g n : Nat} {w : World} {l : List Op} (h : Own cOp 33 base w (.slice (some ⟨g, 0, none⟩) n n) l) (hn : n = l.length) :
    ∃ cs, RowAt w g 33 cs ∧ RdL cOp w (fun b => (base ≤ b ∧ b < w.heap.size) ∧ b ≠ g) l cs ∧ base ≤ g := by
  obtain ⟨cells, ⟨hcl, hnl | ⟨g', cap, cur, hv, hbg, hgc, hnc, hcm, hsz, htk⟩⟩, hr⟩ := h
  · cases hnl.1
  injection hv with hv hv1 hv2
  injection hv with hv
  injection hv with hv _
  subst hv hv2
  have h5 : cOp.size = 5 := rfl
  rw [h5] at hcl hsz htk
  have hcur : cur.toList = cells := by
    rw [← htk]
    exact (List.take_of_length_le (by rw [Array.length_toList, hsz, hn]; exact Nat.le_refl _)).symm
  refine ⟨cells, ?_, hr.keep (Keeps.refl _ _) fun b h => ⟨h.1, fun e => h.2 (by rw [e]; rfl)⟩, hbg⟩
  unfold RowAt
  rw [← hcur, Array.toArray_toList]
  exact hgc
theorem RowAt.R {w : World} {g lo : Nat} {t : TypeId} {l : List Op} {ca cb : List Value} {S : Nat → Prop} (h : RowAt w g t (ca ++ cb)) (hr : RdL cOp w S l ca) (hS : ∀ b, S b → Fresh lo w b) (hg : lo ≤ g) : R cOp lo w (some ⟨g, 0, none⟩) l :=
  ⟨ca, hr.keep (Keeps.refl _ _) hS, fun _ => ⟨g, 0, rfl, ⟨hg, h.lt⟩, h.at.left⟩⟩
theorem fil_step {l : List Op} {k : Nat} {x : Op} (p : Op → Bool) (h : l[k]? = some x) : (l.take (k + 1)).filter p = if p x then (l.take k).filter p ++ [x] else (l.take k).filter p := by
  rw [take_snoc h, List.filter_append]
  cases hp : p x <;> simp [hp]

/-- How the loop stands. -/
def DelRel (w0 : World) (g : Nat) (l : List Op) (p : Op → Bool) (vi vj : Value) (wr : World) : Prop :=
  Bl w0 wr ∧ ∃ (i j : Nat) (ca cm cb : List Value), vi = .int .i64 (i : Int) ∧ vj = .int .i64 (j : Int) ∧ i < j ∧ j ≤ l.length ∧ RowAt wr g 33 (ca ++ (cm ++ cb)) ∧
    RdL cOp wr (fun b => (w0.heap.size ≤ b ∧ b < wr.heap.size) ∧ b ≠ g) ((l.take j).filter fun x => !p x) ca ∧ cm.length = (j - i) * 5 ∧ RdL cOp wr (fun b => (w0.heap.size ≤ b ∧ b < wr.heap.size) ∧ b ≠ g) (l.drop j) cb ∧ ((l.take j).filter fun x => !p x).length = i
/-- What DeleteFunc hands out. -/
def DelPost (w0 : World) (g : Nat) (F : List Op) (e : Ending) (w' : World) : Prop := ∃ c, e = .returned (.slice (some ⟨g, 0, none⟩) F.length c) ∧ F.length ≤ c ∧ c ≤ maxLen ∧ R cOp w0.heap.size w' (some ⟨g, 0, none⟩) F ∧ Bl w0 w'

set_option maxRecDepth 100000 in
set_option maxHeartbeats 4000000 in
theorem opDeleteFunc (g Y n : Nat) (l : List Op) (p : Op → Bool) (w0 w : World) (hn : n = l.length) (hb0 : Bl w0 w) (hl : l.length ≤ 1048576) (hown : Own cOp 33 w0.heap.size w (.slice (some ⟨g, 0, none⟩) n n) l) (hp : PredO w0 Y p) :
    Calls Try.prog 43 #[.slice (some ⟨g, 0, none⟩) n n, .func (.func 44) #[] #[.pointer (some ⟨Y, 0, none⟩)]] w (DelPost w0 g (l.filter fun x => !p x)) := by
  obtain ⟨cs, hrow, hrd, hg0⟩ := hown.row hn
  have hcl : cs.length = n * 5 := by rw [hn]; exact hrd.length
  have hAl : R cOp 0 w (some ⟨g, 0, none⟩) l := RowAt.R (cb := []) (by rwa [List.append_nil]) hrd (fun b h => ⟨Nat.zero_le _, h.1.2⟩) (Nat.zero_le _)
  have hix := opIndexFunc (some ⟨g, 0, none⟩) n Y l p w0 w hb0 hl hAl hp
  rw [← hn] at hix
  replace hix := hide hix
  replace hp := hide hp
  obtain ⟨F, hF⟩ : ∃ F, F = l.filter fun x => !p x := ⟨_, rfl⟩
  rw [← hF]
  replace hF := hide hF
  have hn1 : n ≤ 1048576 := by rw [hn]; exact hl
  replace hn := hide hn
  clear hown
  go_enter Try.func43, Try.ntmps43
  go_wp2_with fail
  refine hix.out.mono ?_
  rintro e w1 ⟨r, rfl, hfst, hb1⟩
  have hb01 := hb0.trans hb1
  replace hrow := hrow.bl hb1
  replace hrd := hrd.keep (hb1.keeps fun b h => h.1.2) fun b h => (⟨⟨h.1.1, Nat.lt_of_lt_of_le h.1.2 hb1.size⟩, h.2⟩ : (w0.heap.size ≤ b ∧ b < w1.heap.size) ∧ b ≠ g)
  rcases hfst with ⟨rfl, hno⟩ | ⟨k, x, rfl, hx, hpx, hno⟩
  · have hFl : F = l := by rw [hF.out]; exact List.filter_eq_self.2 fun x hx => by rw [hno x hx]; rfl
    have hfin := hide (show DelPost w0 g F (.returned (.slice (some ⟨g, 0, none⟩) n n)) w1 from ⟨n, by rw [hFl, ← hn.out], by rw [hFl, ← hn.out]; exact Nat.le_refl _, by unfold maxLen; omega, by rw [hFl]; exact RowAt.R (cb := []) (by rwa [List.append_nil]) hrd (fun b h => h.1) hg0, hb01⟩)
    clear hno hrd hrow hAl hFl
    go_wp2_with fail
    go_ret
    exact hfin.out
  · have hkl : k < l.length := (List.getElem?_eq_some_iff.1 hx).1
    have hkn : k < n := by rw [hn.out]; exact hkl
    have hrel0 : DelRel w0 g l p (.int .i64 (k : Int)) (.int .i64 ((k : Int) + 1)) w1 := by
      have h1 := hrd
      rw [← List.take_append_drop k l, drop_cons hx] at h1
      obtain ⟨ca, cr, hcs, hra, m, cb, hcr, hm, hrb⟩ := h1.split
      subst hcr
      have hml := cOp.len hm
      have hkeep : (l.take k).filter (fun x => !p x) = l.take k := List.filter_eq_self.2 fun y hy => by rw [hno y hy]; rfl
      have hft : (l.take (k + 1)).filter (fun x => !p x) = l.take k := by rw [fil_step _ hx, hpx, hkeep]; rfl
      refine ⟨hb01, k, k + 1, ca, m, cb, rfl, by go_num, by omega, by omega, by rw [← hcs]; exact hrow, by rw [hft]; exact hra, ?_, hrb, ?_⟩
      · rw [hml, show k + 1 - k = 1 by omega]; rfl
      · rw [hft, List.length_take]; omega
    replace hrel0 := hide hrel0
    clear hno hrd hrow hAl hx hpx hcl hix
    go_wp2_with fail
    go_loopw [5, 6] (fun vi vj wr => DelRel w0 g l p vi vj wr) (fun _ vj _ => n - (RowKit.intOf vj).toNat)
    case atStart => exact hrel0.out
    case round =>
      clear hrel0
      obtain ⟨hbl, i, j, ca, cm, cb, rfl, rfl, hij, hjl, hrow, hra, hcm, hrb, hil⟩ := hrel
      have hcal : ca.length = i * 5 := by rw [hra.length, hil]; rfl
      have hgl := hrow.lt
      by_cases hlt : j < n
      · obtain ⟨y, hy⟩ := get_lt (show j < l.length by rw [← hn.out]; exact hlt)
        have hrb2 := hrb
        rw [drop_cons hy] at hrb2
        obtain ⟨m, cb', rfl, ⟨ho, B, d, hcd, hdm, rfl, hB⟩, hrb'⟩ := hrb2
        have hfs := fil_step (fun x => !p x) hy
        have hji : (j : Int) < (n : Int) := by omega
        have hpa : At wr g (j * 5) (opCells y B d) := by
          have h1 : RowAt wr g 33 ((ca ++ cm) ++ (opCells y B d ++ cb')) := by rw [List.append_assoc]; exact hrow
          have h2 := RowAt.part h1
          rw [List.length_append, hcal, hcm, show i * 5 + (j - i) * 5 = j * 5 by omega] at h2
          exact h2
        have hc0 := (hpa 0 _ rfl).1
        have hc1 := (hpa 1 _ rfl).1
        have hc2 := (hpa 2 _ rfl).1
        have hc3 := (hpa 3 _ rfl).1
        have hc4 := (hpa 4 _ rfl).1
        simp only [Nat.add_zero] at hc0
        have hnel : (opCells y B d).length = 5 := rfl
        obtain ⟨V, hV⟩ : ∃ V, V = wr.alloc (.cells #[Value.int IntKind.u8 y.kind, Value.int IntKind.u32 y.id.t, Value.int IntKind.u8 y.id.r, Value.slice B y.pl.length d, Value.int IntKind.i64 y.pt] 33) := ⟨_, rfl⟩
        have hbV : Bl wr V := by rw [hV]; exact (Bl.refl _).alloc _
        have atx : OpBox V wr.heap.size y B d := by rw [hV]; exact OpBox.new wr y B d _
        have hyin : OpIn V y B d := ⟨ho, hcd, hdm, R.bl (RS.up (S' := Fresh 0 wr) hB fun b h => ⟨Nat.zero_le _, h.1.2⟩) hbV⟩
        have hcl := hp.out V y B d (hbl.trans hbV) hyin
        have hg2 : g ≠ wr.heap.size := by omega
        cases hq : p y
        · -- it stays
          rw [hq] at hcl hfs
          simp only [Bool.not_false, if_true] at hfs
          replace hcl := hide hcl
          have hrest : ∀ w2, Bl V w2 → DelRel w0 g l p (.int .i64 ((i : Int) + 1)) (.int .i64 ((j : Int) + 1)) (w2.setCells g (i * 5) (opCells y B d)) := fun w2 hb2 => by
            have hbr := hbV.trans hb2
            obtain ⟨o5, cr, rfl, hol⟩ : ∃ o5 cr, cm = o5 ++ cr ∧ o5.length = 5 := ⟨cm.take 5, cm.drop 5, (List.take_append_drop 5 cm).symm, by rw [List.length_take, hcm]; omega⟩
            have hrow2 : RowAt (w2.setCells g (i * 5) (opCells y B d)) g 33 ((ca ++ opCells y B d) ++ ((cr ++ opCells y B d) ++ cb')) := by
              have h1 : RowAt w2 g 33 (ca ++ (o5 ++ (cr ++ (opCells y B d ++ cb')))) := by
                have := hrow.bl hbr
                simpa using this
              have h2 := RowAt.sets (opCells y B d) o5 ca w2 hol h1
              rw [hcal] at h2
              simpa using h2
            have hkp : ∀ {xs cells}, RdL cOp wr (fun b => (w0.heap.size ≤ b ∧ b < wr.heap.size) ∧ b ≠ g) xs cells → RdL cOp (w2.setCells g (i * 5) (opCells y B d)) (fun b => (w0.heap.size ≤ b ∧ b < (w2.setCells g (i * 5) (opCells y B d)).heap.size) ∧ b ≠ g) xs cells := fun h =>
              ((h.keep (hbr.keeps fun b h => h.1.2) (fun b h => (⟨⟨h.1.1, Nat.lt_of_lt_of_le h.1.2 hbr.size⟩, h.2⟩ : (w0.heap.size ≤ b ∧ b < w2.heap.size) ∧ b ≠ g))).keep (keeps_setCells (fun b h => h.2) _ _ _) fun b h => ⟨⟨h.1.1, by rw [size_setCells]; exact h.1.2⟩, h.2⟩)
            refine ⟨below_setCells hg0 _ _ (hbl.trans hbr), i + 1, j + 1, ca ++ opCells y B d, cr ++ opCells y B d, cb', by go_num, by go_num, by omega, by rw [← hn.out]; omega, hrow2, ?_, ?_, hkp hrb', ?_⟩
            · rw [hfs]
              exact RdL.append (hkp hra) (hkp (RdL.one1 ⟨ho, B, d, hcd, hdm, rfl, hB⟩))
            · rw [List.length_append, hnel]
              rw [List.length_append, hol] at hcm
              omega
            · rw [hfs, List.length_append, hil]; rfl
          replace hrest := hide hrest
          have hcells : ∀ w2, Bl V w2 → (w2.cell? ⟨g, i * 5, none⟩).isSome = true ∧ (w2.cell? ⟨g, i * 5 + 1, none⟩).isSome = true ∧ (w2.cell? ⟨g, i * 5 + 2, none⟩).isSome = true ∧ (w2.cell? ⟨g, i * 5 + 3, none⟩).isSome = true ∧ (w2.cell? ⟨g, i * 5 + 4, none⟩).isSome = true ∧ (∀ o, w2.frozen? ⟨g, o, none⟩ = false) := fun w2 hb2 => by
            have hr2 := hrow.bl (hbV.trans hb2)
            have hlen : i * 5 + 5 ≤ (ca ++ (cm ++ (opCells y B d ++ cb'))).length := by simp only [List.length_append]; omega
            have hsome : ∀ q, q < 5 → (w2.cell? ⟨g, i * 5 + q, none⟩).isSome = true := fun q hq => by
              have := (hr2.at (i * 5 + q) _ (List.getElem?_eq_getElem (by omega))).1
              rw [Nat.zero_add] at this
              rw [this]
              rfl
            exact ⟨hsome 0 (by omega), hsome 1 (by omega), hsome 2 (by omega), hsome 3 (by omega), hsome 4 (by omega), fun o => by unfold RowAt at hr2; simp [World.frozen?, hr2]⟩
          replace hcells := hide hcells
          have hii : (i : Int) < (n : Int) := by omega
          clear hq hy hfs hrow hra hrb hrb' hpa hcm hcal hil
          go_wp2_with fail
          rw [← hV]
          clear hV hc0 hc1 hc2 hc3 hc4
          refine hcl.out.mono ?_
          rintro e w2 ⟨rfl, hb2⟩
          obtain ⟨x0, x1, x2, x3, x4⟩ := (atx.bl hb2).cells
          have hlx := (atx.bl hb2).lt
          obtain ⟨z0, z1, z2, z3, z4, zf⟩ := hcells.out w2 hb2
          obtain ⟨u0, z0⟩ := Option.isSome_iff_exists.1 z0
          obtain ⟨u1, z1⟩ := Option.isSome_iff_exists.1 z1
          obtain ⟨u2, z2⟩ := Option.isSome_iff_exists.1 z2
          obtain ⟨u3, z3⟩ := Option.isSome_iff_exists.1 z3
          obtain ⟨u4, z4⟩ := Option.isSome_iff_exists.1 z4
          have hlg : g < w2.heap.size := World.block_lt_of_cell? _ _ z0
          have zf0 := zf (i * 5)
          have zf1 := zf (i * 5 + 1)
          have zf2 := zf (i * 5 + 2)
          have zf3 := zf (i * 5 + 3)
          have zf4 := zf (i * 5 + 4)
          have hgx : wr.heap.size ≠ g := fun e => hg2 e.symm
          have hrr := hide (hrest.out w2 hb2)
          clear hcells hrest zf
          go_wp2_with fail
          go_roundw
          case rel => exact ⟨_, _, _, _, _, _, _, _, _, _, _, _, _, _, _, _, _, _, _, _, _, _, _, hrr.out, rfl⟩
          case measure => simp [RowKit.intOf]; omega
        · -- it goes
          rw [hq] at hcl hfs
          simp only [Bool.not_true, Bool.false_eq_true, if_false] at hfs
          replace hcl := hide hcl
          have hrest : ∀ w2, Bl V w2 → DelRel w0 g l p (.int .i64 (i : Int)) (.int .i64 ((j : Int) + 1)) w2 := fun w2 hb2 => by
            have hbr := hbV.trans hb2
            have hkp : ∀ {xs cells}, RdL cOp wr (fun b => (w0.heap.size ≤ b ∧ b < wr.heap.size) ∧ b ≠ g) xs cells → RdL cOp w2 (fun b => (w0.heap.size ≤ b ∧ b < w2.heap.size) ∧ b ≠ g) xs cells := fun h =>
              h.keep (hbr.keeps fun b h => h.1.2) (fun b h => ⟨⟨h.1.1, Nat.lt_of_lt_of_le h.1.2 hbr.size⟩, h.2⟩)
            refine ⟨hbl.trans hbr, i, j + 1, ca, cm ++ opCells y B d, cb', rfl, by go_num, by omega, by rw [← hn.out]; omega, by have := hrow.bl hbr; simpa using this, by rw [hfs]; exact hkp hra, ?_, hkp hrb', by rw [hfs]; exact hil⟩
            rw [List.length_append, hcm, hnel]
            omega
          replace hrest := hide hrest
          clear hq hy hfs hrow hra hrb hrb' hpa hcm hcal hil
          go_wp2_with fail
          rw [← hV]
          clear hV hc0 hc1 hc2 hc3 hc4
          refine hcl.out.mono ?_
          rintro e w2 ⟨rfl, hb2⟩
          have hrr := hide (hrest.out w2 hb2)
          clear hrest
          go_wp2_with fail
          go_roundw
          case rel => exact ⟨_, _, _, _, _, _, _, _, _, _, _, _, _, _, _, _, _, _, _, _, _, _, _, hrr.out, rfl⟩
          case measure => simp [RowKit.intOf]; omega
      · have hjn : j = n := by rw [hn.out] at hlt ⊢; omega
        have hjl' : j = l.length := by rw [hjn]; exact hn.out
        rw [hjl', List.take_length, ← hF.out] at hra hil
        rw [hjl', List.drop_length] at hrb
        obtain rfl : cb = [] := hrb
        rw [List.append_nil] at hrow
        have hcm' : cm.length = (n - i) * 5 := by rw [hcm, hjn]
        have hin : i < n := by omega
        have hcll : ca.length + cm.length = n * 5 := by rw [hcal, hcm']; omega
        have hclr : ∀ ty cc, (Builtin.clear_ #[22] ty #[.slice (some ⟨g, i * 5, none⟩) (n - i) cc]).run Try.prog wr = .ok (.tuple #[]) (wr.setCells g (i * 5) (Builtin.zeroCells zeroO.cells (n - i)).toList) := fun ty cc =>
          run_clear_ops wr ty g (i * 5) (n - i) cc (by omega) (fun q hq => by
            have := (hrow.at (i * 5 + q) _ (List.getElem?_eq_getElem (by rw [List.length_append]; omega))).1
            rw [Nat.zero_add] at this
            rw [this]
            rfl) (fun q hq => by have h := hrow; unfold RowAt at h; simp [World.frozen?, h])
        have hfin := hide (show DelPost w0 g F (.returned (.slice (some ⟨g, 0, none⟩) i n)) (wr.setCells g (i * 5) (Builtin.zeroCells zeroO.cells (n - i)).toList) from by
          have h2 : RowAt (wr.setCells g (i * 5) (Builtin.zeroCells zeroO.cells (n - i)).toList) g 33 (ca ++ (Builtin.zeroCells zeroO.cells (n - i)).toList) := by
            have := RowAt.sets (q := []) (Builtin.zeroCells zeroO.cells (n - i)).toList cm ca wr (by rw [zero_len, hcm']) (by rwa [List.append_nil])
            rw [hcal, List.append_nil] at this
            exact this
          have h3 := hra.keep (w' := wr.setCells g (i * 5) (Builtin.zeroCells zeroO.cells (n - i)).toList) (S' := fun b => (w0.heap.size ≤ b ∧ b < (wr.setCells g (i * 5) (Builtin.zeroCells zeroO.cells (n - i)).toList).heap.size) ∧ b ≠ g) (keeps_setCells (fun b h => h.2) _ _ _) fun b h => ⟨⟨h.1.1, by rw [size_setCells]; exact h.1.2⟩, h.2⟩
          exact ⟨n, by rw [hil], by rw [hil]; omega, by unfold maxLen; omega, RowAt.R h2 h3 (fun b h => h.1) hg0, below_setCells hg0 _ _ hbl⟩)
        have hjn' : ¬ (j : Int) < (n : Int) := by omega
        have hni : ¬ (n = i) := by omega
        have hii : (i : Int) ≤ (n : Int) := by omega
        have hi0 : (0 : Int) ≤ (i : Int) := by omega
        generalize (Builtin.zeroCells zeroO.cells (n - i)).toList = ZC at hclr hfin
        clear hra hrow hcm hcm' hcll hil hcal
        replace hjn := hide hjn
        replace hjl' := hide hjl'
        go_wp2_with (at_builtin; refine wpList_clear_runO _ rfl _ _ rfl _ rfl (hclr _ _) ?_)
        go_ret
        exact hfin.out
end Go.Proofs.Ytedcopjpgijpjaa
