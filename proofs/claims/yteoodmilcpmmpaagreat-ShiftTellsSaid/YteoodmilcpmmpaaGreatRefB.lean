/-
  The walk of BagLess.
  References: In of layer 7; Spans, In of layer 8.
  The walks of layer 11's references Twin, Same, May, Of, Has.
  The walks of layer 11's references Of, Has, With, Both.
  The walks of layer 11's references Both, Add, Join, Left, Less, and of In of the layers 7, 8.
  The walks of layer 11's references Left and Less; and that what the references reckon is what the program does.
-/
import Derived.Test.YteoodmilcpmmpaaGreatLessB
import Derived.Test.YteoodmilcpmmpaaGreatBagC
import Derived.Test.YteoodmilcpmmpaaGreatSpanB
import Derived.Test.YteoodmilcpmmpaaGreatBox
import Derived.Test.YteoodmilcpmmpaaGreatRefA
import Derived.Test.YteoodmilcpmmpaaGreatOwnA
import Derived.Test.YteoodmilcpmmpaaGreatBagOrder
namespace Go.Proofs.YteoodmilcpmmpaaGreat

open Go.RowKit

end Go.Proofs.YteoodmilcpmmpaaGreat

namespace Go.Proofs.YteoodmilcpmmpaaGreat

open Go.RowKit

end Go.Proofs.YteoodmilcpmmpaaGreat

namespace Go.Proofs.YteoodmilcpmmpaaGreat

open Go.RowKit

/-- Small enough to be copied. -/
def copyB (l : List Op) : Prop := l.length ≤ 1048576 ∧ ∀ x ∈ l, x.pl.length ≤ 8796093022208

set_option maxRecDepth 100000 in
set_option maxHeartbeats 1000000 in
theorem refTwin10 (A : Option Addr) (c : Nat) (l : List Op) (w : World) (hl : copyB l) (hA : R cOp 0 w A l) :
    Calls Tryz.prog 35 #[.slice A l.length c] w (New cOp l w) := by
  obtain ⟨i0, hi, hz0, hz1, hz2⟩ := info_parts Tryz.infoOp
  obtain ⟨hl, hsm⟩ := hl
  replace hsm := hide hsm
  go_enter Tryz.func35, Tryz.ntmps35
  go_wp2
  go_loopw [3, 4] (fun v i wr => Bl w wr ∧ ∃ k : Nat, k ≤ l.length ∧ i = .int .i64 k ∧ Own cOp 47 w.heap.size wr v (l.take k)) (fun _ i _ => l.length - (intOf i).toNat)
  case atStart => exact ⟨Bl.refl _, 0, Nat.zero_le _, rfl, Own.nil⟩
  case round =>
    obtain ⟨hbl, k, hk, rfl, hown⟩ := hrel
    by_cases hlt : k < l.length
    · have hR := hA.bl hbl
      obtain ⟨b, off, rfl, _, hb⟩ := hR.addr (by omega)
      obtain ⟨x, hx⟩ := get_lt hlt
      obtain ⟨_, ho, S, sc, s1, s2, hS, c0, c1, c2, c3, c4⟩ := hR.op hx
      have hts := hide (take_snoc hx)
      have hxs := hsm.out x (List.mem_of_getElem? hx)
      have hki : (k : Int) < (l.length : Int) := by omega
      clear hx
      go_wp2_with (first
        | (go_at_call 92; refine (refTwin09 x S sc _ ⟨ho, s1, s2, hS⟩ hxs).mono ?_; rintro e w1 ⟨A1, n1, rfl, h1, h2, hr1, hb1⟩; have hW1 : wr.heap.size ≤ w1.heap.size := hb1.size; have hsz := hbl.size)
        | (at_builtin
           refine wpList_append_any2 (C := cOp) (xs := l.take k) (ys := [x]) rfl (.tmp 11) (.tmp 17) _ rfl 47 i0 _ 48 Tryz.underlying22 hi hz0 hz1 hz2 rfl _ w.heap.size rfl ((hown.bl hb1).bl ((Bl.refl _).alloc _)) (some ⟨w1.heap.size, 0, none⟩) 1 _ rfl rfl (hown.src (cs := opCells x A1 n1) hb1 hsz ⟨ho, A1, n1, h1, h2, rfl, hr1⟩) ?c1 ?c2 ?c3 ?_
           case c1 => simp [maxLen]; omega
           case c2 => simp; omega
           case c3 => simp; omega
           intro v2 w2 hown2 hg2 _
           have hbl2 : Bl w w2 := ((hbl.trans hb1).alloc _).app ((hown.bl hb1).bl ((Bl.refl _).alloc _)) (Nat.le_refl _) hg2))
      go_roundw
      case rel => exact ⟨hbl2, k + 1, by omega, by go_num, by rw [hts.out]; exact hown2⟩
      case measure => simp [intOf]; omega
    · have hkl : l.length ≤ k := by omega
      go_wp2
      go_ret
      rw [List.take_of_length_le hkl] at hown
      obtain ⟨A', c', rfl, hr, h1, h2⟩ := hown.reads
      exact ⟨A', c', rfl, h1, h2, hr, hbl⟩

set_option maxHeartbeats 400000 in
theorem refTwin11 (A : Option Addr) (c : Nat) (l : List Op) (w : World) (hl : copyB l) (hA : R cOp 0 w A l) :
    Calls Tryz.prog 10 #[.slice A l.length c] w (New cOp l w) := by
  go_enter Tryz.func10, Tryz.ntmps10
  go_wp2_with fail
  refine (refTwin10 A c l _ hl hA).mono ?_
  rintro e w1 ⟨A1, c1, rfl, h1, h2, hr, hb⟩
  go_wp2_with fail
  go_ret
  exact ⟨A1, c1, rfl, h1, h2, hr, hb⟩

set_option maxHeartbeats 400000 in
theorem refSame11 (A B : Option Addr) (c d : Nat) (l m : List Op) (w : World) (hl : l.length ≤ maxLen) (hm : m.length ≤ maxLen) (hA : R cOp 0 w A l) (hB : R cOp 0 w B m) :
    Calls Tryz.prog 16 #[.slice A l.length c, .slice B m.length d] w fun e w' => e = .returned (.bool (same l m)) ∧ Bl w w' := by
  go_enter Tryz.func16, Tryz.ntmps16
  go_wp2_with fail
  refine (refSame10 A B c d l m _ hl hm hA hB).mono ?_
  rintro e w1 ⟨rfl, hb⟩
  go_wp2_with fail
  go_ret
  exact ⟨rfl, hb⟩

set_option maxRecDepth 100000 in
set_option maxHeartbeats 2000000 in
theorem refMay11 (A : Option Addr) (c : Nat) (l : List Op) (w : World) (hl : l.length ≤ maxLen) (hA : R cOp 0 w A l) :
    Calls Tryz.prog 44 #[.slice A l.length c] w fun e w' => e = .returned (.bool (bagMay l)) ∧ Bl w w' := by
  unfold maxLen at hl
  obtain ⟨N, hN⟩ : ∃ N, N = bagMay l := ⟨_, rfl⟩
  rw [← hN]
  by_cases hbig : 1024 < l.length
  · have g := hide (show false = N by rw [hN]; unfold bagMay; rw [decide_eq_false (show ¬ l.length ≤ 1024 by omega)]; rfl)
    have hd : decide ((l.length : Int) ≤ 1024) = false := by simp; omega
    clear hN
    go_enter Tryz.func44, Tryz.ntmps44
    go_wp2
    go_loopw [3] (fun i wr => Bl w wr ∧ i = .int .i64 0) (fun _ _ => 0)
    case atStart => exact ⟨Bl.refl _, rfl⟩
    case round =>
      obtain ⟨hbl, rfl⟩ := hrel
      have hd2 : (0 : Int) < (l.length : Int) := by omega
      go_wp2
      go_ret
      exact ⟨ret_bool g.out, hbl⟩
  have hN' := hide (show N = bagFrom ⟨0, 0⟩ l by rw [hN]; unfold bagMay; rw [decide_eq_true (show l.length ≤ 1024 by omega)]; rfl)
  clear hN
  have h64 : decide ((l.length : Int) ≤ 1024) = true := by simp; omega
  go_enter Tryz.func44, Tryz.ntmps44
  go_wp2
  go_loopw [3] (fun i wr => Bl w wr ∧ ∃ (k : Nat) (last : Id), k ≤ l.length ∧ i = .int .i64 k ∧ (k = 0 ∧ last = ⟨0, 0⟩ ∨ ∃ q : Op, 0 < k ∧ l[k - 1]? = some q ∧ last = q.id) ∧ Hid (bagFrom ⟨0, 0⟩ l = bagFrom last (l.drop k))) (fun i _ => l.length - (intOf i).toNat)
  case atStart => exact ⟨Bl.refl _, 0, ⟨0, 0⟩, Nat.zero_le _, rfl, .inl ⟨rfl, rfl⟩, rfl⟩
  case round =>
    obtain ⟨hbl, k, last, hk, rfl, hprev, hf⟩ := hrel
    by_cases hlt : k < l.length
    · have hR := hA.bl hbl
      obtain ⟨b, off, rfl, _, hb⟩ := hR.addr (by omega)
      obtain ⟨x, hx⟩ := get_lt hlt
      obtain ⟨_, ho, S, sc, s1, s2, hS, c0, c1, c2, c3, c4⟩ := hR.op hx
      have hdr := hide (drop_cons hx)
      have hki : (k : Int) < (l.length : Int) := by omega
      have hki2 : decide ((k : Int) < (l.length : Int)) = true := by simpa using hki
      have hxo : OpIn wr x S sc := ⟨ho, s1, s2, hS⟩
      have hmay := fun pw : Wd wr => refMay09 x S sc pw.v (hxo.bl pw.h)
      have C0 := fun p : Wd wr => Wd.cell c0 hb p
      have C1 := fun p : Wd wr => Wd.cell c1 hb p
      have C2 := fun p : Wd wr => Wd.cell c2 hb p
      have C3 := fun p : Wd wr => Wd.cell c3 hb p
      have C4 := fun p : Wd wr => Wd.cell c4 hb p
      clear c0 c1 c2 c3 c4
      have hno : (opMay x && idLess last x.id) = false → false = N := fun h => by rw [hN'.out, bagFrom_bad hf.out hdr.out h]
      replace hno := hide hno
      cases hq : opMay x
      · rw [hq] at hmay
        have g := hide (hno.out (by rw [hq]; rfl))
        replace hmay := hide hmay
        clear hq hno hdr hf hprev hx hN'
        go_wp2
        (refine wp_region_wd (by kernel_rfl) (by kernel_rfl) ?_
         repeat (go_big_quiet_step ((go_at_call 82; exact Calls.wd (hmay.out _))))
         refine wpQuiet_nil ?_
         intro w2 hw'
         obtain ⟨⟨wx, hb2⟩, hw''⟩ := hw'
         subst hw'')
        go_wp2
        go_ret
        exact ⟨ret_bool g.out, hbl.trans hb2⟩
      · rw [hq] at hmay
        replace hmay := hide hmay
        have hrel : ∀ W, Bl w W → idLess last x.id = true → Bl w W ∧ ∃ (k' : Nat) (last' : Id), k' ≤ l.length ∧ Value.int .i64 ((k : Int) + 1) = .int .i64 k' ∧ (k' = 0 ∧ last' = ⟨0, 0⟩ ∨ ∃ q : Op, 0 < k' ∧ l[k' - 1]? = some q ∧ last' = q.id) ∧ Hid (bagFrom ⟨0, 0⟩ l = bagFrom last' (l.drop k')) := fun W hW hB =>
          ⟨hW, k + 1, x.id, by omega, by go_num, .inr ⟨x, by omega, by rw [Nat.add_sub_cancel]; exact hx, rfl⟩, bagFrom_good hf.out hdr.out hq hB⟩
        replace hrel := hide hrel
        rcases hprev with ⟨hk0, rfl⟩ | ⟨q, hk0, hqp, rfl⟩
        · have hls := hide (opMay_less hq)
          have hd0 : decide (0 < k) = false := by simp; omega
          clear hq hno hdr hf hx hN' hk0
          go_wp2
          (refine wp_region_wd (by kernel_rfl) (by kernel_rfl) ?_
           repeat (go_big_quiet_step ((go_at_call 82; exact Calls.wd (hmay.out _))))
           refine wpQuiet_nil ?_
           intro w2 hw'
           obtain ⟨⟨wx, hb2⟩, hw''⟩ := hw'
           subst hw'')
          go_wp2
          go_roundw
          case rel => exact hrel.out _ (hbl.trans hb2) hls.out
          case measure => simp [intOf]; omega
        · obtain ⟨_, hoq, S', sc', s1', s2', hS', d0, d1, d2, d3, d4⟩ := hR.op hqp
          have hd0 : decide (0 < k) = true := by simp; omega
          obtain ⟨j, hj⟩ : ∃ j, j = k - 1 := ⟨_, rfl⟩
          rw [← hj] at d1 d2
          have hkj : (k : Int) - 1 = (j : Int) := by omega
          have hjl : (j : Int) < (l.length : Int) := by omega
          have hjk : j < l.length := by omega
          have D1 := fun p : Wd wr => Wd.cell d1 hb p
          have D2 := fun p : Wd wr => Wd.cell d2 hb p
          have hless := fun pw : Wd wr => refLess05 q.id x.id pw.v
          clear hj d0 d1 d2 d3 d4 hqp
          cases hs : idLess q.id x.id
          · rw [hs] at hless
            have g := hide (hno.out (by rw [hs, Bool.and_false]))
            replace hless := hide hless
            clear hq hno hdr hf hx hN' hs hrel
            go_wp2
            (refine wp_region_wd (by kernel_rfl) (by kernel_rfl) ?_
             repeat (go_big_quiet_step ((first | (go_at_call 82; exact Calls.wd (hmay.out _)) | (go_at_call 100; exact Calls.wd (hless.out _)))))
             refine wpQuiet_nil ?_
             intro w2 hw'
             obtain ⟨⟨wx, hb2⟩, hw''⟩ := hw'
             subst hw'')
            go_wp2
            go_ret
            exact ⟨ret_bool g.out, hbl.trans hb2⟩
          · rw [hs] at hless
            have hls := hide hs
            replace hless := hide hless
            clear hq hno hdr hf hx hN' hs
            go_wp2
            (refine wp_region_wd (by kernel_rfl) (by kernel_rfl) ?_
             repeat (go_big_quiet_step ((first | (go_at_call 82; exact Calls.wd (hmay.out _)) | (go_at_call 100; exact Calls.wd (hless.out _)))))
             refine wpQuiet_nil ?_
             intro w2 hw'
             obtain ⟨⟨wx, hb2⟩, hw''⟩ := hw'
             subst hw'')
            go_wp2
            go_roundw
            case rel => exact hrel.out _ (hbl.trans hb2) hls.out
            case measure => simp [intOf]; omega
    · have hkl : l.length ≤ k := by omega
      have g := hide (show true = N by rw [hN'.out, hf.out, List.drop_eq_nil_of_le hkl]; rfl)
      have hki2 : decide ((k : Int) < (l.length : Int)) = false := by simp; omega
      clear hf hN' hprev
      go_wp2
      go_ret
      exact ⟨ret_bool g.out, hbl⟩

end Go.Proofs.YteoodmilcpmmpaaGreat

namespace Go.Proofs.YteoodmilcpmmpaaGreat

open Go.RowKit

def OfIs (l : List Op) (s : Id) (x : Op) : Prop := if hasId l s then x ∈ l ∧ x.id = s else x = ⟨0, ⟨0, 0⟩, [], 0⟩

/-- Whatever blocks tell the bag, tell its place. -/
def OfLies (B : Option Addr) (l : List Op) (x : Op) (A : Option Addr) (w : World) : Prop := ∀ Z : Nat → Prop, RS cOp w Z B l → RS cRun w Z A x.pl

theorem of_lies {B S : Option Addr} {b off k sc : Nat} {l : List Op} {x : Op} {w : World} (hB : B = some ⟨b, off, none⟩) (hx : l[k]? = some x) (c3 : w.cell? ⟨b, off + k * 5 + 3, none⟩ = some (.slice S x.pl.length sc)) : OfLies B l x S w := fun Z h => by
  subst hB
  obtain ⟨_, m, ⟨ho, A', c', a1, a2, rfl, hr⟩, ha⟩ := RS.get h hx
  have h3 := (ha 3 _ rfl).1
  rw [show cOp.size = 5 from rfl, c3] at h3
  injection h3 with h3
  injection h3 with h3 _ _
  rw [h3]
  exact hr

def OfPost (B : Option Addr) (l : List Op) (s : Id) (w : World) (e : Ending) (w' : World) : Prop := ∃ x A c, e = .returned (.tuple #[.agg #[.int .u8 x.kind, .int .u32 x.id.t, .int .u8 x.id.r, .slice A x.pl.length c, .int .i64 x.pt], .bool (hasId l s)]) ∧ OfIs l s x ∧ OfLies B l x A w ∧ OpIn w' x A c ∧ Bl w w'

set_option maxRecDepth 100000 in
set_option maxHeartbeats 2000000 in
theorem refOf11 (B : Option Addr) (c : Nat) (l : List Op) (s : Id) (w : World) (hl : l.length ≤ maxLen) (hA : R cOp 0 w B l) :
    Calls Tryz.prog 138 #[.slice B l.length c, .agg #[.int .u32 s.t, .int .u8 s.r]] w (OfPost B l s w) := by
  unfold maxLen at hl
  obtain ⟨W, hW⟩ : ∃ W, W = (w.alloc (.cells #[Value.int IntKind.u32 s.t, Value.int IntKind.u8 s.r] 25)).alloc (.cells #[Value.int IntKind.u8 0, Value.int IntKind.u32 0, Value.int IntKind.u8 0, Value.slice none 0 0, Value.int IntKind.i64 0] 47) := ⟨_, rfl⟩
  have hbW : Bl w W := by rw [hW]; exact ((Bl.refl _).alloc _).alloc _
  have at0 : IdBox W w.heap.size s := by rw [hW]; exact (IdBox.new w s _).bl ((Bl.refl _).alloc _)
  have at1 : OpBox W (w.heap.size + 1) ⟨0, ⟨0, 0⟩, [], 0⟩ none 0 := by
    rw [hW]
    have := OpBox.new (w.alloc (.cells #[Value.int IntKind.u32 s.t, Value.int IntKind.u8 s.r] 25)) ⟨0, ⟨0, 0⟩, [], 0⟩ none 0 47
    rw [World.size_alloc] at this
    exact this
  have hzok : (⟨0, ⟨0, 0⟩, [], 0⟩ : Op).ok := by unfold Op.ok Id.ok u8ok i64ok; decide
  obtain ⟨T, hT⟩ : ∃ T, T = hasId l s := ⟨_, rfl⟩
  have hpost : ∀ (x : Op) (A : Option Addr) (c : Nat) (V : World), OfIs l s x → OfLies B l x A w → x.ok → x.pl.length ≤ c → c ≤ maxLen → R cRun 0 w A x.pl → Bl W V → OfPost B l s w (.returned (.tuple #[.agg #[.int .u8 x.kind, .int .u32 x.id.t, .int .u8 x.id.r, .slice A x.pl.length c, .int .i64 x.pt], .bool T])) (((((V.setCell ⟨w.heap.size + 1, 0, none⟩ (.int .u8 x.kind)).setCell ⟨w.heap.size + 1, 1, none⟩ (.int .u32 x.id.t)).setCell ⟨w.heap.size + 1, 2, none⟩ (.int .u8 x.id.r)).setCell ⟨w.heap.size + 1, 3, none⟩ (.slice A x.pl.length c)).setCell ⟨w.heap.size + 1, 4, none⟩ (.int .i64 x.pt)) := fun x A c V his hli ho h1 h2 hR hV => by
    have hb : Bl w (((((V.setCell ⟨w.heap.size + 1, 0, none⟩ (.int .u8 x.kind)).setCell ⟨w.heap.size + 1, 1, none⟩ (.int .u32 x.id.t)).setCell ⟨w.heap.size + 1, 2, none⟩ (.int .u8 x.id.r)).setCell ⟨w.heap.size + 1, 3, none⟩ (.slice A x.pl.length c)).setCell ⟨w.heap.size + 1, 4, none⟩ (.int .i64 x.pt)) :=
      (((((hbW.trans hV).setCell (by simp) _).setCell (by simp) _).setCell (by simp) _).setCell (by simp) _).setCell (by simp) _
    exact ⟨x, A, c, by rw [hT], his, hli, ⟨ho, h1, h2, hR.bl hb⟩, hb⟩
  replace hpost := hide hpost
  replace hT := hide hT
  go_enter Tryz.func138, Tryz.ntmps138
  go_wp2_with fail
  rw [← hW]
  clear hW
  go_loopw [6] (fun i wr => Bl W wr ∧ ∃ k : Nat, k ≤ l.length ∧ i = .int .i64 k ∧ Hid (∀ y ∈ l.take k, y.id ≠ s)) (fun i _ => l.length - (intOf i).toNat)
  case atStart => exact ⟨Bl.refl _, 0, Nat.zero_le _, rfl, fun y hy => by simp at hy⟩
  case round =>
    obtain ⟨hbl, k, hk, rfl, hf⟩ := hrel
    by_cases hlt : k < l.length
    · obtain ⟨b, off, rfl, _, hb⟩ := hA.addr (by omega)
      obtain ⟨x, hx⟩ := get_lt hlt
      obtain ⟨_, ho, S, sc, s1, s2, hS, c0, c1, c2, c3, c4⟩ := hA.op hx
      have hki : (k : Int) < (l.length : Int) := by omega
      have hbwr := hbW.trans hbl
      have hbr := Nat.lt_of_lt_of_le hb hbwr.size
      have hsl := (at0.bl hbl).lt
      have C1 := fun p : Wd wr => Wd.cell ((hbwr.cell hb).trans c1) hbr p
      have C2 := fun p : Wd wr => Wd.cell ((hbwr.cell hb).trans c2) hbr p
      have S0 := fun p : Wd wr => Wd.cell (at0.bl hbl).c0 hsl p
      have S1 := fun p : Wd wr => Wd.cell (at0.bl hbl).c1 hsl p
      have heq := run_eqId x.id s
      cases hq : neqId x.id s
      · rw [hq] at heq
        have g := hide (show true = T by
          rw [hT.out, eq_comm]
          unfold hasId
          rw [List.any_eq_true]
          exact ⟨x, List.mem_of_getElem? hx, by simpa using neqId_false hq⟩)
        have hfin := hide (fun V (hV : Bl W V) => hpost.out x S sc V (by unfold OfIs; rw [if_pos (hT.out.symm.trans g.out.symm)]; exact ⟨List.mem_of_getElem? hx, neqId_false hq⟩) (of_lies rfl hx c3) ho s1 s2 hS hV)
        rw [← g.out] at hfin
        clear hq hx hf
        go_wp2
        (refine wp_region_wd (by kernel_rfl) (by kernel_rfl) ?_
         repeat (go_big_quiet_step ((fail)))
         refine wpQuiet_nil ?_
         intro w2 hw'
         obtain ⟨⟨wx, hb2⟩, hw''⟩ := hw'
         subst hw'')
        have hb02 := hbwr.trans hb2
        have hbW2 := hbl.trans hb2
        replace c0 := (hb02.cell hb).trans c0
        replace c1 := (hb02.cell hb).trans c1
        replace c2 := (hb02.cell hb).trans c2
        replace c3 := (hb02.cell hb).trans c3
        replace c4 := (hb02.cell hb).trans c4
        have hb2l := Nat.lt_of_lt_of_le hb hb02.size
        obtain ⟨y0, y1, y2, y3, y4⟩ := (at1.bl hbW2).cells
        obtain ⟨f0, f1, f2, f3, f4⟩ := (at1.bl hbW2).frozens
        have hyl := (at1.bl hbW2).lt
        clear C1 C2 S0 S1
        go_wp2
        refine bodyPost_ret (v := .tuple #[.agg #[.int .u8 x.kind, .int .u32 x.id.t, .int .u8 x.id.r, .slice S x.pl.length sc, .int .i64 x.pt], .bool true]) (by simp [results, Tryz.results138, go_sem, y0, y1, y2, y3, y4]) rfl ?_
        exact hfin.out w2 hbW2
      · rw [hq] at heq
        have g := hide (show ∀ y ∈ l.take (k + 1), y.id ≠ s from fun y hy => by
          rw [take_snoc hx, List.mem_append] at hy
          rcases hy with hy | hy
          · exact hf.out y hy
          · rw [List.mem_singleton] at hy; subst hy; exact neqId_true hq)
        clear hq hx hf c0 c1 c2 c3 c4
        go_wp2
        (refine wp_region_wd (by kernel_rfl) (by kernel_rfl) ?_
         repeat (go_big_quiet_step ((fail)))
         refine wpQuiet_nil ?_
         intro w2 hw'
         obtain ⟨⟨wx, hb2⟩, hw''⟩ := hw'
         subst hw'')
        go_wp2
        go_roundw
        case rel => exact ⟨hbl.trans hb2, k + 1, by omega, by go_num, g.out⟩
        case measure => simp [intOf]; omega
    · have hkl : k = l.length := by omega
      have g := hide (show false = T by
        rw [hT.out, eq_comm]
        unfold hasId
        rw [List.any_eq_false]
        intro x hx
        have := hf.out x (by rw [hkl, List.take_length]; exact hx)
        simpa using this)
      have hfin := hide (fun V (hV : Bl W V) => hpost.out ⟨0, ⟨0, 0⟩, [], 0⟩ none 0 V (by unfold OfIs; rw [hT.out.symm.trans g.out.symm]; rfl) (fun Z _ => RS.nil) hzok (Nat.le_refl _) (Nat.zero_le _) R.nil hV)
      rw [← g.out] at hfin
      obtain ⟨y0, y1, y2, y3, y4⟩ := (at1.bl hbl).cells
      obtain ⟨f0, f1, f2, f3, f4⟩ := (at1.bl hbl).frozens
      have hyl := (at1.bl hbl).lt
      clear hf
      go_wp2
      refine bodyPost_ret (v := .tuple #[.agg #[.int .u8 0, .int .u32 0, .int .u8 0, .slice none 0 0, .int .i64 0], .bool false]) (by simp [results, Tryz.results138, go_sem, y0, y1, y2, y3, y4]) rfl ?_
      exact hfin.out wr hbl

set_option maxRecDepth 100000 in
set_option maxHeartbeats 1000000 in
theorem refHas11 (A : Option Addr) (c : Nat) (l : List Op) (s : Id) (w : World) (hl : l.length ≤ maxLen) (hA : R cOp 0 w A l) :
    Calls Tryz.prog 84 #[.slice A l.length c, .agg #[.int .u32 s.t, .int .u8 s.r]] w fun e w' => e = .returned (.bool (hasId l s)) ∧ Bl w w' := by
  have hb0 : ∀ o, Bl w (w.alloc o) := fun _ => (Bl.refl _).alloc _
  have hof := hide (fun W (hb : Bl w W) => refOf11 A c l s W hl (hA.bl hb))
  go_enter Tryz.func84, Tryz.ntmps84
  go_wp2_with fail
  refine (hof.out _ (hb0 _)).mono ?_
  rintro e w1 ⟨x, S, d, rfl, -, -, -, hb1⟩
  go_wp2_with fail
  go_ret
  exact ⟨rfl, ((hb0 _).trans hb1).alloc _⟩

theorem filO_step {l : List Op} {k : Nat} {x : Op} (p : Op → Bool) (h : l[k]? = some x) : (l.take (k + 1)).filter p = if p x then (l.take k).filter p ++ [x] else (l.take k).filter p := by
  rw [take_snoc h, List.filter_append]
  cases hp : p x <;> simp [hp]

def withB (l : List Op) (o : Op) : List Op := if hasId l o.id then l else ((l.filter fun x => idLess x.id o.id) ++ [o]) ++ l.filter fun x => idLess o.id x.id

set_option maxRecDepth 100000 in
set_option maxHeartbeats 4000000 in
theorem refWith11 (A S : Option Addr) (c d : Nat) (l : List Op) (o : Op) (w : World) (hl : l.length ≤ 1000000) (hlc : l.length ≤ c) (hcm : c ≤ maxLen) (hA : R cOp 0 w A l) (ho : OpIn w o S d) :
    Calls Tryz.prog 142 #[.slice A l.length c, .agg #[.int .u8 o.kind, .int .u32 o.id.t, .int .u8 o.id.r, .slice S o.pl.length d, .int .i64 o.pt]] w (NewA cOp (withB l o) w) := by
  obtain ⟨i0, hi, hz0, hz1, hz2⟩ := info_parts Tryz.infoOp
  have hlm : l.length ≤ maxLen := by unfold maxLen; omega
  have hL : ∃ L, L = withB l o := ⟨_, rfl⟩
  obtain ⟨L, hL⟩ := hL
  rw [← hL]
  obtain ⟨W, hW⟩ : ∃ W, W = w.alloc (.cells #[Value.int IntKind.u8 o.kind, Value.int IntKind.u32 o.id.t, Value.int IntKind.u8 o.id.r, Value.slice S o.pl.length d, Value.int IntKind.i64 o.pt] 47) := ⟨_, rfl⟩
  have hbW : Bl w W := by rw [hW]; exact (Bl.refl _).alloc _
  have hat : OpBox W w.heap.size o S d := by rw [hW]; exact OpBox.new w o S d _
  have hhas := fun V (hb : Bl w V) => refHas11 A c l o.id V hlm (hA.bl hb)
  have hrdo : cOp.rd w (Fresh 0 w) o (opCells o S d) := ⟨ho.ok, S, d, ho.h1, ho.h2, rfl, ho.hR⟩
  cases hh : hasId l o.id
  rotate_left
  · rw [hh] at hhas
    have e1 := hide (show L = l by rw [hL]; unfold withB; rw [hh]; rfl)
    replace hhas := hide hhas
    clear hL hh hat hrdo
    go_enter Tryz.func142, Tryz.ntmps142
    go_wp2_with fail
    rw [← hW]
    clear hW
    refine (hhas.out _ hbW).mono ?_
    rintro e w1 ⟨rfl, hb1⟩
    go_wp2_with fail
    go_ret
    rw [e1.out]
    exact ⟨A, c, rfl, hlc, hcm, hA.bl (hbW.trans hb1), hbW.trans hb1⟩
  rw [hh] at hhas
  have e1 := hide (show L = ((l.filter fun x => idLess x.id o.id) ++ [o]) ++ l.filter fun x => idLess o.id x.id by rw [hL]; unfold withB; rw [hh]; rfl)
  replace hhas := hide hhas
  clear hL hh
  have hwW := hbW.size
  go_enter Tryz.func142, Tryz.ntmps142
  go_wp2_with fail
  rw [← hW]
  clear hW
  refine (hhas.out _ hbW).mono ?_
  rintro e w1 ⟨rfl, hb1⟩
  have hbw1 := hbW.trans hb1
  have hz1w := hb1.size
  go_wp2_with fail
  go_loopw [5, 6] (fun v i wr => Bl w1 wr ∧ ∃ k : Nat, k ≤ l.length ∧ i = .int .i64 k ∧ OwnA cOp 47 w1.heap.size wr v ((l.take k).filter fun x => idLess x.id o.id)) (fun _ i _ => l.length - (intOf i).toNat)
  case atStart => exact ⟨Bl.refl _, 0, Nat.zero_le _, rfl, OwnA.nil⟩
  case round =>
    obtain ⟨hbl, k, hk, rfl, hown⟩ := hrel
    by_cases hlt : k < l.length
    · obtain ⟨b, off, rfl, _, hbb⟩ := hA.addr (by omega)
      obtain ⟨x, hx⟩ := get_lt hlt
      obtain ⟨S1, sc, hrd, c0, c1, c2, c3, c4⟩ := hA.rdOp hx
      have hfs := filO_step (fun x => idLess x.id o.id) hx
      have hFl : ((l.take k).filter (fun x => idLess x.id o.id)).length ≤ l.length := Nat.le_trans (List.length_filter_le _ _) (by rw [List.length_take]; omega)
      clear hx
      have hbw := hbw1.trans hbl
      have hbr := Nat.lt_of_lt_of_le hbb hbw.size
      have hob := (hat.bl (hb1.trans hbl)).cells
      have hobl := (hat.bl (hb1.trans hbl)).lt
      have C1 := fun p : Wd wr => Wd.cell ((hbw.cell hbb).trans c1) hbr p
      have C2 := fun p : Wd wr => Wd.cell ((hbw.cell hbb).trans c2) hbr p
      have O1 := fun p : Wd wr => Wd.cell hob.2.1 hobl p
      have O2 := fun p : Wd wr => Wd.cell hob.2.2.1 hobl p
      have hki : (k : Int) < (l.length : Int) := by omega
      have hls := fun pw : Wd wr => refLess05 x.id o.id pw.v
      clear hob
      cases hq : idLess x.id o.id
      all_goals
        rw [hq] at hls hfs
        replace hls := hide hls
        clear hq
      · simp only [Bool.false_eq_true, if_false] at hfs
        have g := hide hfs
        clear hfs hrd c0 c1 c2 c3 c4
        go_wp2
        (refine wp_region_wd (by kernel_rfl) (by kernel_rfl) ?_
         repeat (go_big_quiet_step ((go_at_call 100; exact Calls.wd (hls.out _))))
         refine wpQuiet_nil ?_
         intro w2 hw'
         obtain ⟨⟨wx, hb2⟩, hw''⟩ := hw'
         subst hw'')
        go_wp2
        go_roundw
        case rel => exact ⟨hbl.trans hb2, k + 1, by omega, by go_num, by rw [g.out]; exact hown.bl hb2⟩
        case measure => simp [intOf]; omega
      · simp only [if_true] at hfs
        have hft := hide hfs
        clear hfs
        generalize ((l.take k).filter fun x => idLess x.id o.id) = F at *
        have hFl2 : F.length ≤ 2 * l.length + 1 := by omega
        go_wp2
        (refine wp_region_wd (by kernel_rfl) (by kernel_rfl) ?_
         repeat (go_big_quiet_step ((go_at_call 100; exact Calls.wd (hls.out _))))
         refine wpQuiet_nil ?_
         intro w2 hw'
         obtain ⟨⟨wx, hb2⟩, hw''⟩ := hw'
         subst hw'')
        have hb02 := hbw.trans hb2
        have hbl2 := hbl.trans hb2
        replace c0 := (hb02.cell hbb).trans c0
        replace c1 := (hb02.cell hbb).trans c1
        replace c2 := (hb02.cell hbb).trans c2
        replace c3 := (hb02.cell hbb).trans c3
        replace c4 := (hb02.cell hbb).trans c4
        have hb2l := Nat.lt_of_lt_of_le hbb hb02.size
        clear C1 C2 O1 O2
        replace hown := hown.bl hb2
        have hown1 := hown.bl ((Bl.refl w2).alloc (.cells (opCells x S1 sc).toArray 47))
        have hsrc := hown.src (t := 47) hb02 (by omega) hrd
        have q1 : F.length + [x].length ≤ maxLen := by simp [maxLen]; omega
        have q2 : (F.length + [x].length) * 48 ≤ 140737488355328 := by simp; omega
        have hWs := hbl2.size
        go_wp2_with (at_builtin; refine Hid.out ?_)
        refine hide ?_
        refine wpList_append_any2 (C := cOp) (xs := F) (ys := [x]) rfl (.tmp 27) (.tmp 32) _ rfl 47 i0 _ 48 Tryz.underlying22 hi hz0 hz1 hz2 rfl u5 0 rfl hown1.1 (some ⟨w2.heap.size, 0, none⟩) 1 1 rfl rfl hsrc q1 q2 (Nat.zero_le _) ?_
        intro v9 w9 hown9 hg9 hf9
        have hb9 : Bl w1 w9 := OwnA.app (hbl2.alloc _) hown1 (Nat.le_refl _) hg9
        have ho9 := hown1.next (by rw [World.size_alloc]; omega) hown9 hf9
        clear hown hown1 hsrc hown9 hg9 hf9
        go_wp2_with fail
        go_roundw
        case rel => exact ⟨hb9, k + 1, by omega, by go_num, by rw [hft.out]; exact ho9⟩
        case measure => simp [intOf]; omega
    · have hkl : l.length ≤ k := by omega
      rw [List.take_of_length_le hkl] at hown
      have hFl : (l.filter fun x => idLess x.id o.id).length ≤ l.length := List.length_filter_le _ _
      generalize (l.filter fun x => idLess x.id o.id) = F1 at hown hFl e1
      have hbr := hbw1.trans hbl
      obtain ⟨o0, o1, o2, o3, o4⟩ := (hat.bl (hb1.trans hbl)).cells
      have hol := (hat.bl (hb1.trans hbl)).lt
      have hown1 := hown.bl ((Bl.refl wr).alloc (.cells (opCells o S d).toArray 47))
      have hsrc := hown.src (t := 47) hbr (by omega) hrdo
      have q1 : F1.length + [o].length ≤ maxLen := by simp [maxLen]; omega
      have q2 : (F1.length + [o].length) * 48 ≤ 140737488355328 := by simp; omega
      have hWs := hbl.size
      go_wp2_with (at_builtin; refine Hid.out ?_)
      refine hide ?_
      refine wpList_append_any2 (C := cOp) (xs := F1) (ys := [o]) rfl (.tmp 34) (.tmp 36) _ rfl 47 i0 _ 48 Tryz.underlying22 hi hz0 hz1 hz2 rfl u5 0 rfl hown1.1 (some ⟨wr.heap.size, 0, none⟩) 1 1 rfl rfl hsrc q1 q2 (Nat.zero_le _) ?_
      intro v9 w9 hown9 hg9 hf9
      have hb9 : Bl w1 w9 := OwnA.app (hbl.alloc _) hown1 (Nat.le_refl _) hg9
      have ho9 := hown1.next (by rw [World.size_alloc]; omega) hown9 hf9
      clear hown hown1 hsrc hown9 hg9 hf9 o0 o1 o2 o3 o4
      have hG : (F1 ++ [o]).length ≤ l.length + 1 := by rw [List.length_append, List.length_singleton]; omega
      generalize F1 ++ [o] = G at ho9 hG e1
      go_wp2_with fail
      go_loopw [5, 7] (fun v i wr => Bl w1 wr ∧ ∃ k : Nat, k ≤ l.length ∧ i = .int .i64 k ∧ OwnA cOp 47 w1.heap.size wr v (G ++ (l.take k).filter fun x => idLess o.id x.id)) (fun _ i _ => l.length - (intOf i).toNat)
      case atStart => exact ⟨hb9, 0, Nat.zero_le _, rfl, by rw [List.take_zero, List.filter_nil, List.append_nil]; exact ho9⟩
      case round =>
        clear hk hkl hlt hbl hbr hol hWs ho9 q1 q2 hb9
        obtain ⟨hbl, k, hk, rfl, hown⟩ := hrel
        by_cases hlt : k < l.length
        · obtain ⟨b, off, rfl, _, hbb⟩ := hA.addr (by omega)
          obtain ⟨x, hx⟩ := get_lt hlt
          obtain ⟨S1, sc, hrd, c0, c1, c2, c3, c4⟩ := hA.rdOp hx
          have hfs := filO_step (fun x => idLess o.id x.id) hx
          have hFl : ((l.take k).filter (fun x => idLess o.id x.id)).length ≤ l.length := Nat.le_trans (List.length_filter_le _ _) (by rw [List.length_take]; omega)
          clear hx
          have hbw := hbw1.trans hbl
          have hbr := Nat.lt_of_lt_of_le hbb hbw.size
          have hob := (hat.bl (hb1.trans hbl)).cells
          have hobl := (hat.bl (hb1.trans hbl)).lt
          have C1 := fun p : Wd wr => Wd.cell ((hbw.cell hbb).trans c1) hbr p
          have C2 := fun p : Wd wr => Wd.cell ((hbw.cell hbb).trans c2) hbr p
          have O1 := fun p : Wd wr => Wd.cell hob.2.1 hobl p
          have O2 := fun p : Wd wr => Wd.cell hob.2.2.1 hobl p
          have hki : (k : Int) < (l.length : Int) := by omega
          have hls := fun pw : Wd wr => refLess05 o.id x.id pw.v
          clear hob
          cases hq : idLess o.id x.id
          all_goals
            rw [hq] at hls hfs
            replace hls := hide hls
            clear hq
          · simp only [Bool.false_eq_true, if_false] at hfs
            have g := hide hfs
            clear hfs hrd c0 c1 c2 c3 c4
            go_wp2
            (refine wp_region_wd (by kernel_rfl) (by kernel_rfl) ?_
             repeat (go_big_quiet_step ((go_at_call 100; exact Calls.wd (hls.out _))))
             refine wpQuiet_nil ?_
             intro w2 hw'
             obtain ⟨⟨wx, hb2⟩, hw''⟩ := hw'
             subst hw'')
            go_wp2
            go_roundw
            case rel => exact ⟨hbl.trans hb2, k + 1, by omega, by go_num, by rw [g.out]; exact hown.bl hb2⟩
            case measure => simp [intOf]; omega
          · simp only [if_true] at hfs
            have hft := hide hfs
            clear hfs
            have hfa := hide (show G ++ (l.take (k + 1)).filter (fun x => idLess o.id x.id) = (G ++ (l.take k).filter fun x => idLess o.id x.id) ++ [x] by rw [hft.out, List.append_assoc])
            have hFl2 : (G ++ (l.take k).filter fun x => idLess o.id x.id).length ≤ 2 * l.length + 1 := by rw [List.length_append]; omega
            clear hft
            generalize (G ++ (l.take k).filter fun x => idLess o.id x.id) = F at *
            go_wp2
            (refine wp_region_wd (by kernel_rfl) (by kernel_rfl) ?_
             repeat (go_big_quiet_step ((go_at_call 100; exact Calls.wd (hls.out _))))
             refine wpQuiet_nil ?_
             intro w2 hw'
             obtain ⟨⟨wx, hb2⟩, hw''⟩ := hw'
             subst hw'')
            have hb02 := hbw.trans hb2
            have hbl2 := hbl.trans hb2
            replace c0 := (hb02.cell hbb).trans c0
            replace c1 := (hb02.cell hbb).trans c1
            replace c2 := (hb02.cell hbb).trans c2
            replace c3 := (hb02.cell hbb).trans c3
            replace c4 := (hb02.cell hbb).trans c4
            have hb2l := Nat.lt_of_lt_of_le hbb hb02.size
            clear C1 C2 O1 O2
            replace hown := hown.bl hb2
            have hown1 := hown.bl ((Bl.refl w2).alloc (.cells (opCells x S1 sc).toArray 47))
            have hsrc := hown.src (t := 47) hb02 (by omega) hrd
            have q1 : F.length + [x].length ≤ maxLen := by simp [maxLen]; omega
            have q2 : (F.length + [x].length) * 48 ≤ 140737488355328 := by simp; omega
            have hWs := hbl2.size
            go_wp2_with (at_builtin; refine Hid.out ?_)
            refine hide ?_
            refine wpList_append_any2 (C := cOp) (xs := F) (ys := [x]) rfl (.tmp 52) (.tmp 57) _ rfl 47 i0 _ 48 Tryz.underlying22 hi hz0 hz1 hz2 rfl u5 0 rfl hown1.1 (some ⟨w2.heap.size, 0, none⟩) 1 1 rfl rfl hsrc q1 q2 (Nat.zero_le _) ?_
            intro v9 w9 hown9 hg9 hf9
            have hb9 : Bl w1 w9 := OwnA.app (hbl2.alloc _) hown1 (Nat.le_refl _) hg9
            have ho9 := hown1.next (by rw [World.size_alloc]; omega) hown9 hf9
            clear hown hown1 hsrc hown9 hg9 hf9
            go_wp2_with fail
            go_roundw
            case rel => exact ⟨hb9, k + 1, by omega, by go_num, by rw [hfa.out]; exact ho9⟩
            case measure => simp [intOf]; omega
        · have hkl : l.length ≤ k := by omega
          rw [List.take_of_length_le hkl, ← e1.out] at hown
          obtain ⟨A5, c5, hv5, hr5, q1, q2⟩ := hown.reads
          subst hv5
          go_wp2
          go_ret
          exact ⟨A5, c5, rfl, q1, q2, hr5, hbw1.trans hbl⟩

end Go.Proofs.YteoodmilcpmmpaaGreat

namespace Go.Proofs.YteoodmilcpmmpaaGreat

open Go.RowKit

def rAddN (l : List Op) (o : Op) : Int := if bagMay l && opMay o then (if 1024 < (withB l o).length then 9 else 0) else 8

def rAddL (l : List Op) (o : Op) : List Op := if rAddN l o = 0 then withB l o else []

theorem with_eq {l : List Op} {o : Op} (hs : Srt l) : withB l o = if hasId l o.id then l else l.take (posOf l o.id) ++ o :: l.drop (posOf l o.id) := by
  unfold withB
  cases hh : hasId l o.id
  · simp only [Bool.false_eq_true, if_false]
    have h1 := take_less (l := l) (s := o.id)
    have h2 : ∀ x ∈ l.drop (posOf l o.id), idLess o.id x.id = true := fun x hx => by
      have h4 := drop_not hs x hx
      cases h5 : idLess o.id x.id
      · exact absurd (idLess_tot h4 h5) (hasId_false hh x (List.mem_of_mem_drop hx))
      · rfl
    have e1 : (l.filter fun x => idLess x.id o.id) = l.take (posOf l o.id) := by
      conv => lhs; rw [← List.take_append_drop (posOf l o.id) l]
      rw [List.filter_append, List.filter_eq_self.2 h1, List.filter_eq_nil_iff.2 fun x hx => by rw [drop_not hs x hx]; simp, List.append_nil]
    have e2 : (l.filter fun x => idLess o.id x.id) = l.drop (posOf l o.id) := by
      conv => lhs; rw [← List.take_append_drop (posOf l o.id) l]
      rw [List.filter_append, List.filter_eq_self.2 h2, List.filter_eq_nil_iff.2 fun x hx => by rw [idLess_as (h1 x hx)]; simp, List.nil_append]
    rw [e1, e2, List.append_assoc]
    rfl
  · rfl

theorem rAdd_eq (l : List Op) (o : Op) : rAddN l o = addN l o ∧ rAddL l o = addL l o := by
  have hN : rAddN l o = addN l o := by
    unfold rAddN addN
    cases h : bagMay l && opMay o
    · rfl
    · simp only [if_true]
      rw [Bool.and_eq_true] at h
      obtain ⟨h1, h2, -⟩ := bagMay_parts h.1
      rw [with_eq h2]
      cases hh : hasId l o.id
      · simp only [Bool.false_eq_true, if_false]
        have hlen : (l.take (posOf l o.id) ++ o :: l.drop (posOf l o.id)).length = l.length + 1 := by
          have := congrArg List.length (List.take_append_drop (posOf l o.id) l)
          rw [List.length_append] at this
          rw [List.length_append, List.length_cons]
          omega
        rw [hlen]
        by_cases h3 : l.length = 1024
        · rw [if_pos (by omega), if_pos h3]
        · rw [if_neg (by omega), if_neg h3]
      · simp only [if_true]
        rw [if_neg (by omega)]
  refine ⟨hN, ?_⟩
  unfold rAddL addL
  rw [hN]
  by_cases h0 : addN l o = 0
  · rw [if_pos h0, if_pos h0]
    exact with_eq (bagMay_parts (addN_parts h0).1).2.1
  · rw [if_neg h0, if_neg h0]

end Go.Proofs.YteoodmilcpmmpaaGreat
