/-
  The walks of layer 11's references Twin, Same, May, Of, Has.
  The walks of layer 11's references Of, Has, With, Both.
  The walks of layer 11's references Both, Add, Join, Left, Less, and of In of the layers 7, 8.
  The walks of layer 11's references Left and Less; and that what the references reckon is what the program does.
-/
import Derived.Test.YtedcopjpgijpjaaRefA
import Derived.Test.YtedcopjpgijpjaaBagPlain
import Derived.Test.YtedcopjpgijpjaaOwnA
import Derived.Test.YtedcopjpgijpjaaBagOrder
import Derived.Test.YtedcopjpgijpjaaLessA
import Derived.Test.YtedcopjpgijpjaaRefClock2
import Derived.Test.YtedcopjpgijpjaaBagLessLaw
namespace Go.Proofs.Ytedcopjpgijpjaa
open Go.RowKit

/-- Small enough to be copied. -/
def copyB (l : List Op) : Prop := l.length ≤ 1048576 ∧ ∀ x ∈ l, x.pl.length ≤ 8796093022208

set_option maxRecDepth 100000 in
set_option maxHeartbeats 1000000 in
theorem refTwin10 (A : Option Addr) (c : Nat) (l : List Op) (w : World) (hl : copyB l) (hA : R cOp 0 w A l) :
    Calls Try.prog 49 #[.slice A l.length c] w (New cOp l w) := by
  obtain ⟨i0, hi, hz0, hz1, hz2⟩ := info_parts Try.infoOp
  obtain ⟨hl, hsm⟩ := hl
  replace hsm := hide hsm
  go_enter Try.func49, Try.ntmps49
  go_wp2
  go_loopw [3, 4] (fun v i wr => Bl w wr ∧ ∃ k : Nat, k ≤ l.length ∧ i = .int .i64 k ∧ Own cOp 33 w.heap.size wr v (l.take k)) (fun _ i _ => l.length - (intOf i).toNat)
  case atStart => exact ⟨Bl.refl _, 0, Nat.zero_le _, rfl, Own.nil⟩
  case round =>
    obtain ⟨hbl, k, hk, rfl, hown⟩ := hrel
    by_cases hlt : k < l.length
    · have hR := hA.bl hbl
      obtain ⟨b, off, rfl, _, hb⟩ := hR.addr (by omega)
      obtain ⟨x, hx⟩ := get_lt hlt
      obtain ⟨_, ho, S, sc, s1, s2, hS, c0, c1, c2, c3, c4⟩ := hR.op hx
      have hts := hide (take_snoc hx)
      have hxs := hsm.out x (List.mem_of_getElem? hx)
      have hki : (k : Int) < (l.length : Int) := by omega
      clear hx
      go_wp2_with (first
        | (go_at_call 76; refine (refTwin09 x S sc _ ⟨ho, s1, s2, hS⟩ hxs).mono ?_; rintro e w1 ⟨A1, n1, rfl, h1, h2, hr1, hb1⟩; have hW1 : wr.heap.size ≤ w1.heap.size := hb1.size; have hsz := hbl.size)
        | (at_builtin
           refine wpList_append_any2 (C := cOp) (xs := l.take k) (ys := [x]) rfl (.tmp 11) (.tmp 17) _ rfl 33 i0 _ 48 Try.underlying22 hi hz0 hz1 hz2 rfl _ w.heap.size rfl ((hown.bl hb1).bl ((Bl.refl _).alloc _)) (some ⟨w1.heap.size, 0, none⟩) 1 _ rfl rfl (hown.src (cs := opCells x A1 n1) hb1 hsz ⟨ho, A1, n1, h1, h2, rfl, hr1⟩) ?c1 ?c2 ?c3 ?_
           case c1 => simp [maxLen]; omega
           case c2 => simp; omega
           case c3 => simp; omega
           intro v2 w2 hown2 hg2 _
           have hbl2 : Bl w w2 := ((hbl.trans hb1).alloc _).app ((hown.bl hb1).bl ((Bl.refl _).alloc _)) (Nat.le_refl _) hg2))
      go_roundw
      case rel => exact ⟨hbl2, k + 1, by omega, by go_num, by rw [hts.out]; exact hown2⟩
      case measure => simp [intOf]; omega
    · have hkl : l.length ≤ k := by omega
      go_wp2
      go_ret
      rw [List.take_of_length_le hkl] at hown
      obtain ⟨A', c', rfl, hr, h1, h2⟩ := hown.reads
      exact ⟨A', c', rfl, h1, h2, hr, hbl⟩

set_option maxHeartbeats 400000 in
theorem refTwin11 (A : Option Addr) (c : Nat) (l : List Op) (w : World) (hl : copyB l) (hA : R cOp 0 w A l) :
    Calls Try.prog 21 #[.slice A l.length c] w (New cOp l w) := by
  go_enter Try.func21, Try.ntmps21
  go_wp2_with fail
  refine (refTwin10 A c l _ hl hA).mono ?_
  rintro e w1 ⟨A1, c1, rfl, h1, h2, hr, hb⟩
  go_wp2_with fail
  go_ret
  exact ⟨A1, c1, rfl, h1, h2, hr, hb⟩

set_option maxHeartbeats 400000 in
theorem refSame11 (A B : Option Addr) (c d : Nat) (l m : List Op) (w : World) (hl : l.length ≤ maxLen) (hm : m.length ≤ maxLen) (hA : R cOp 0 w A l) (hB : R cOp 0 w B m) :
    Calls Try.prog 26 #[.slice A l.length c, .slice B m.length d] w fun e w' => e = .returned (.bool (same l m)) ∧ Bl w w' := by
  go_enter Try.func26, Try.ntmps26
  go_wp2_with fail
  refine (refSame10 A B c d l m _ hl hm hA hB).mono ?_
  rintro e w1 ⟨rfl, hb⟩
  go_wp2_with fail
  go_ret
  exact ⟨rfl, hb⟩

set_option maxRecDepth 100000 in
set_option maxHeartbeats 2000000 in
theorem refMay11 (A : Option Addr) (c : Nat) (l : List Op) (w : World) (hl : l.length ≤ maxLen) (hA : R cOp 0 w A l) :
    Calls Try.prog 51 #[.slice A l.length c] w fun e w' => e = .returned (.bool (bagMay l)) ∧ Bl w w' := by
  unfold maxLen at hl
  obtain ⟨N, hN⟩ : ∃ N, N = bagMay l := ⟨_, rfl⟩
  rw [← hN]
  by_cases hbig : 1024 < l.length
  · have g := hide (show false = N by rw [hN]; unfold bagMay; rw [decide_eq_false (show ¬ l.length ≤ 1024 by omega)]; rfl)
    have hd : decide ((l.length : Int) ≤ 1024) = false := by simp; omega
    clear hN
    go_enter Try.func51, Try.ntmps51
    go_wp2
    go_loopw [3] (fun i wr => Bl w wr ∧ i = .int .i64 0) (fun _ _ => 0)
    case atStart => exact ⟨Bl.refl _, rfl⟩
    case round =>
      obtain ⟨hbl, rfl⟩ := hrel
      have hd2 : (0 : Int) < (l.length : Int) := by omega
      go_wp2
      go_ret
      exact ⟨ret_bool g.out, hbl⟩
  have hN' := hide (show N = bagFrom ⟨0, 0⟩ l by rw [hN]; unfold bagMay; rw [decide_eq_true (show l.length ≤ 1024 by omega)]; rfl)
  clear hN
  have h64 : decide ((l.length : Int) ≤ 1024) = true := by simp; omega
  go_enter Try.func51, Try.ntmps51
  go_wp2
  go_loopw [3] (fun i wr => Bl w wr ∧ ∃ (k : Nat) (last : Id), k ≤ l.length ∧ i = .int .i64 k ∧ (k = 0 ∧ last = ⟨0, 0⟩ ∨ ∃ q : Op, 0 < k ∧ l[k - 1]? = some q ∧ last = q.id) ∧ Hid (bagFrom ⟨0, 0⟩ l = bagFrom last (l.drop k))) (fun i _ => l.length - (intOf i).toNat)
  case atStart => exact ⟨Bl.refl _, 0, ⟨0, 0⟩, Nat.zero_le _, rfl, .inl ⟨rfl, rfl⟩, rfl⟩
  case round =>
    obtain ⟨hbl, k, last, hk, rfl, hprev, hf⟩ := hrel
    by_cases hlt : k < l.length
    · have hR := hA.bl hbl
      obtain ⟨b, off, rfl, _, hb⟩ := hR.addr (by omega)
      obtain ⟨x, hx⟩ := get_lt hlt
      obtain ⟨_, ho, S, sc, s1, s2, hS, c0, c1, c2, c3, c4⟩ := hR.op hx
      have hdr := hide (drop_cons hx)
      have hki : (k : Int) < (l.length : Int) := by omega
      have hki2 : decide ((k : Int) < (l.length : Int)) = true := by simpa using hki
      have hxo : OpIn wr x S sc := ⟨ho, s1, s2, hS⟩
      have hmay := fun pw : Wd wr => refMay09 x S sc pw.v (hxo.bl pw.h)
      have C0 := fun p : Wd wr => Wd.cell c0 hb p
      have C1 := fun p : Wd wr => Wd.cell c1 hb p
      have C2 := fun p : Wd wr => Wd.cell c2 hb p
      have C3 := fun p : Wd wr => Wd.cell c3 hb p
      have C4 := fun p : Wd wr => Wd.cell c4 hb p
      clear c0 c1 c2 c3 c4
      have hno : (opMay x && idLess last x.id) = false → false = N := fun h => by rw [hN'.out, bagFrom_bad hf.out hdr.out h]
      replace hno := hide hno
      cases hq : opMay x
      · rw [hq] at hmay
        have g := hide (hno.out (by rw [hq]; rfl))
        replace hmay := hide hmay
        clear hq hno hdr hf hprev hx hN'
        go_wp2
        (refine wp_region_wd (by kernel_rfl) (by kernel_rfl) ?_
         repeat (go_big_quiet_step ((go_at_call 52; exact Calls.wd (hmay.out _))))
         refine wpQuiet_nil ?_
         intro w2 hw'
         obtain ⟨⟨wx, hb2⟩, hw''⟩ := hw'
         subst hw'')
        go_wp2
        go_ret
        exact ⟨ret_bool g.out, hbl.trans hb2⟩
      · rw [hq] at hmay
        replace hmay := hide hmay
        have hrel : ∀ W, Bl w W → idLess last x.id = true → Bl w W ∧ ∃ (k' : Nat) (last' : Id), k' ≤ l.length ∧ Value.int .i64 ((k : Int) + 1) = .int .i64 k' ∧ (k' = 0 ∧ last' = ⟨0, 0⟩ ∨ ∃ q : Op, 0 < k' ∧ l[k' - 1]? = some q ∧ last' = q.id) ∧ Hid (bagFrom ⟨0, 0⟩ l = bagFrom last' (l.drop k')) := fun W hW hB =>
          ⟨hW, k + 1, x.id, by omega, by go_num, .inr ⟨x, by omega, by rw [Nat.add_sub_cancel]; exact hx, rfl⟩, bagFrom_good hf.out hdr.out hq hB⟩
        replace hrel := hide hrel
        rcases hprev with ⟨hk0, rfl⟩ | ⟨q, hk0, hqp, rfl⟩
        · have hls := hide (opMay_less hq)
          have hd0 : decide (0 < k) = false := by simp; omega
          clear hq hno hdr hf hx hN' hk0
          go_wp2
          (refine wp_region_wd (by kernel_rfl) (by kernel_rfl) ?_
           repeat (go_big_quiet_step ((go_at_call 52; exact Calls.wd (hmay.out _))))
           refine wpQuiet_nil ?_
           intro w2 hw'
           obtain ⟨⟨wx, hb2⟩, hw''⟩ := hw'
           subst hw'')
          go_wp2
          go_roundw
          case rel => exact hrel.out _ (hbl.trans hb2) hls.out
          case measure => simp [intOf]; omega
        · obtain ⟨_, hoq, S', sc', s1', s2', hS', d0, d1, d2, d3, d4⟩ := hR.op hqp
          have hd0 : decide (0 < k) = true := by simp; omega
          obtain ⟨j, hj⟩ : ∃ j, j = k - 1 := ⟨_, rfl⟩
          rw [← hj] at d1 d2
          have hkj : (k : Int) - 1 = (j : Int) := by omega
          have hjl : (j : Int) < (l.length : Int) := by omega
          have hjk : j < l.length := by omega
          have D1 := fun p : Wd wr => Wd.cell d1 hb p
          have D2 := fun p : Wd wr => Wd.cell d2 hb p
          have hless := fun pw : Wd wr => refLess05 q.id x.id pw.v
          clear hj d0 d1 d2 d3 d4 hqp
          cases hs : idLess q.id x.id
          · rw [hs] at hless
            have g := hide (hno.out (by rw [hs, Bool.and_false]))
            replace hless := hide hless
            clear hq hno hdr hf hx hN' hs hrel
            go_wp2
            (refine wp_region_wd (by kernel_rfl) (by kernel_rfl) ?_
             repeat (go_big_quiet_step ((first | (go_at_call 52; exact Calls.wd (hmay.out _)) | (go_at_call 79; exact Calls.wd (hless.out _)))))
             refine wpQuiet_nil ?_
             intro w2 hw'
             obtain ⟨⟨wx, hb2⟩, hw''⟩ := hw'
             subst hw'')
            go_wp2
            go_ret
            exact ⟨ret_bool g.out, hbl.trans hb2⟩
          · rw [hs] at hless
            have hls := hide hs
            replace hless := hide hless
            clear hq hno hdr hf hx hN' hs
            go_wp2
            (refine wp_region_wd (by kernel_rfl) (by kernel_rfl) ?_
             repeat (go_big_quiet_step ((first | (go_at_call 52; exact Calls.wd (hmay.out _)) | (go_at_call 79; exact Calls.wd (hless.out _)))))
             refine wpQuiet_nil ?_
             intro w2 hw'
             obtain ⟨⟨wx, hb2⟩, hw''⟩ := hw'
             subst hw'')
            go_wp2
            go_roundw
            case rel => exact hrel.out _ (hbl.trans hb2) hls.out
            case measure => simp [intOf]; omega
    · have hkl : l.length ≤ k := by omega
      have g := hide (show true = N by rw [hN'.out, hf.out, List.drop_eq_nil_of_le hkl]; rfl)
      have hki2 : decide ((k : Int) < (l.length : Int)) = false := by simp; omega
      clear hf hN' hprev
      go_wp2
      go_ret
      exact ⟨ret_bool g.out, hbl⟩
end Go.Proofs.Ytedcopjpgijpjaa

namespace Go.Proofs.Ytedcopjpgijpjaa
open Go.RowKit

def OfPost (l : List Op) (s : Id) (w : World) (e : Ending) (w' : World) : Prop := ∃ x A c, e = .returned (.tuple #[.agg #[.int .u8 x.kind, .int .u32 x.id.t, .int .u8 x.id.r, .slice A x.pl.length c, .int .i64 x.pt], .bool (hasId l s)]) ∧ OpIn w' x A c ∧ Bl w w'

set_option maxRecDepth 100000 in
set_option maxHeartbeats 2000000 in
theorem refOf11 (A : Option Addr) (c : Nat) (l : List Op) (s : Id) (w : World) (hl : l.length ≤ maxLen) (hA : R cOp 0 w A l) :
    Calls Try.prog 57 #[.slice A l.length c, .agg #[.int .u32 s.t, .int .u8 s.r]] w (OfPost l s w) := by
  unfold maxLen at hl
  obtain ⟨W, hW⟩ : ∃ W, W = (w.alloc (.cells #[Value.int IntKind.u32 s.t, Value.int IntKind.u8 s.r] 30)).alloc (.cells #[Value.int IntKind.u8 0, Value.int IntKind.u32 0, Value.int IntKind.u8 0, Value.slice none 0 0, Value.int IntKind.i64 0] 33) := ⟨_, rfl⟩
  have hbW : Bl w W := by rw [hW]; exact ((Bl.refl _).alloc _).alloc _
  have at0 : IdBox W w.heap.size s := by rw [hW]; exact (IdBox.new w s _).bl ((Bl.refl _).alloc _)
  have at1 : OpBox W (w.heap.size + 1) ⟨0, ⟨0, 0⟩, [], 0⟩ none 0 := by
    rw [hW]
    have := OpBox.new (w.alloc (.cells #[Value.int IntKind.u32 s.t, Value.int IntKind.u8 s.r] 30)) ⟨0, ⟨0, 0⟩, [], 0⟩ none 0 33
    rw [World.size_alloc] at this
    exact this
  have hzok : (⟨0, ⟨0, 0⟩, [], 0⟩ : Op).ok := by unfold Op.ok Id.ok u8ok i64ok; decide
  obtain ⟨T, hT⟩ : ∃ T, T = hasId l s := ⟨_, rfl⟩
  have hpost : ∀ (x : Op) (A : Option Addr) (c : Nat) (V : World), x.ok → x.pl.length ≤ c → c ≤ maxLen → R cRun 0 w A x.pl → Bl W V → OfPost l s w (.returned (.tuple #[.agg #[.int .u8 x.kind, .int .u32 x.id.t, .int .u8 x.id.r, .slice A x.pl.length c, .int .i64 x.pt], .bool T])) (((((V.setCell ⟨w.heap.size + 1, 0, none⟩ (.int .u8 x.kind)).setCell ⟨w.heap.size + 1, 1, none⟩ (.int .u32 x.id.t)).setCell ⟨w.heap.size + 1, 2, none⟩ (.int .u8 x.id.r)).setCell ⟨w.heap.size + 1, 3, none⟩ (.slice A x.pl.length c)).setCell ⟨w.heap.size + 1, 4, none⟩ (.int .i64 x.pt)) := fun x A c V ho h1 h2 hR hV => by
    have hb : Bl w (((((V.setCell ⟨w.heap.size + 1, 0, none⟩ (.int .u8 x.kind)).setCell ⟨w.heap.size + 1, 1, none⟩ (.int .u32 x.id.t)).setCell ⟨w.heap.size + 1, 2, none⟩ (.int .u8 x.id.r)).setCell ⟨w.heap.size + 1, 3, none⟩ (.slice A x.pl.length c)).setCell ⟨w.heap.size + 1, 4, none⟩ (.int .i64 x.pt)) :=
      (((((hbW.trans hV).setCell (by simp) _).setCell (by simp) _).setCell (by simp) _).setCell (by simp) _).setCell (by simp) _
    exact ⟨x, A, c, by rw [hT], ⟨ho, h1, h2, hR.bl hb⟩, hb⟩
  replace hpost := hide hpost
  replace hT := hide hT
  go_enter Try.func57, Try.ntmps57
  go_wp2_with fail
  rw [← hW]
  clear hW
  go_loopw [6] (fun i wr => Bl W wr ∧ ∃ k : Nat, k ≤ l.length ∧ i = .int .i64 k ∧ Hid (∀ y ∈ l.take k, y.id ≠ s)) (fun i _ => l.length - (intOf i).toNat)
  case atStart => exact ⟨Bl.refl _, 0, Nat.zero_le _, rfl, fun y hy => by simp at hy⟩
  case round =>
    obtain ⟨hbl, k, hk, rfl, hf⟩ := hrel
    by_cases hlt : k < l.length
    · obtain ⟨b, off, rfl, _, hb⟩ := hA.addr (by omega)
      obtain ⟨x, hx⟩ := get_lt hlt
      obtain ⟨_, ho, S, sc, s1, s2, hS, c0, c1, c2, c3, c4⟩ := hA.op hx
      have hki : (k : Int) < (l.length : Int) := by omega
      have hbwr := hbW.trans hbl
      have hbr := Nat.lt_of_lt_of_le hb hbwr.size
      have hsl := (at0.bl hbl).lt
      have C1 := fun p : Wd wr => Wd.cell ((hbwr.cell hb).trans c1) hbr p
      have C2 := fun p : Wd wr => Wd.cell ((hbwr.cell hb).trans c2) hbr p
      have S0 := fun p : Wd wr => Wd.cell (at0.bl hbl).c0 hsl p
      have S1 := fun p : Wd wr => Wd.cell (at0.bl hbl).c1 hsl p
      have heq := run_eqId x.id s
      cases hq : neqId x.id s
      · rw [hq] at heq
        have g := hide (show true = T by
          rw [hT.out, eq_comm]
          unfold hasId
          rw [List.any_eq_true]
          exact ⟨x, List.mem_of_getElem? hx, by simpa using neqId_false hq⟩)
        have hfin := hide (fun V (hV : Bl W V) => hpost.out x S sc V ho s1 s2 hS hV)
        rw [← g.out] at hfin
        clear hq hx hf
        go_wp2
        (refine wp_region_wd (by kernel_rfl) (by kernel_rfl) ?_
         repeat (go_big_quiet_step ((fail)))
         refine wpQuiet_nil ?_
         intro w2 hw'
         obtain ⟨⟨wx, hb2⟩, hw''⟩ := hw'
         subst hw'')
        have hb02 := hbwr.trans hb2
        have hbW2 := hbl.trans hb2
        replace c0 := (hb02.cell hb).trans c0
        replace c1 := (hb02.cell hb).trans c1
        replace c2 := (hb02.cell hb).trans c2
        replace c3 := (hb02.cell hb).trans c3
        replace c4 := (hb02.cell hb).trans c4
        have hb2l := Nat.lt_of_lt_of_le hb hb02.size
        obtain ⟨y0, y1, y2, y3, y4⟩ := (at1.bl hbW2).cells
        obtain ⟨f0, f1, f2, f3, f4⟩ := (at1.bl hbW2).frozens
        have hyl := (at1.bl hbW2).lt
        clear C1 C2 S0 S1
        go_wp2
        refine bodyPost_ret (v := .tuple #[.agg #[.int .u8 x.kind, .int .u32 x.id.t, .int .u8 x.id.r, .slice S x.pl.length sc, .int .i64 x.pt], .bool true]) (by simp [results, Try.results57, go_sem, y0, y1, y2, y3, y4]) rfl ?_
        exact hfin.out w2 hbW2
      · rw [hq] at heq
        have g := hide (show ∀ y ∈ l.take (k + 1), y.id ≠ s from fun y hy => by
          rw [take_snoc hx, List.mem_append] at hy
          rcases hy with hy | hy
          · exact hf.out y hy
          · rw [List.mem_singleton] at hy; subst hy; exact neqId_true hq)
        clear hq hx hf c0 c1 c2 c3 c4
        go_wp2
        (refine wp_region_wd (by kernel_rfl) (by kernel_rfl) ?_
         repeat (go_big_quiet_step ((fail)))
         refine wpQuiet_nil ?_
         intro w2 hw'
         obtain ⟨⟨wx, hb2⟩, hw''⟩ := hw'
         subst hw'')
        go_wp2
        go_roundw
        case rel => exact ⟨hbl.trans hb2, k + 1, by omega, by go_num, g.out⟩
        case measure => simp [intOf]; omega
    · have hkl : k = l.length := by omega
      have g := hide (show false = T by
        rw [hT.out, eq_comm]
        unfold hasId
        rw [List.any_eq_false]
        intro x hx
        have := hf.out x (by rw [hkl, List.take_length]; exact hx)
        simpa using this)
      have hfin := hide (fun V (hV : Bl W V) => hpost.out ⟨0, ⟨0, 0⟩, [], 0⟩ none 0 V hzok (Nat.le_refl _) (Nat.zero_le _) R.nil hV)
      rw [← g.out] at hfin
      obtain ⟨y0, y1, y2, y3, y4⟩ := (at1.bl hbl).cells
      obtain ⟨f0, f1, f2, f3, f4⟩ := (at1.bl hbl).frozens
      have hyl := (at1.bl hbl).lt
      clear hf
      go_wp2
      refine bodyPost_ret (v := .tuple #[.agg #[.int .u8 0, .int .u32 0, .int .u8 0, .slice none 0 0, .int .i64 0], .bool false]) (by simp [results, Try.results57, go_sem, y0, y1, y2, y3, y4]) rfl ?_
      exact hfin.out wr hbl

set_option maxRecDepth 100000 in
set_option maxHeartbeats 1000000 in
theorem refHas11 (A : Option Addr) (c : Nat) (l : List Op) (s : Id) (w : World) (hl : l.length ≤ maxLen) (hA : R cOp 0 w A l) :
    Calls Try.prog 85 #[.slice A l.length c, .agg #[.int .u32 s.t, .int .u8 s.r]] w fun e w' => e = .returned (.bool (hasId l s)) ∧ Bl w w' := by
  have hb0 : ∀ o, Bl w (w.alloc o) := fun _ => (Bl.refl _).alloc _
  have hof := hide (fun W (hb : Bl w W) => refOf11 A c l s W hl (hA.bl hb))
  go_enter Try.func85, Try.ntmps85
  go_wp2_with fail
  refine (hof.out _ (hb0 _)).mono ?_
  rintro e w1 ⟨x, S, d, rfl, -, hb1⟩
  go_wp2_with fail
  go_ret
  exact ⟨rfl, ((hb0 _).trans hb1).alloc _⟩

/-! ### With -/
theorem filO_step {l : List Op} {k : Nat} {x : Op} (p : Op → Bool) (h : l[k]? = some x) : (l.take (k + 1)).filter p = if p x then (l.take k).filter p ++ [x] else (l.take k).filter p := by
  rw [take_snoc h, List.filter_append]
  cases hp : p x <;> simp [hp]
def withB (l : List Op) (o : Op) : List Op := if hasId l o.id then l else ((l.filter fun x => idLess x.id o.id) ++ [o]) ++ l.filter fun x => idLess o.id x.id

set_option maxRecDepth 100000 in
set_option maxHeartbeats 4000000 in
theorem refWith11 (A S : Option Addr) (c d : Nat) (l : List Op) (o : Op) (w : World) (hl : l.length ≤ 1000000) (hlc : l.length ≤ c) (hcm : c ≤ maxLen) (hA : R cOp 0 w A l) (ho : OpIn w o S d) :
    Calls Try.prog 53 #[.slice A l.length c, .agg #[.int .u8 o.kind, .int .u32 o.id.t, .int .u8 o.id.r, .slice S o.pl.length d, .int .i64 o.pt]] w (NewA cOp (withB l o) w) := by
  obtain ⟨i0, hi, hz0, hz1, hz2⟩ := info_parts Try.infoOp
  have hlm : l.length ≤ maxLen := by unfold maxLen; omega
  have hL : ∃ L, L = withB l o := ⟨_, rfl⟩
  obtain ⟨L, hL⟩ := hL
  rw [← hL]
  obtain ⟨W, hW⟩ : ∃ W, W = w.alloc (.cells #[Value.int IntKind.u8 o.kind, Value.int IntKind.u32 o.id.t, Value.int IntKind.u8 o.id.r, Value.slice S o.pl.length d, Value.int IntKind.i64 o.pt] 33) := ⟨_, rfl⟩
  have hbW : Bl w W := by rw [hW]; exact (Bl.refl _).alloc _
  have hat : OpBox W w.heap.size o S d := by rw [hW]; exact OpBox.new w o S d _
  have hhas := fun V (hb : Bl w V) => refHas11 A c l o.id V hlm (hA.bl hb)
  have hrdo : cOp.rd w (Fresh 0 w) o (opCells o S d) := ⟨ho.ok, S, d, ho.h1, ho.h2, rfl, ho.hR⟩
  cases hh : hasId l o.id
  rotate_left
  · rw [hh] at hhas
    have e1 := hide (show L = l by rw [hL]; unfold withB; rw [hh]; rfl)
    replace hhas := hide hhas
    clear hL hh hat hrdo
    go_enter Try.func53, Try.ntmps53
    go_wp2_with fail
    rw [← hW]
    clear hW
    refine (hhas.out _ hbW).mono ?_
    rintro e w1 ⟨rfl, hb1⟩
    go_wp2_with fail
    go_ret
    rw [e1.out]
    exact ⟨A, c, rfl, hlc, hcm, hA.bl (hbW.trans hb1), hbW.trans hb1⟩
  rw [hh] at hhas
  have e1 := hide (show L = ((l.filter fun x => idLess x.id o.id) ++ [o]) ++ l.filter fun x => idLess o.id x.id by rw [hL]; unfold withB; rw [hh]; rfl)
  replace hhas := hide hhas
  clear hL hh
  have hwW := hbW.size
  go_enter Try.func53, Try.ntmps53
  go_wp2_with fail
  rw [← hW]
  clear hW
  refine (hhas.out _ hbW).mono ?_
  rintro e w1 ⟨rfl, hb1⟩
  have hbw1 := hbW.trans hb1
  have hz1w := hb1.size
  go_wp2_with fail
  go_loopw [5, 6] (fun v i wr => Bl w1 wr ∧ ∃ k : Nat, k ≤ l.length ∧ i = .int .i64 k ∧ OwnA cOp 33 w1.heap.size wr v ((l.take k).filter fun x => idLess x.id o.id)) (fun _ i _ => l.length - (intOf i).toNat)
  case atStart => exact ⟨Bl.refl _, 0, Nat.zero_le _, rfl, OwnA.nil⟩
  case round =>
    obtain ⟨hbl, k, hk, rfl, hown⟩ := hrel
    by_cases hlt : k < l.length
    · obtain ⟨b, off, rfl, _, hbb⟩ := hA.addr (by omega)
      obtain ⟨x, hx⟩ := get_lt hlt
      obtain ⟨S1, sc, hrd, c0, c1, c2, c3, c4⟩ := hA.rdOp hx
      have hfs := filO_step (fun x => idLess x.id o.id) hx
      have hFl : ((l.take k).filter (fun x => idLess x.id o.id)).length ≤ l.length := Nat.le_trans (List.length_filter_le _ _) (by rw [List.length_take]; omega)
      clear hx
      have hbw := hbw1.trans hbl
      have hbr := Nat.lt_of_lt_of_le hbb hbw.size
      have hob := (hat.bl (hb1.trans hbl)).cells
      have hobl := (hat.bl (hb1.trans hbl)).lt
      have C1 := fun p : Wd wr => Wd.cell ((hbw.cell hbb).trans c1) hbr p
      have C2 := fun p : Wd wr => Wd.cell ((hbw.cell hbb).trans c2) hbr p
      have O1 := fun p : Wd wr => Wd.cell hob.2.1 hobl p
      have O2 := fun p : Wd wr => Wd.cell hob.2.2.1 hobl p
      have hki : (k : Int) < (l.length : Int) := by omega
      have hls := fun pw : Wd wr => refLess05 x.id o.id pw.v
      clear hob
      cases hq : idLess x.id o.id
      all_goals
        rw [hq] at hls hfs
        replace hls := hide hls
        clear hq
      · simp only [Bool.false_eq_true, if_false] at hfs
        have g := hide hfs
        clear hfs hrd c0 c1 c2 c3 c4
        go_wp2
        (refine wp_region_wd (by kernel_rfl) (by kernel_rfl) ?_
         repeat (go_big_quiet_step ((go_at_call 79; exact Calls.wd (hls.out _))))
         refine wpQuiet_nil ?_
         intro w2 hw'
         obtain ⟨⟨wx, hb2⟩, hw''⟩ := hw'
         subst hw'')
        go_wp2
        go_roundw
        case rel => exact ⟨hbl.trans hb2, k + 1, by omega, by go_num, by rw [g.out]; exact hown.bl hb2⟩
        case measure => simp [intOf]; omega
      · simp only [if_true] at hfs
        have hft := hide hfs
        clear hfs
        generalize ((l.take k).filter fun x => idLess x.id o.id) = F at *
        have hFl2 : F.length ≤ 2 * l.length + 1 := by omega
        go_wp2
        (refine wp_region_wd (by kernel_rfl) (by kernel_rfl) ?_
         repeat (go_big_quiet_step ((go_at_call 79; exact Calls.wd (hls.out _))))
         refine wpQuiet_nil ?_
         intro w2 hw'
         obtain ⟨⟨wx, hb2⟩, hw''⟩ := hw'
         subst hw'')
        have hb02 := hbw.trans hb2
        have hbl2 := hbl.trans hb2
        replace c0 := (hb02.cell hbb).trans c0
        replace c1 := (hb02.cell hbb).trans c1
        replace c2 := (hb02.cell hbb).trans c2
        replace c3 := (hb02.cell hbb).trans c3
        replace c4 := (hb02.cell hbb).trans c4
        have hb2l := Nat.lt_of_lt_of_le hbb hb02.size
        clear C1 C2 O1 O2
        replace hown := hown.bl hb2
        have hown1 := hown.bl ((Bl.refl w2).alloc (.cells (opCells x S1 sc).toArray 33))
        have hsrc := hown.src (t := 33) hb02 (by omega) hrd
        have q1 : F.length + [x].length ≤ maxLen := by simp [maxLen]; omega
        have q2 : (F.length + [x].length) * 48 ≤ 140737488355328 := by simp; omega
        have hWs := hbl2.size
        go_wp2_with (at_builtin; refine Hid.out ?_)
        refine hide ?_
        refine wpList_append_any2 (C := cOp) (xs := F) (ys := [x]) rfl (.tmp 27) (.tmp 32) _ rfl 33 i0 _ 48 Try.underlying22 hi hz0 hz1 hz2 rfl u5 0 rfl hown1.1 (some ⟨w2.heap.size, 0, none⟩) 1 1 rfl rfl hsrc q1 q2 (Nat.zero_le _) ?_
        intro v9 w9 hown9 hg9 hf9
        have hb9 : Bl w1 w9 := OwnA.app (hbl2.alloc _) hown1 (Nat.le_refl _) hg9
        have ho9 := hown1.next (by rw [World.size_alloc]; omega) hown9 hf9
        clear hown hown1 hsrc hown9 hg9 hf9
        go_wp2_with fail
        go_roundw
        case rel => exact ⟨hb9, k + 1, by omega, by go_num, by rw [hft.out]; exact ho9⟩
        case measure => simp [intOf]; omega
    · have hkl : l.length ≤ k := by omega
      rw [List.take_of_length_le hkl] at hown
      have hFl : (l.filter fun x => idLess x.id o.id).length ≤ l.length := List.length_filter_le _ _
      generalize (l.filter fun x => idLess x.id o.id) = F1 at hown hFl e1
      have hbr := hbw1.trans hbl
      obtain ⟨o0, o1, o2, o3, o4⟩ := (hat.bl (hb1.trans hbl)).cells
      have hol := (hat.bl (hb1.trans hbl)).lt
      have hown1 := hown.bl ((Bl.refl wr).alloc (.cells (opCells o S d).toArray 33))
      have hsrc := hown.src (t := 33) hbr (by omega) hrdo
      have q1 : F1.length + [o].length ≤ maxLen := by simp [maxLen]; omega
      have q2 : (F1.length + [o].length) * 48 ≤ 140737488355328 := by simp; omega
      have hWs := hbl.size
      go_wp2_with (at_builtin; refine Hid.out ?_)
      refine hide ?_
      refine wpList_append_any2 (C := cOp) (xs := F1) (ys := [o]) rfl (.tmp 34) (.tmp 36) _ rfl 33 i0 _ 48 Try.underlying22 hi hz0 hz1 hz2 rfl u5 0 rfl hown1.1 (some ⟨wr.heap.size, 0, none⟩) 1 1 rfl rfl hsrc q1 q2 (Nat.zero_le _) ?_
      intro v9 w9 hown9 hg9 hf9
      have hb9 : Bl w1 w9 := OwnA.app (hbl.alloc _) hown1 (Nat.le_refl _) hg9
      have ho9 := hown1.next (by rw [World.size_alloc]; omega) hown9 hf9
      clear hown hown1 hsrc hown9 hg9 hf9 o0 o1 o2 o3 o4
      have hG : (F1 ++ [o]).length ≤ l.length + 1 := by rw [List.length_append, List.length_singleton]; omega
      generalize F1 ++ [o] = G at ho9 hG e1
      go_wp2_with fail
      go_loopw [5, 7] (fun v i wr => Bl w1 wr ∧ ∃ k : Nat, k ≤ l.length ∧ i = .int .i64 k ∧ OwnA cOp 33 w1.heap.size wr v (G ++ (l.take k).filter fun x => idLess o.id x.id)) (fun _ i _ => l.length - (intOf i).toNat)
      case atStart => exact ⟨hb9, 0, Nat.zero_le _, rfl, by rw [List.take_zero, List.filter_nil, List.append_nil]; exact ho9⟩
      case round =>
        clear hk hkl hlt hbl hbr hol hWs ho9 q1 q2 hb9
        obtain ⟨hbl, k, hk, rfl, hown⟩ := hrel
        by_cases hlt : k < l.length
        · obtain ⟨b, off, rfl, _, hbb⟩ := hA.addr (by omega)
          obtain ⟨x, hx⟩ := get_lt hlt
          obtain ⟨S1, sc, hrd, c0, c1, c2, c3, c4⟩ := hA.rdOp hx
          have hfs := filO_step (fun x => idLess o.id x.id) hx
          have hFl : ((l.take k).filter (fun x => idLess o.id x.id)).length ≤ l.length := Nat.le_trans (List.length_filter_le _ _) (by rw [List.length_take]; omega)
          clear hx
          have hbw := hbw1.trans hbl
          have hbr := Nat.lt_of_lt_of_le hbb hbw.size
          have hob := (hat.bl (hb1.trans hbl)).cells
          have hobl := (hat.bl (hb1.trans hbl)).lt
          have C1 := fun p : Wd wr => Wd.cell ((hbw.cell hbb).trans c1) hbr p
          have C2 := fun p : Wd wr => Wd.cell ((hbw.cell hbb).trans c2) hbr p
          have O1 := fun p : Wd wr => Wd.cell hob.2.1 hobl p
          have O2 := fun p : Wd wr => Wd.cell hob.2.2.1 hobl p
          have hki : (k : Int) < (l.length : Int) := by omega
          have hls := fun pw : Wd wr => refLess05 o.id x.id pw.v
          clear hob
          cases hq : idLess o.id x.id
          all_goals
            rw [hq] at hls hfs
            replace hls := hide hls
            clear hq
          · simp only [Bool.false_eq_true, if_false] at hfs
            have g := hide hfs
            clear hfs hrd c0 c1 c2 c3 c4
            go_wp2
            (refine wp_region_wd (by kernel_rfl) (by kernel_rfl) ?_
             repeat (go_big_quiet_step ((go_at_call 79; exact Calls.wd (hls.out _))))
             refine wpQuiet_nil ?_
             intro w2 hw'
             obtain ⟨⟨wx, hb2⟩, hw''⟩ := hw'
             subst hw'')
            go_wp2
            go_roundw
            case rel => exact ⟨hbl.trans hb2, k + 1, by omega, by go_num, by rw [g.out]; exact hown.bl hb2⟩
            case measure => simp [intOf]; omega
          · simp only [if_true] at hfs
            have hft := hide hfs
            clear hfs
            have hfa := hide (show G ++ (l.take (k + 1)).filter (fun x => idLess o.id x.id) = (G ++ (l.take k).filter fun x => idLess o.id x.id) ++ [x] by rw [hft.out, List.append_assoc])
            have hFl2 : (G ++ (l.take k).filter fun x => idLess o.id x.id).length ≤ 2 * l.length + 1 := by rw [List.length_append]; omega
            clear hft
            generalize (G ++ (l.take k).filter fun x => idLess o.id x.id) = F at *
            go_wp2
            (refine wp_region_wd (by kernel_rfl) (by kernel_rfl) ?_
             repeat (go_big_quiet_step ((go_at_call 79; exact Calls.wd (hls.out _))))
             refine wpQuiet_nil ?_
             intro w2 hw'
             obtain ⟨⟨wx, hb2⟩, hw''⟩ := hw'
             subst hw'')
            have hb02 := hbw.trans hb2
            have hbl2 := hbl.trans hb2
            replace c0 := (hb02.cell hbb).trans c0
            replace c1 := (hb02.cell hbb).trans c1
            replace c2 := (hb02.cell hbb).trans c2
            replace c3 := (hb02.cell hbb).trans c3
            replace c4 := (hb02.cell hbb).trans c4
            have hb2l := Nat.lt_of_lt_of_le hbb hb02.size
            clear C1 C2 O1 O2
            replace hown := hown.bl hb2
            have hown1 := hown.bl ((Bl.refl w2).alloc (.cells (opCells x S1 sc).toArray 33))
            have hsrc := hown.src (t := 33) hb02 (by omega) hrd
            have q1 : F.length + [x].length ≤ maxLen := by simp [maxLen]; omega
            have q2 : (F.length + [x].length) * 48 ≤ 140737488355328 := by simp; omega
            have hWs := hbl2.size
            go_wp2_with (at_builtin; refine Hid.out ?_)
            refine hide ?_
            refine wpList_append_any2 (C := cOp) (xs := F) (ys := [x]) rfl (.tmp 52) (.tmp 57) _ rfl 33 i0 _ 48 Try.underlying22 hi hz0 hz1 hz2 rfl u5 0 rfl hown1.1 (some ⟨w2.heap.size, 0, none⟩) 1 1 rfl rfl hsrc q1 q2 (Nat.zero_le _) ?_
            intro v9 w9 hown9 hg9 hf9
            have hb9 : Bl w1 w9 := OwnA.app (hbl2.alloc _) hown1 (Nat.le_refl _) hg9
            have ho9 := hown1.next (by rw [World.size_alloc]; omega) hown9 hf9
            clear hown hown1 hsrc hown9 hg9 hf9
            go_wp2_with fail
            go_roundw
            case rel => exact ⟨hb9, k + 1, by omega, by go_num, by rw [hfa.out]; exact ho9⟩
            case measure => simp [intOf]; omega
        · have hkl : l.length ≤ k := by omega
          rw [List.take_of_length_le hkl, ← e1.out] at hown
          obtain ⟨A5, c5, hv5, hr5, q1, q2⟩ := hown.reads
          subst hv5
          go_wp2
          go_ret
          exact ⟨A5, c5, rfl, q1, q2, hr5, hbw1.trans hbl⟩
end Go.Proofs.Ytedcopjpgijpjaa

namespace Go.Proofs.Ytedcopjpgijpjaa
open Go.RowKit

/-- What a call that hands back a list and a number says, whose elements stand anywhere. -/
def New2A (C : Codec Op) (l : List Op) (n : Int) (w : World) (e : Ending) (w' : World) : Prop := ∃ A c, e = .returned (.tuple #[.slice A l.length c, .int .i64 n]) ∧ l.length ≤ c ∧ c ≤ maxLen ∧ R C 0 w' A l ∧ Bl w w'

/-! ### Plain -/
theorem two_filters (l : List Op) (s : Id) : (l.filter fun x => idLess x.id s).length + (l.filter fun x => idLess s x.id).length ≤ l.length := by
  induction l with
  | nil => simp
  | cons x l ih =>
    simp only [List.filter_cons]
    cases h1 : idLess x.id s
    · cases h2 : idLess s x.id
      · simp; omega
      · simp; omega
    · rw [idLess_as h1]
      simp; omega
theorem withB_len (l : List Op) (o : Op) : (withB l o).length ≤ l.length + 1 := by
  unfold withB
  split
  · omega
  · have := two_filters l o.id
    simp only [List.length_append, List.length_singleton]
    omega
def bothB (a b : List Op) : List Op := b.foldl withB a
theorem both_take {a b : List Op} {k : Nat} {x : Op} (h : b[k]? = some x) : bothB a (b.take (k + 1)) = withB (bothB a (b.take k)) x := by
  rw [take_snoc h]
  unfold bothB
  rw [List.foldl_append]
  rfl
theorem both_len (a b : List Op) : (bothB a b).length ≤ a.length + b.length := by
  unfold bothB
  induction b generalizing a with
  | nil => simp
  | cons x b ih =>
    have h1 := ih (withB a x)
    have h2 := withB_len a x
    simp only [List.foldl_cons, List.length_cons]
    omega

set_option maxRecDepth 100000 in
set_option maxHeartbeats 1000000 in
theorem refBoth11 (A B : Option Addr) (c d : Nat) (a b : List Op) (w : World) (hab : a.length + b.length ≤ 900000) (hac : a.length ≤ c) (hcm : c ≤ maxLen) (hA : R cOp 0 w A a) (hB : R cOp 0 w B b) :
    Calls Try.prog 54 #[.slice A a.length c, .slice B b.length d] w (NewA cOp (bothB a b) w) := by
  go_enter Try.func54, Try.ntmps54
  go_wp2
  go_loopw [0, 5] (fun s0 s5 wr => Bl w wr ∧ ∃ (k : Nat) (l : List Op) (A' : Option Addr) (c' : Nat), k ≤ b.length ∧ s5 = .int .i64 k ∧ s0 = .slice A' l.length c' ∧ l.length ≤ c' ∧ c' ≤ maxLen ∧ R cOp 0 wr A' l ∧ l.length ≤ a.length + k ∧ Hid (l = bothB a (b.take k))) (fun _ s5 _ => b.length - (intOf s5).toNat)
  case atStart => exact ⟨Bl.refl _, 0, a, A, c, Nat.zero_le _, rfl, rfl, hac, hcm, hA, by omega, rfl⟩
  case round =>
    obtain ⟨hbl, k, l, A', c', hk, rfl, rfl, hlc, hcm', hR, hll, he⟩ := hrel
    by_cases hlt : k < b.length
    · obtain ⟨blk, off, rfl, _, hb⟩ := hB.addr (by omega)
      obtain ⟨x, hx⟩ := get_lt hlt
      obtain ⟨_, ho, S, sc, s1, s2, hS, c0, c1, c2, c3, c4⟩ := (hB.bl hbl).op hx
      have hbt := hide (both_take (a := a) hx)
      have hwl := withB_len l x
      have hki : (k : Int) < (b.length : Int) := by omega
      have hw := hide (refWith11 A' S c' sc l x wr (by omega) hlc hcm' hR ⟨ho, s1, s2, hS⟩)
      clear hx
      have hrel : Hid (withB l x = bothB a (b.take (k + 1))) := by rw [Hid, hbt.out, ← he.out]
      clear hbt he
      generalize withB l x = l2 at hw hwl hrel
      go_wp2_with fail
      refine hw.out.mono ?_
      rintro e w1 ⟨A1, c1', rfl, q1, q2, hr1, hb1⟩
      go_wp2_with fail
      go_roundw
      case rel => exact ⟨hbl.trans hb1, k + 1, l2, A1, c1', by omega, by go_num, rfl, q1, q2, hr1, by omega, hrel.out⟩
      case measure => simp [intOf]; omega
    · have hkl : b.length ≤ k := by omega
      rw [List.take_of_length_le hkl] at he
      go_wp2
      go_ret
      rw [← he.out]
      exact ⟨A', c', rfl, hlc, hcm', hR, hbl⟩

def rAddN (l : List Op) (o : Op) : Int := if bagMay l && opMay o then (if 1024 < (withB l o).length then 9 else 0) else 8
def rAddL (l : List Op) (o : Op) : List Op := if rAddN l o = 0 then withB l o else []

set_option maxRecDepth 100000 in
set_option maxHeartbeats 1000000 in
theorem refAdd11 (A S : Option Addr) (c d : Nat) (l : List Op) (o : Op) (w : World) (hl : l.length ≤ 900000) (hlc : l.length ≤ c) (hcm : c ≤ maxLen) (hA : R cOp 0 w A l) (ho : OpIn w o S d) :
    Calls Try.prog 23 #[.slice A l.length c, .agg #[.int .u8 o.kind, .int .u32 o.id.t, .int .u8 o.id.r, .slice S o.pl.length d, .int .i64 o.pt]] w (New2A cOp (rAddL l o) (rAddN l o) w) := by
  obtain ⟨L, hL⟩ : ∃ L, L = rAddL l o := ⟨_, rfl⟩
  obtain ⟨N, hN⟩ : ∃ N, N = rAddN l o := ⟨_, rfl⟩
  rw [← hL, ← hN]
  have hV0 : Bl w (w.alloc (.cells #[Value.int IntKind.u8 o.kind, Value.int IntKind.u32 o.id.t, Value.int IntKind.u8 o.id.r, Value.slice S o.pl.length d, Value.int IntKind.i64 o.pt] 33)) := (Bl.refl _).alloc _
  have hat := OpBox.new w o S d 33
  have hm1 := fun V (hb : Bl w V) => refMay11 A c l V (by unfold maxLen; omega) (hA.bl hb)
  have hm2 := fun V (hb : Bl w V) => refMay09 o S d V (ho.bl hb)
  cases h1 : bagMay l
  · have e2 : N = 8 := by rw [hN]; unfold rAddN; rw [h1]; rfl
    have e1 : L = [] := by rw [hL]; unfold rAddL; rw [← hN, e2]; rfl
    subst e1 e2
    rw [h1] at hm1
    replace hm1 := hide hm1
    clear hL hN h1 hm2 hat
    go_enter Try.func23, Try.ntmps23
    go_wp2_with fail
    refine (hm1.out _ hV0).mono ?_
    rintro e w1 ⟨rfl, hb1⟩
    go_wp2_with fail
    go_ret2
    exact ⟨none, 0, rfl, Nat.le_refl _, Nat.zero_le _, R.nil, hV0.trans hb1⟩
  rw [h1] at hm1
  replace hm1 := hide hm1
  cases h2 : opMay o
  · have e2 : N = 8 := by rw [hN]; unfold rAddN; rw [h1, h2]; rfl
    have e1 : L = [] := by rw [hL]; unfold rAddL; rw [← hN, e2]; rfl
    subst e1 e2
    rw [h2] at hm2
    replace hm2 := hide hm2
    clear hL hN h1 h2
    go_enter Try.func23, Try.ntmps23
    go_wp2_with fail
    refine (hm1.out _ hV0).mono ?_
    rintro e w1 ⟨rfl, hb1⟩
    obtain ⟨x0, x1, x2, x3, x4⟩ := (hat.bl hb1).cells
    have hxl := (hat.bl hb1).lt
    go_wp2_with fail
    refine (hm2.out _ (hV0.trans hb1)).mono ?_
    rintro e w2 ⟨rfl, hb2⟩
    go_wp2_with fail
    go_ret2
    exact ⟨none, 0, rfl, Nat.le_refl _, Nat.zero_le _, R.nil, hV0.trans (hb1.trans hb2)⟩
  rw [h2] at hm2
  replace hm2 := hide hm2
  have hN' := hide (show N = if 1024 < (withB l o).length then 9 else 0 by rw [hN]; unfold rAddN; rw [h1, h2]; rfl)
  have hL' := hide (show L = if N = 0 then withB l o else [] by rw [hL, hN]; rfl)
  have hw := fun V (hb : Bl w V) => refWith11 A S c d l o V (by omega) hlc hcm (hA.bl hb) (ho.bl hb)
  generalize withB l o = F at hw hN' hL'
  replace hw := hide hw
  clear hN hL h1 h2
  go_enter Try.func23, Try.ntmps23
  go_wp2_with fail
  refine (hm1.out _ hV0).mono ?_
  rintro e w1 ⟨rfl, hb1⟩
  obtain ⟨x0, x1, x2, x3, x4⟩ := (hat.bl hb1).cells
  have hxl := (hat.bl hb1).lt
  go_wp2_with fail
  refine (hm2.out _ (hV0.trans hb1)).mono ?_
  rintro e w2 ⟨rfl, hb2⟩
  have hb12 := hb1.trans hb2
  clear x0 x1 x2 x3 x4 hxl
  obtain ⟨x0, x1, x2, x3, x4⟩ := (hat.bl hb12).cells
  have hxl := (hat.bl hb12).lt
  go_wp2_with fail
  refine (hw.out _ (hV0.trans hb12)).mono ?_
  rintro e w3 ⟨A3, c3, rfl, q1, q2, hr3, hb3⟩
  have hbw3 := hV0.trans (hb12.trans hb3)
  by_cases hbig : 1024 < F.length
  · have e2 : N = 9 := by rw [hN'.out, if_pos hbig]
    have e1 : L = [] := by rw [hL'.out, e2]; rfl
    subst e1 e2
    have hbig' : (1024 : Int) < (F.length : Int) := by omega
    go_wp2_with fail
    go_ret2
    exact ⟨none, 0, rfl, Nat.le_refl _, Nat.zero_le _, R.nil, hbw3⟩
  · have e2 : N = 0 := by rw [hN'.out, if_neg hbig]
    have e1 : L = F := by rw [hL'.out, e2]; rfl
    subst e1 e2
    have hbig' : ¬ (1024 : Int) < (L.length : Int) := by omega
    go_wp2_with fail
    go_ret2
    exact ⟨A3, c3, rfl, q1, q2, hr3, hbw3⟩

def rJoinN (a b : List Op) : Int := if bagMay a && bagMay b then (if 1024 < (bothB a b).length then 9 else 0) else 8
def rJoinL (a b : List Op) : List Op := if rJoinN a b = 0 then bothB a b else []

set_option maxRecDepth 100000 in
set_option maxHeartbeats 1000000 in
theorem refJoin11 (A B : Option Addr) (c d : Nat) (a b : List Op) (w : World) (hab : a.length + b.length ≤ 900000) (hac : a.length ≤ c) (hcm : c ≤ maxLen) (hA : R cOp 0 w A a) (hB : R cOp 0 w B b) :
    Calls Try.prog 24 #[.slice A a.length c, .slice B b.length d] w (New2A cOp (rJoinL a b) (rJoinN a b) w) := by
  obtain ⟨L, hL⟩ : ∃ L, L = rJoinL a b := ⟨_, rfl⟩
  obtain ⟨N, hN⟩ : ∃ N, N = rJoinN a b := ⟨_, rfl⟩
  rw [← hL, ← hN]
  have hm1 := fun V (hb : Bl w V) => refMay11 A c a V (by unfold maxLen; omega) (hA.bl hb)
  have hm2 := fun V (hb : Bl w V) => refMay11 B d b V (by unfold maxLen; omega) (hB.bl hb)
  cases h1 : bagMay a
  · have e2 : N = 8 := by rw [hN]; unfold rJoinN; rw [h1]; rfl
    have e1 : L = [] := by rw [hL]; unfold rJoinL; rw [← hN, e2]; rfl
    subst e1 e2
    rw [h1] at hm1
    replace hm1 := hide hm1
    clear hL hN h1 hm2
    go_enter Try.func24, Try.ntmps24
    go_wp2_with fail
    refine (hm1.out _ (Bl.refl _)).mono ?_
    rintro e w1 ⟨rfl, hb1⟩
    go_wp2_with fail
    go_ret2
    exact ⟨none, 0, rfl, Nat.le_refl _, Nat.zero_le _, R.nil, hb1⟩
  rw [h1] at hm1
  replace hm1 := hide hm1
  cases h2 : bagMay b
  · have e2 : N = 8 := by rw [hN]; unfold rJoinN; rw [h1, h2]; rfl
    have e1 : L = [] := by rw [hL]; unfold rJoinL; rw [← hN, e2]; rfl
    subst e1 e2
    rw [h2] at hm2
    replace hm2 := hide hm2
    clear hL hN h1 h2
    go_enter Try.func24, Try.ntmps24
    go_wp2_with fail
    refine (hm1.out _ (Bl.refl _)).mono ?_
    rintro e w1 ⟨rfl, hb1⟩
    go_wp2_with fail
    refine (hm2.out _ hb1).mono ?_
    rintro e w2 ⟨rfl, hb2⟩
    go_wp2_with fail
    go_ret2
    exact ⟨none, 0, rfl, Nat.le_refl _, Nat.zero_le _, R.nil, hb1.trans hb2⟩
  rw [h2] at hm2
  replace hm2 := hide hm2
  have hN' := hide (show N = if 1024 < (bothB a b).length then 9 else 0 by rw [hN]; unfold rJoinN; rw [h1, h2]; rfl)
  have hL' := hide (show L = if N = 0 then bothB a b else [] by rw [hL, hN]; rfl)
  have hw := fun V (hb : Bl w V) => refBoth11 A B c d a b V hab hac hcm (hA.bl hb) (hB.bl hb)
  generalize bothB a b = F at hw hN' hL'
  replace hw := hide hw
  clear hN hL h1 h2
  go_enter Try.func24, Try.ntmps24
  go_wp2_with fail
  refine (hm1.out _ (Bl.refl _)).mono ?_
  rintro e w1 ⟨rfl, hb1⟩
  go_wp2_with fail
  refine (hm2.out _ hb1).mono ?_
  rintro e w2 ⟨rfl, hb2⟩
  have hb12 := hb1.trans hb2
  go_wp2_with fail
  refine (hw.out _ hb12).mono ?_
  rintro e w3 ⟨A3, c3, rfl, q1, q2, hr3, hb3⟩
  have hbw3 := hb12.trans hb3
  by_cases hbig : 1024 < F.length
  · have e2 : N = 9 := by rw [hN'.out, if_pos hbig]
    have e1 : L = [] := by rw [hL'.out, e2]; rfl
    subst e1 e2
    have hbig' : (1024 : Int) < (F.length : Int) := by omega
    go_wp2_with fail
    go_ret2
    exact ⟨none, 0, rfl, Nat.le_refl _, Nat.zero_le _, R.nil, hbw3⟩
  · have e2 : N = 0 := by rw [hN'.out, if_neg hbig]
    have e1 : L = F := by rw [hL'.out, e2]; rfl
    subst e1 e2
    have hbig' : ¬ (1024 : Int) < (L.length : Int) := by omega
    go_wp2_with fail
    go_ret2
    exact ⟨A3, c3, rfl, q1, q2, hr3, hbw3⟩

/-! ### In -/
set_option maxHeartbeats 1000000 in
theorem refIn07 (A : Option Addr) (c : Nat) (l : List Span) (t : Int) (w : World) (hl : l.length ≤ maxLen) (hA : R cSpan 0 w A l) :
    Calls Try.prog 111 #[.slice A l.length c, .int .u32 t] w fun e w' => e = .returned (.bool (spansHave l t)) ∧ Bl w w' := by
  unfold maxLen at hl
  obtain ⟨T, hT⟩ : ∃ T, T = spansHave l t := ⟨_, rfl⟩
  rw [← hT]
  replace hT := hide hT
  go_enter Try.func111, Try.ntmps111
  go_wp2
  go_loopw [5] (fun i wr => Bl w wr ∧ ∃ k : Nat, k ≤ l.length ∧ i = .int .i64 k ∧ Hid (spansHave (l.take k) t = false)) (fun i _ => l.length - (intOf i).toNat)
  case atStart => exact ⟨Bl.refl _, 0, Nat.zero_le _, rfl, by simp [Hid, spansHave]⟩
  case round =>
    obtain ⟨hbl, k, hk, rfl, hf⟩ := hrel
    by_cases hlt : k < l.length
    · have hR := hA.bl hbl
      obtain ⟨b, off, rfl, _, hb⟩ := hR.addr (by omega)
      obtain ⟨x, hx⟩ := get_lt hlt
      obtain ⟨_, ho, c0, c1⟩ := hR.span hx
      have hki : (k : Int) < (l.length : Int) := by omega
      have hst := spansHave_take (t := t) hx
      rw [hf.out, Bool.false_or] at hst
      have hall : spanIn x t = true → true = T := fun h => by
        rw [hT.out]
        unfold spansHave
        rw [eq_comm, List.any_eq_true]
        exact ⟨x, List.mem_of_getElem? hx, h⟩
      by_cases h1 : x.f ≤ t
      · by_cases h2 : t ≤ x.t
        · have g := hide (hall (by unfold spanIn; rw [decide_eq_true h1, decide_eq_true h2]; rfl))
          clear hx hst hall hf
          go_wp2
          go_ret
          exact ⟨ret_bool g.out, hbl⟩
        · have g := hide (show spansHave (l.take (k + 1)) t = false by rw [hst]; unfold spanIn; rw [decide_eq_false h2, Bool.and_false])
          clear hx hst hall hf
          go_wp2
          go_roundw
          case rel => exact ⟨hbl, k + 1, by omega, by go_num, g.out⟩
          case measure => simp [intOf]; omega
      · have g := hide (show spansHave (l.take (k + 1)) t = false by rw [hst]; unfold spanIn; rw [decide_eq_false h1, Bool.false_and])
        clear hx hst hall hf
        go_wp2
        go_roundw
        case rel => exact ⟨hbl, k + 1, by omega, by go_num, g.out⟩
        case measure => simp [intOf]; omega
    · have hkl : k = l.length := by omega
      have g := hide (show false = T by have := hf.out; rw [hkl, List.take_length] at this; rw [hT.out, this])
      clear hf
      go_wp2
      go_ret
      exact ⟨ret_bool g.out, hbl⟩

def firstOf (l : List Times) (r : Int) : List Span := match l.find? (fun x => decide (x.r = r)) with
  | some x => x.s
  | none => []
theorem find_take_none {l : List Times} {k : Nat} {x : Times} {r : Int} (h : l[k]? = some x) (hno : ∀ y ∈ l.take k, y.r ≠ r) (hx : x.r = r) : l.find? (fun x => decide (x.r = r)) = some x := by
  rw [← List.take_append_drop k l, List.find?_append, List.find?_eq_none.2 (fun y hy => by simpa using hno y hy), drop_cons h, List.find?_cons]
  simp [hx]

set_option maxHeartbeats 1000000 in
theorem refSpans08 (A : Option Addr) (c : Nat) (l : List Times) (r : Int) (w : World) (hl : l.length ≤ maxLen) (hA : R cTimes 0 w A l) :
    ∃ A' c', (firstOf l r).length ≤ c' ∧ c' ≤ maxLen ∧ R cSpan 0 w A' (firstOf l r) ∧ ∀ V, Bl w V → Calls Try.prog 112 #[.slice A l.length c, .int .u8 r] V fun e w' => e = .returned (.slice A' (firstOf l r).length c') ∧ Bl V w' := by
  unfold maxLen at hl
  have hres : ∃ A' c', (firstOf l r).length ≤ c' ∧ c' ≤ maxLen ∧ R cSpan 0 w A' (firstOf l r) ∧ ((l.find? (fun x => decide (x.r = r)) = none ∧ A' = none ∧ c' = 0) ∨ ∃ (k : Nat) (x : Times) (b off : Nat), l[k]? = some x ∧ x.r = r ∧ A = some ⟨b, off, none⟩ ∧ b < w.heap.size ∧ firstOf l r = x.s ∧ (∀ y ∈ l.take k, y.r ≠ r) ∧ w.cell? ⟨b, off + k * 2, none⟩ = some (.int .u8 x.r) ∧ w.cell? ⟨b, off + k * 2 + 1, none⟩ = some (.slice A' x.s.length c')) := by
    cases hf : l.find? (fun x => decide (x.r = r)) with
    | none =>
      refine ⟨none, 0, ?_, Nat.zero_le _, ?_, .inl ⟨rfl, rfl, rfl⟩⟩
      · unfold firstOf; rw [hf]; exact Nat.le_refl _
      · unfold firstOf; rw [hf]; exact R.nil
    | some x =>
      have he : firstOf l r = x.s := by unfold firstOf; rw [hf]
      obtain ⟨hx, asl, bs, hls, hno⟩ := List.find?_eq_some_iff_append.1 hf
      have hk : l[asl.length]? = some x := by rw [hls, List.getElem?_append_right (Nat.le_refl _), Nat.sub_self]; rfl
      obtain ⟨b, off, rfl, _, hb⟩ := hA.addr (by have := (List.getElem?_eq_some_iff.1 hk).1; omega)
      obtain ⟨_, ho, B, d, hcd, hdm, c0, c1, hB⟩ := hA.times hk
      refine ⟨B, d, by rw [he]; exact hcd, hdm, by rw [he]; exact hB, .inr ⟨asl.length, x, b, off, hk, by simpa using hx, rfl, hb, he, fun y hy => ?_, c0, c1⟩⟩
      rw [hls, List.take_left'] at hy
      · have := hno y hy
        simpa using this
      · rfl
  obtain ⟨A', c', h1, h2, h3, h4⟩ := hres
  refine ⟨A', c', h1, h2, h3, fun V hV => ?_⟩
  have hn63 : ∀ n : Nat, n ≤ maxLen → n ≤ 9223372036854775807 := fun n h => by unfold maxLen at h; omega
  rcases h4 with ⟨hnone, rfl, rfl⟩ | ⟨k, x, b, off, hk, hxr, rfl, hb, he, hno, c0, c1⟩
  · have he : firstOf l r = [] := by unfold firstOf; rw [hnone]
    rw [he]
    have hall := hide (fun y hy => by simpa using List.find?_eq_none.1 hnone y hy : ∀ y ∈ l, y.r ≠ r)
    clear h1 h2 h3 he hnone
    go_enter Try.func112, Try.ntmps112
    go_wp2
    go_loopw [5] (fun i wr => Bl V wr ∧ ∃ k : Nat, k ≤ l.length ∧ i = .int .i64 k) (fun i _ => l.length - (intOf i).toNat)
    case atStart => exact ⟨Bl.refl _, 0, Nat.zero_le _, rfl⟩
    case round =>
      obtain ⟨hbl, k, hk, rfl⟩ := hrel
      by_cases hlt : k < l.length
      · have hR := hA.bl (hV.trans hbl)
        obtain ⟨b, off, rfl, _, hb⟩ := hR.addr (by omega)
        obtain ⟨y, hy⟩ := get_lt hlt
        obtain ⟨_, ho, B, d, hcd, hdm, c0, c1, hB⟩ := hR.times hy
        have hne : (y.r == r) = false := by simpa using hall.out y (List.mem_of_getElem? hy)
        have hki : (k : Int) < (l.length : Int) := by omega
        clear hy
        go_wp2
        go_roundw
        case rel => exact ⟨hbl, k + 1, by omega, by go_num⟩
        case measure => simp [intOf]; omega
      · have hkl : l.length ≤ k := by omega
        go_wp2
        go_ret
        exact ⟨rfl, hbl⟩
  · rw [he] at h1 ⊢
    have hkl := (List.getElem?_eq_some_iff.1 hk).1
    have hno := hide hno
    have hk' := hide hk
    clear h3 he hk
    go_enter Try.func112, Try.ntmps112
    go_wp2
    go_loopw [5] (fun i wr => Bl V wr ∧ ∃ j : Nat, j ≤ k ∧ i = .int .i64 j) (fun i _ => l.length - (intOf i).toNat)
    case atStart => exact ⟨Bl.refl _, 0, Nat.zero_le _, rfl⟩
    case round =>
      obtain ⟨hbl, j, hj, rfl⟩ := hrel
      have hbV := hV.trans hbl
      have hbr := Nat.lt_of_lt_of_le hb hbV.size
      by_cases hjk : j < k
      · obtain ⟨y, hy⟩ := get_lt (show j < l.length by omega)
        obtain ⟨_, ho, B, d, hcd, hdm, d0, d1, hB⟩ := (hA.bl hbV).times hy
        have hne : (y.r == r) = false := by simpa using hno.out y (List.mem_iff_getElem?.2 ⟨j, by rw [List.getElem?_take, if_pos hjk]; exact hy⟩)
        have hji : (j : Int) < (l.length : Int) := by omega
        clear hy
        go_wp2
        go_roundw
        case rel => exact ⟨hbl, j + 1, by omega, by go_num⟩
        case measure => simp [intOf]; omega
      · obtain rfl : j = k := by omega
        have e0 := (hbV.cell hb).trans c0
        have e1 := (hbV.cell hb).trans c1
        have heq : (x.r == r) = true := by simpa using hxr
        have hji : (j : Int) < (l.length : Int) := by omega
        clear c0 c1 hxr
        go_wp2
        go_ret
        exact ⟨rfl, hbl⟩

def clockIn (l : List Times) (a : Id) : Bool := spansHave (firstOf l a.r) a.t

set_option maxRecDepth 100000 in
set_option maxHeartbeats 1000000 in
theorem refIn08 (A : Option Addr) (c : Nat) (l : List Times) (a : Id) (w : World) (hl : l.length ≤ maxLen) (hA : R cTimes 0 w A l) :
    Calls Try.prog 87 #[.slice A l.length c, .agg #[.int .u32 a.t, .int .u8 a.r]] w fun e w' => e = .returned (.bool (clockIn l a)) ∧ Bl w w' := by
  obtain ⟨W, hW⟩ : ∃ W, W = w.alloc (.cells #[Value.int IntKind.u32 a.t, Value.int IntKind.u8 a.r] 30) := ⟨_, rfl⟩
  have hbW : Bl w W := by rw [hW]; exact (Bl.refl _).alloc _
  have at0 : IdBox W w.heap.size a := by rw [hW]; exact IdBox.new w a _
  have hsl := at0.lt
  have S0 := fun p : Wd W => Wd.cell at0.c0 hsl p
  have S1 := fun p : Wd W => Wd.cell at0.c1 hsl p
  obtain ⟨A', c', h1, h2, hR, hsp⟩ := refSpans08 A c l a.r w hl hA
  have hs := hide (fun pw : Wd W => hsp pw.v (hbW.trans pw.h))
  have hi := hide (fun pw : Wd W => refIn07 A' c' (firstOf l a.r) a.t pw.v (Nat.le_trans h1 h2) (hR.bl (hbW.trans pw.h)))
  unfold clockIn
  clear hsp hR at0
  go_enter Try.func87, Try.ntmps87
  go_wp2_with fail
  rw [← hW]
  clear hW
  (refine wp_region_wd (by kernel_rfl) (by kernel_rfl) ?_
   repeat (go_big_quiet_step ((first | (go_at_call 112; exact Calls.wd (hs.out _)) | (go_at_call 111; exact Calls.wd (hi.out _)))))
   refine wpQuiet_nil ?_
   intro w2 hw'
   obtain ⟨⟨wx, hb2⟩, hw''⟩ := hw'
   subst hw'')
  go_wp2_with fail
  go_ret
  exact ⟨rfl, hbW.trans hb2⟩
end Go.Proofs.Ytedcopjpgijpjaa

namespace Go.Proofs.Ytedcopjpgijpjaa
open Go.RowKit

def leftL (l : List Op) (m : List Times) : List Op := l.filter fun x => !clockIn m x.id

set_option maxRecDepth 100000 in
set_option maxHeartbeats 2000000 in
theorem refLeft11 (A C : Option Addr) (c d : Nat) (l : List Op) (m : List Times) (w : World) (hl : l.length ≤ 1000000) (hm : m.length ≤ maxLen) (hA : R cOp 0 w A l) (hC : R cTimes 0 w C m) :
    Calls Try.prog 56 #[.slice A l.length c, .slice C m.length d] w (NewA cOp (leftL l m) w) := by
  obtain ⟨i0, hi, hz0, hz1, hz2⟩ := info_parts Try.infoOp
  unfold leftL
  go_enter Try.func56, Try.ntmps56
  go_wp2
  go_loopw [5, 6] (fun v i wr => Bl w wr ∧ ∃ k : Nat, k ≤ l.length ∧ i = .int .i64 k ∧ OwnA cOp 33 w.heap.size wr v ((l.take k).filter fun x => !clockIn m x.id)) (fun _ i _ => l.length - (intOf i).toNat)
  case atStart => exact ⟨Bl.refl _, 0, Nat.zero_le _, rfl, OwnA.nil⟩
  case round =>
    obtain ⟨hbl, k, hk, rfl, hown⟩ := hrel
    by_cases hlt : k < l.length
    · obtain ⟨b, off, rfl, _, hbb⟩ := hA.addr (by omega)
      obtain ⟨x, hx⟩ := get_lt hlt
      obtain ⟨S1, sc, hrd, c0, c1, c2, c3, c4⟩ := hA.rdOp hx
      have hfs := filO_step (fun x => !clockIn m x.id) hx
      have hFl : ((l.take k).filter fun x => !clockIn m x.id).length ≤ l.length := Nat.le_trans (List.length_filter_le _ _) (by rw [List.length_take]; omega)
      clear hx
      have hbr := Nat.lt_of_lt_of_le hbb hbl.size
      replace c0 := (hbl.cell hbb).trans c0
      replace c1 := (hbl.cell hbb).trans c1
      replace c2 := (hbl.cell hbb).trans c2
      replace c3 := (hbl.cell hbb).trans c3
      replace c4 := (hbl.cell hbb).trans c4
      have hki : (k : Int) < (l.length : Int) := by omega
      have hin := refIn08 C d m x.id wr hm (hC.bl hbl)
      cases hq : clockIn m x.id
      · rw [hq] at hin hfs
        simp only [Bool.not_false, if_true] at hfs
        have hft := hide hfs
        replace hin := hide hin
        clear hq hfs
        generalize ((l.take k).filter fun x => !clockIn m x.id) = F at *
        go_wp2_with fail
        refine hin.out.mono ?_
        rintro e w2 ⟨rfl, hb2⟩
        have hbl2 := hbl.trans hb2
        replace c0 := (hb2.cell hbr).trans c0
        replace c1 := (hb2.cell hbr).trans c1
        replace c2 := (hb2.cell hbr).trans c2
        replace c3 := (hb2.cell hbr).trans c3
        replace c4 := (hb2.cell hbr).trans c4
        have hb2l := Nat.lt_of_lt_of_le hbb hbl2.size
        replace hown := hown.bl hb2
        have hown1 := hown.bl ((Bl.refl w2).alloc (.cells (opCells x S1 sc).toArray 33))
        have hsrc := hown.src (t := 33) hbl2 (Nat.le_refl _) hrd
        have q1 : F.length + [x].length ≤ maxLen := by simp [maxLen]; omega
        have q2 : (F.length + [x].length) * 48 ≤ 140737488355328 := by simp; omega
        have hWs := hbl2.size
        go_wp2_with (at_builtin; refine Hid.out ?_)
        refine hide ?_
        refine wpList_append_any2 (C := cOp) (xs := F) (ys := [x]) rfl (.tmp 21) (.tmp 26) _ rfl 33 i0 _ 48 Try.underlying22 hi hz0 hz1 hz2 rfl u5 0 rfl hown1.1 (some ⟨w2.heap.size, 0, none⟩) 1 1 rfl rfl hsrc q1 q2 (Nat.zero_le _) ?_
        intro v9 w9 hown9 hg9 hf9
        have hb9 : Bl w w9 := OwnA.app (hbl2.alloc _) hown1 (Nat.le_refl _) hg9
        have ho9 := hown1.next (by rw [World.size_alloc]; omega) hown9 hf9
        clear hown hown1 hsrc hown9 hg9 hf9
        go_wp2_with fail
        go_roundw
        case rel => exact ⟨hb9, k + 1, by omega, by go_num, by rw [hft.out]; exact ho9⟩
        case measure => simp [intOf]; omega
      · rw [hq] at hin hfs
        simp only [Bool.not_true, Bool.false_eq_true, if_false] at hfs
        have g := hide hfs
        replace hin := hide hin
        clear hq hfs
        go_wp2_with fail
        refine hin.out.mono ?_
        rintro e w2 ⟨rfl, hb2⟩
        go_wp2_with fail
        go_roundw
        case rel => exact ⟨hbl.trans hb2, k + 1, by omega, by go_num, by rw [g.out]; exact hown.bl hb2⟩
        case measure => simp [intOf]; omega
    · have hkl : l.length ≤ k := by omega
      rw [List.take_of_length_le hkl] at hown
      obtain ⟨A5, c5, hv5, hr5, q1, q2⟩ := hown.reads
      subst hv5
      go_wp2
      go_ret
      exact ⟨A5, c5, rfl, q1, q2, hr5, hbl⟩

def rLessL (l : List Op) (m : List Times) : List Op := if lessN l m = 0 then leftL l m else []

set_option maxRecDepth 100000 in
set_option maxHeartbeats 2000000 in
theorem refLess11 (A C : Option Addr) (c d : Nat) (l : List Op) (m : List Times) (w : World) (hl : l.length ≤ 1000000) (hm : m.length ≤ maxLen) (hA : R cOp 0 w A l) (hC : R cTimes 0 w C m) :
    Calls Try.prog 25 #[.slice A l.length c, .slice C m.length d] w (New2A cOp (rLessL l m) (lessN l m) w) := by
  obtain ⟨L, hL⟩ : ∃ L, L = rLessL l m := ⟨_, rfl⟩
  obtain ⟨N, hN⟩ : ∃ N, N = lessN l m := ⟨_, rfl⟩
  rw [← hL, ← hN]
  have hm1 := fun V (hb : Bl w V) => refMay11 A c l V (by unfold maxLen; omega) (hA.bl hb)
  have hm2 := fun V (hb : Bl w V) => refMay08 C d m V hm (hC.bl hb)
  cases h1 : bagMay l
  · have e2 : N = 8 := by rw [hN]; unfold lessN; rw [h1]; rfl
    have e1 : L = [] := by rw [hL]; unfold rLessL; rw [← hN, e2]; rfl
    subst e1 e2
    rw [h1] at hm1
    replace hm1 := hide hm1
    clear hL hN h1 hm2
    go_enter Try.func25, Try.ntmps25
    go_wp2_with fail
    refine (hm1.out _ (Bl.refl _)).mono ?_
    rintro e w1 ⟨rfl, hb1⟩
    go_wp2_with fail
    go_ret2
    exact ⟨none, 0, rfl, Nat.le_refl _, Nat.zero_le _, R.nil, hb1⟩
  rw [h1] at hm1
  replace hm1 := hide hm1
  cases h2 : clockMay m
  · have e2 : N = 8 := by rw [hN]; unfold lessN; rw [h1, h2]; rfl
    have e1 : L = [] := by rw [hL]; unfold rLessL; rw [← hN, e2]; rfl
    subst e1 e2
    rw [h2] at hm2
    replace hm2 := hide hm2
    clear hL hN h1 h2
    go_enter Try.func25, Try.ntmps25
    go_wp2_with fail
    refine (hm1.out _ (Bl.refl _)).mono ?_
    rintro e w1 ⟨rfl, hb1⟩
    go_wp2_with fail
    refine (hm2.out _ hb1).mono ?_
    rintro e w2 ⟨rfl, hb2⟩
    go_wp2_with fail
    go_ret2
    exact ⟨none, 0, rfl, Nat.le_refl _, Nat.zero_le _, R.nil, hb1.trans hb2⟩
  rw [h2] at hm2
  replace hm2 := hide hm2
  have e2 : N = 0 := by rw [hN]; unfold lessN; rw [h1, h2]; rfl
  have e1 := hide (show L = leftL l m by rw [hL]; unfold rLessL; rw [← hN, e2]; rfl)
  have hle := fun V (hb : Bl w V) => refLeft11 A C c d l m V hl hm (hA.bl hb) (hC.bl hb)
  rw [← e1.out] at hle
  replace hle := hide hle
  subst e2
  clear hL hN h1 h2 e1
  go_enter Try.func25, Try.ntmps25
  go_wp2_with fail
  refine (hm1.out _ (Bl.refl _)).mono ?_
  rintro e w1 ⟨rfl, hb1⟩
  go_wp2_with fail
  refine (hm2.out _ hb1).mono ?_
  rintro e w2 ⟨rfl, hb2⟩
  have hb12 := hb1.trans hb2
  go_wp2_with fail
  refine (hle.out _ hb12).mono ?_
  rintro e w3 ⟨A3, c3, rfl, q1, q2, hr3, hb3⟩
  go_wp2_with fail
  go_ret2
  exact ⟨A3, c3, rfl, q1, q2, hr3, hb12.trans hb3⟩

/-! ### Plain: the clocks -/
theorem tab_from (r : Int) : ∀ (l : List Times) (last : Int) (acc : List Span), clockFrom last l = true → l.foldl (fun acc x => if x.r = r then x.s else acc) acc = match l.find? (fun x => decide (x.r = r)) with | some x => x.s | none => acc
  | [], _, acc, _ => rfl
  | x :: l, last, acc, h => by
    simp only [clockFrom, Bool.and_eq_true, decide_eq_true_eq] at h
    rw [List.foldl_cons, List.find?_cons]
    by_cases hx : x.r = r
    · rw [if_pos hx, tab_from r l x.r x.s h.2]
      have hno : l.find? (fun y => decide (y.r = r)) = none := List.find?_eq_none.2 fun y hy => by
        have := clock_after l x.r h.2 y hy
        simp
        omega
      rw [hno]
      simp [hx]
    · rw [if_neg hx, tab_from r l x.r acc h.2]
      simp [hx]
where
  clock_after : ∀ (l : List Times) (last : Int), clockFrom last l = true → ∀ y ∈ l, last < y.r
    | [], _, _, y, hy => by cases hy
    | x :: l, last, h, y, hy => by
      simp only [clockFrom, Bool.and_eq_true, decide_eq_true_eq] at h
      rcases List.mem_cons.1 hy with rfl | hy
      · exact h.1.1.1.1
      · have := clock_after l x.r h.2 y hy
        omega
theorem tab_first {l : List Times} (h : clockMay l = true) (r : Int) : tabOf l r = firstOf l r := tab_from r l (-1) [] h
theorem first_may {l : List Times} (h : clockMay l = true) (r : Int) : spansMay (firstOf l r) = true := by
  unfold firstOf
  cases hf : l.find? (fun x => decide (x.r = r)) with
  | none => decide
  | some x => exact clockFrom_all _ (show clockFrom (-1) l = true from h) x (List.mem_of_find?_eq_some hf)
theorem clock_in {l : List Times} (h : clockMay l = true) (a : Id) : clockIn l a = clockHas l a := by
  unfold clockIn clockHas spanHasB
  rw [h, tab_first h, first_may h]
  rfl
theorem rLess_eq (l : List Op) (m : List Times) : rLessL l m = lessL l m := by
  unfold rLessL lessL
  by_cases hN : lessN l m = 0
  · rw [if_pos hN, if_pos hN]
    unfold leftL
    have hm : clockMay m = true := by
      unfold lessN at hN
      cases h : clockMay m
      · rw [h, Bool.and_false] at hN; cases hN
      · rfl
    congr 1
    funext x
    rw [clock_in hm]
  · rw [if_neg hN, if_neg hN]

/-! ### Plain: put, joined -/
theorem with_eq {l : List Op} {o : Op} (hs : Srt l) : withB l o = if hasId l o.id then l else l.take (posOf l o.id) ++ o :: l.drop (posOf l o.id) := by
  unfold withB
  cases hh : hasId l o.id
  · simp only [Bool.false_eq_true, if_false]
    have h1 := take_less (l := l) (s := o.id)
    have h2 : ∀ x ∈ l.drop (posOf l o.id), idLess o.id x.id = true := fun x hx => by
      have h4 := drop_not hs x hx
      cases h5 : idLess o.id x.id
      · exact absurd (idLess_tot h4 h5) (hasId_false hh x (List.mem_of_mem_drop hx))
      · rfl
    have e1 : (l.filter fun x => idLess x.id o.id) = l.take (posOf l o.id) := by
      conv => lhs; rw [← List.take_append_drop (posOf l o.id) l]
      rw [List.filter_append, List.filter_eq_self.2 h1, List.filter_eq_nil_iff.2 fun x hx => by rw [drop_not hs x hx]; simp, List.append_nil]
    have e2 : (l.filter fun x => idLess o.id x.id) = l.drop (posOf l o.id) := by
      conv => lhs; rw [← List.take_append_drop (posOf l o.id) l]
      rw [List.filter_append, List.filter_eq_self.2 h2, List.filter_eq_nil_iff.2 fun x hx => by rw [idLess_as (h1 x hx)]; simp, List.nil_append]
    rw [e1, e2, List.append_assoc]
    rfl
  · rfl
theorem rAdd_eq (l : List Op) (o : Op) : rAddN l o = addN l o ∧ rAddL l o = addL l o := by
  have hN : rAddN l o = addN l o := by
    unfold rAddN addN
    cases h : bagMay l && opMay o
    · rfl
    · simp only [if_true]
      rw [Bool.and_eq_true] at h
      obtain ⟨h1, h2, -⟩ := bagMay_parts h.1
      rw [with_eq h2]
      cases hh : hasId l o.id
      · simp only [Bool.false_eq_true, if_false]
        have hlen : (l.take (posOf l o.id) ++ o :: l.drop (posOf l o.id)).length = l.length + 1 := by
          have := congrArg List.length (List.take_append_drop (posOf l o.id) l)
          rw [List.length_append] at this
          rw [List.length_append, List.length_cons]
          omega
        rw [hlen]
        by_cases h3 : l.length = 1024
        · rw [if_pos (by omega), if_pos h3]
        · rw [if_neg (by omega), if_neg h3]
      · simp only [if_true]
        rw [if_neg (by omega)]
  refine ⟨hN, ?_⟩
  unfold rAddL addL
  rw [hN]
  by_cases h0 : addN l o = 0
  · rw [if_pos h0, if_pos h0]
    exact with_eq (bagMay_parts (addN_parts h0).1).2.1
  · rw [if_neg h0, if_neg h0]
theorem merge_mem2 : ∀ (f : Nat) (a b : List Op), a.length + b.length ≤ f → Srt a → Srt b → ∀ x, x ∈ mergeF f a b ↔ x ∈ a ∨ (x ∈ b ∧ ∀ u ∈ a, u.id ≠ x.id)
  | 0, a, b, h, _, _, x => by
    have h1 := List.eq_nil_of_length_eq_zero (show a.length = 0 by omega)
    have h2 := List.eq_nil_of_length_eq_zero (show b.length = 0 by omega)
    subst h1 h2
    simp [mergeF]
  | f + 1, [], [], _, _, _, x => by simp [mergeF]
  | f + 1, [], y :: b, h, ha, hb, x => by
    rw [mergeF, List.mem_cons, merge_mem2 f [] b (by simp at h ⊢; omega) ha (List.pairwise_cons.1 hb).2]
    simp
  | f + 1, z :: a, [], h, ha, hb, x => by
    rw [mergeF, List.mem_cons, merge_mem2 f a [] (by simp at h ⊢; omega) (List.pairwise_cons.1 ha).2 hb]
    simp
  | f + 1, z :: a, y :: b, h, ha, hb, x => by
    have hz := List.pairwise_cons.1 ha
    have hy := List.pairwise_cons.1 hb
    simp only [List.length_cons] at h
    rw [mergeF]
    cases h1 : idLess z.id y.id
    · cases h2 : idLess y.id z.id
      · have e := idLess_tot h1 h2
        simp only [Bool.false_eq_true, if_false]
        rw [List.mem_cons, merge_mem2 f a b (by omega) hz.2 hy.2]
        simp only [List.mem_cons, forall_eq_or_imp]
        constructor
        · rintro (h | h | ⟨h, h'⟩)
          · exact .inl (.inl h)
          · exact .inl (.inr h)
          · exact .inr ⟨.inr h, (fun e' => by have := hy.1 x h; rw [← e, e', idLess_irr] at this; cases this), h'⟩
        · rintro ((h | h) | ⟨h | h, h', h''⟩)
          · exact .inl h
          · exact .inr (.inl h)
          · rw [h] at h'; exact absurd e h'
          · exact .inr (.inr ⟨h, h''⟩)
      · simp only [Bool.false_eq_true, if_false, if_true]
        rw [List.mem_cons, merge_mem2 f (z :: a) b (by simp only [List.length_cons]; omega) ha hy.2]
        simp only [List.mem_cons, forall_eq_or_imp]
        constructor
        · rintro (h | (h | h) | ⟨h, h'⟩)
          · subst h
            exact .inr ⟨.inl rfl, (fun e' => by rw [e', idLess_irr] at h2; cases h2), (fun u hu e' => by
              have := idLess_tr h2 (hz.1 u hu)
              rw [e', idLess_irr] at this
              cases this)⟩
          · exact .inl (.inl h)
          · exact .inl (.inr h)
          · exact .inr ⟨.inr h, h'⟩
        · rintro ((h | h) | ⟨h | h, h'⟩)
          · exact .inr (.inl (.inl h))
          · exact .inr (.inl (.inr h))
          · exact .inl h
          · exact .inr (.inr ⟨h, h'⟩)
    · simp only [if_true]
      rw [List.mem_cons, merge_mem2 f a (y :: b) (by simp only [List.length_cons]; omega) hz.2 hb]
      simp only [List.mem_cons, forall_eq_or_imp]
      constructor
      · rintro (h | h | ⟨h, h'⟩)
        · exact .inl (.inl h)
        · exact .inl (.inr h)
        · refine .inr ⟨h, fun e' => ?_, h'⟩
          rcases h with h | h
          · subst h; rw [e', idLess_irr] at h1; cases h1
          · have := idLess_tr h1 (hy.1 x h)
            rw [e', idLess_irr] at this
            cases this
      · rintro ((h | h) | ⟨h, h', h''⟩)
        · exact .inl h
        · exact .inr (.inl h)
        · exact .inr (.inr ⟨h, h''⟩)
theorem with_srt {l : List Op} (o : Op) (hs : Srt l) : Srt (withB l o) ∧ ∀ x, x ∈ withB l o ↔ x ∈ l ∨ (x = o ∧ hasId l o.id = false) := by
  rw [with_eq hs]
  cases hh : hasId l o.id
  · simp only [Bool.false_eq_true, if_false]
    refine ⟨ins_srt hs hh, fun x => ?_⟩
    rw [ins_mem]
    constructor
    · rintro (h | h) <;> simp [h]
    · rintro (h | ⟨h, -⟩) <;> simp [h]
  · simp only [if_true]
    exact ⟨hs, fun x => by simp⟩
theorem both_mem : ∀ (b a : List Op), Srt a → Srt b → Srt (bothB a b) ∧ ∀ x, x ∈ bothB a b ↔ x ∈ a ∨ (x ∈ b ∧ ∀ u ∈ a, u.id ≠ x.id)
  | [], a, ha, _ => ⟨ha, fun x => by simp [bothB]⟩
  | y :: b, a, ha, hb => by
    have hy := List.pairwise_cons.1 hb
    obtain ⟨h1, h2⟩ := with_srt y ha
    obtain ⟨h3, h4⟩ := both_mem b (withB a y) h1 hy.2
    refine ⟨h3, fun x => ?_⟩
    show x ∈ bothB (withB a y) b ↔ _
    rw [h4, h2]
    cases hh : hasId a y.id
    · constructor
      · rintro ((h | ⟨h, -⟩) | ⟨h, h'⟩)
        · exact .inl h
        · subst h
          exact .inr ⟨by simp, hasId_false hh⟩
        · exact .inr ⟨by simp [h], fun u hu => h' u ((h2 u).2 (.inl hu))⟩
      · rintro (h | ⟨h, h'⟩)
        · exact .inl (.inl h)
        · rcases List.mem_cons.1 h with hxy | hxb
          · exact .inl (.inr ⟨hxy, rfl⟩)
          · refine .inr ⟨hxb, fun u hu => ?_⟩
            rcases (h2 u).1 hu with hu | ⟨hu, -⟩
            · exact h' u hu
            · subst hu
              intro e
              have := hy.1 x hxb
              rw [e, idLess_irr] at this
              cases this
    · have hsame : ∀ u, u ∈ withB a y ↔ u ∈ a := fun u => by rw [h2, hh]; simp
      obtain ⟨z, hz, hze⟩ := hasId_true hh
      constructor
      · rintro ((h | ⟨-, h⟩) | ⟨h, h'⟩)
        · exact .inl h
        · cases h
        · exact .inr ⟨by simp [h], fun u hu => h' u ((hsame u).2 hu)⟩
      · rintro (h | ⟨h, h'⟩)
        · exact .inl (.inl h)
        · rcases List.mem_cons.1 h with h | h
          · subst h; exact absurd hze (h' z hz)
          · exact .inr ⟨h, fun u hu => h' u ((hsame u).1 hu)⟩
theorem rJoin_eq (a b : List Op) : rJoinN a b = joinN a b ∧ rJoinL a b = joinL a b := by
  have he : bagMay a = true → bagMay b = true → bothB a b = joinM a b := fun h1 h2 => by
    obtain ⟨-, a2, -⟩ := bagMay_parts h1
    obtain ⟨-, b2, -⟩ := bagMay_parts h2
    obtain ⟨h3, h4⟩ := both_mem b a a2 b2
    exact h3.ext (merge_srt _ _ _ a2 b2) fun x => by rw [h4]; exact (merge_mem2 _ a b (Nat.le_refl _) a2 b2 x).symm
  have hN : rJoinN a b = joinN a b := by
    unfold rJoinN joinN
    cases h : bagMay a && bagMay b
    · rfl
    · rw [Bool.and_eq_true] at h
      rw [he h.1 h.2]
  refine ⟨hN, ?_⟩
  unfold rJoinL joinL
  rw [hN]
  by_cases h0 : joinN a b = 0
  · rw [if_pos h0, if_pos h0]
    have h : bagMay a = true ∧ bagMay b = true := by
      unfold joinN at h0
      cases h : bagMay a && bagMay b
      · rw [h] at h0; cases h0
      · rwa [Bool.and_eq_true] at h
    exact he h.1 h.2
  · rw [if_neg h0, if_neg h0]
end Go.Proofs.Ytedcopjpgijpjaa
