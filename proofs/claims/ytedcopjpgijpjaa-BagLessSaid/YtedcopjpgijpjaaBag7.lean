/-
  The walk of bag.Join.
-/
import Derived.Test.YtedcopjpgijpjaaBag5
import Derived.Test.YtedcopjpgijpjaaBag6
import Derived.WalkMore
namespace Go.Proofs.Ytedcopjpgijpjaa
open Go.RowKit Go.Shelf Go.Lib

/-- Two bags, merged; of two with one stamp the first one's. -/
def mergeF : Nat → List Op → List Op → List Op
  | 0, _, _ => []
  | _ + 1, [], [] => []
  | n + 1, [], y :: b => y :: mergeF n [] b
  | n + 1, x :: a, [] => x :: mergeF n a []
  | n + 1, x :: a, y :: b => if idLess x.id y.id then x :: mergeF n a (y :: b) else if idLess y.id x.id then y :: mergeF n (x :: a) b else x :: mergeF n a b
theorem mergeF_nil (n : Nat) : mergeF n [] [] = [] := by cases n <;> rfl
def joinM (a b : List Op) : List Op := mergeF (a.length + b.length) a b
def joinN (a b : List Op) : Int := if bagMay a && bagMay b then (if 1024 < (joinM a b).length then 9 else 0) else 8
def joinL (a b : List Op) : List Op := if joinN a b = 0 then joinM a b else []
def sliceLen : Value → Nat
  | .slice _ n _ => n
  | _ => 0
theorem cons_drop1 {l : List Op} {x : Op} (h : l[0]? = some x) : l = x :: l.drop 1 := by
  cases l with
  | nil => simp at h
  | cons y r => simp at h; subst h; rfl

theorem tail_R {lo : Nat} {w : World} {blk off d' : Nat} {b' : List Op} (hB : R cOp lo w (some ⟨blk, off, none⟩) b') (hd : b'.length ≤ d') : R cOp lo w (if d' = 1 then some ⟨blk, off, none⟩ else some ⟨blk, off + 5, none⟩) (b'.drop 1) := by
  by_cases h : d' = 1
  · rw [if_pos h, List.drop_eq_nil_of_le (by omega)]
    exact R.nil
  · rw [if_neg h]
    have := hB.sub 1 (b'.length - 1)
    rw [Option.map_some, add_plain', List.take_of_length_le (by rw [List.length_drop]; exact Nat.le_refl _)] at this
    exact this

/-- How the loop stands. -/
def JoinRel (w w2 : World) (J : List Op) (s0 s1 s4 : Value) (wr : World) : Prop :=
  Bl w2 wr ∧ ∃ (f : Nat) (a' b' acc : List Op) (A' B' : Option Addr) (c' d' : Nat), s0 = .slice A' a'.length c' ∧ s1 = .slice B' b'.length d' ∧ a'.length ≤ c' ∧ c' ≤ maxLen ∧ b'.length ≤ d' ∧ d' ≤ maxLen ∧ R cOp 0 w A' a' ∧ R cOp 0 w B' b' ∧
      Hid ((∀ x ∈ a', x.pl.length ≤ 1048576) ∧ ∀ x ∈ b', x.pl.length ≤ 1048576) ∧ a'.length + b'.length ≤ f ∧ acc.length + f ≤ 2048 ∧ Own cOp 33 w2.heap.size wr s4 acc ∧ Hid (J = acc ++ mergeF f a' b')

set_option maxRecDepth 100000 in
set_option maxHeartbeats 4000000 in
theorem bagJoin (A B : Option Addr) (c d : Nat) (a b : List Op) (w : World) (hac : a.length ≤ c) (hcm : c ≤ maxLen) (hbd : b.length ≤ d) (hdm : d ≤ maxLen) (hA : R cOp 0 w A a) (hB : R cOp 0 w B b) :
    Calls Try.prog 13 #[.slice A a.length c, .slice B b.length d] w (New2 cOp (joinL a b) (joinN a b) w) := by
  have hchkA := fun W (hb : Bl w W) => bagCheck A c a W (Nat.le_trans hac hcm) (hA.bl hb)
  have hchkB := fun W (hb : Bl w W) => bagCheck B d b W (Nat.le_trans hbd hdm) (hB.bl hb)
  obtain ⟨L, hL⟩ : ∃ L, L = joinL a b := ⟨_, rfl⟩
  obtain ⟨N, hN⟩ : ∃ N, N = joinN a b := ⟨_, rfl⟩
  rw [← hL, ← hN]
  cases hma : bagMay a
  · have e2 : N = 8 := by rw [hN]; unfold joinN; rw [hma]; rfl
    have e1 : L = [] := by rw [hL]; unfold joinL; rw [← hN, e2]; rfl
    subst e1 e2
    rw [hma, okOr_false] at hchkA
    replace hchkA := hide hchkA
    clear hL hN hma hchkB
    go_enter Try.func13, Try.ntmps13
    go_wp2_with fail
    go_step3
    go_wp2_with fail
    refine (hchkA.out _ (Bl.refl _)).mono ?_
    rintro e w1 ⟨rfl, hb1⟩
    go_wp2_with fail
    rw [Exit.noGoto_ret]
    go_ret2
    exact ⟨none, 0, rfl, Nat.le_refl _, Nat.zero_le _, R.nil, hb1⟩
  rw [hma, okOr_true] at hchkA
  replace hchkA := hide hchkA
  cases hmb : bagMay b
  · have e2 : N = 8 := by rw [hN]; unfold joinN; rw [hmb, Bool.and_false]; rfl
    have e1 : L = [] := by rw [hL]; unfold joinL; rw [← hN, e2]; rfl
    subst e1 e2
    rw [hmb, okOr_false] at hchkB
    replace hchkB := hide hchkB
    clear hL hN hma hmb
    go_enter Try.func13, Try.ntmps13
    go_wp2_with fail
    go_step3
    go_wp2_with fail
    refine (hchkA.out _ (Bl.refl _)).mono ?_
    rintro e w1 ⟨rfl, hb1⟩
    go_wp2_with fail
    refine (hchkB.out _ hb1).mono ?_
    rintro e w2 ⟨rfl, hb2⟩
    go_wp2_with fail
    rw [Exit.noGoto_ret]
    go_ret2
    exact ⟨none, 0, rfl, Nat.le_refl _, Nat.zero_le _, R.nil, hb1.trans hb2⟩
  rw [hmb, okOr_true] at hchkB
  replace hchkB := hide hchkB
  have hla := (bagMay_parts hma).1
  have hlb := (bagMay_parts hmb).1
  have hsa := hide ((bagMay_small hma).2)
  have hsb := hide ((bagMay_small hmb).2)
  have hN' := hide (show N = if 1024 < (joinM a b).length then 9 else 0 by rw [hN]; unfold joinN; rw [hma, hmb]; rfl)
  have hL' := hide (show L = if N = 0 then joinM a b else [] by rw [hL, hN]; rfl)
  clear hN hL hma hmb
  obtain ⟨n, hn⟩ : ∃ n, n = a.length + b.length := ⟨_, rfl⟩
  obtain ⟨i0, hi, hz0, hz1, hz2⟩ := info_parts Try.infoOp
  have hmk : ∀ V, (Instr.makeSlice 22 (.int .i64 0) (.int .i64 (n : Int))).run Try.prog V = .ok (.slice (some ⟨V.heap.size, 0, none⟩) 0 n) (V.alloc (.cells (madeCells #[Value.int IntKind.u8 0, Value.int IntKind.u32 0, Value.int IntKind.u8 0, Value.slice none 0 0, Value.int IntKind.i64 0] (n * 5)) 33)) := by
    intro V
    have := run_make (P := Try.prog) V 22 33 i0 _ Try.underlying22 hi hz0 .i64 .i64 0 (n : Int) (by omega) (by omega) (by rw [hz2]; omega) (by omega)
    rw [hz1, Int.toNat_natCast] at this
    exact this
  have hni : (a.length : Int) + (b.length : Int) = (n : Int) := by omega
  have hn2 : n ≤ 2048 := by omega
  have hJ := hide (show joinM a b = [] ++ mergeF n a b by unfold joinM; rw [hn]; rfl)
  replace hn := hide hn
  go_enter Try.func13, Try.ntmps13
  go_wp2_with fail
  go_step3
  go_wp2_with fail
  refine (hchkA.out _ (Bl.refl _)).mono ?_
  rintro e w1 ⟨rfl, hb1⟩
  go_wp2_with fail
  refine (hchkB.out _ hb1).mono ?_
  rintro e w2 ⟨rfl, hb2⟩
  have hb02 := hb1.trans hb2
  have hown0 : Own cOp 33 w2.heap.size (w2.alloc (.cells (madeCells #[Value.int IntKind.u8 0, Value.int IntKind.u32 0, Value.int IntKind.u8 0, Value.slice none 0 0, Value.int IntKind.i64 0] (n * 5)) 33)) (.slice (some ⟨w2.heap.size, 0, none⟩) 0 n) [] :=
    ⟨[], World.ownsRow_made w2 _ n (Nat.le_refl _) (by unfold maxLen; omega) (by rw [size_madeCells]; rfl), rfl⟩
  have hbv := hb02.size
  go_wp2_with fail
  go_step3
  go_wp2_with fail
  clear hmk hni
  generalize joinM a b = J at hJ hN' hL'
  go_loopw [0, 1, 4] (fun s0 s1 s4 wr => JoinRel w w2 J s0 s1 s4 wr) (fun s0 s1 _ _ => sliceLen s0 + sliceLen s1)
  case atStart => exact ⟨(Bl.refl _).alloc _, n, a, b, [], A, B, c, d, rfl, rfl, hac, hcm, hbd, hdm, hA, hB, ⟨hsa.out, hsb.out⟩, by rw [hn.out]; exact Nat.le_refl _, by simpa using hn2, hown0, hJ.out⟩
  case round =>
    clear hchkA hchkB hown0 hJ hn hn2 hla hlb hA hB hac hcm hbd hdm
    clear hsa hsb
    obtain ⟨hbl, f, a', b', acc, A', B', c', d', rfl, rfl, hac, hcm, hbd, hdm, hA, hB, hsm, hlen, htot, hown, hJ⟩ := hrel
    have hblw : Bl w wr := hb02.trans hbl
    have hzr := hbl.size
    by_cases ha0 : 0 < a'.length
    · obtain ⟨x, hx⟩ := get_lt ha0
      obtain ⟨blk, off, rfl, _, hbk⟩ := hA.addr ha0
      obtain ⟨_, ho, S, sc, s1, s2, hS, c0, c1, c2, c3, c4⟩ := hA.op hx
      simp only [Nat.zero_mul, Nat.add_zero] at c0 c1 c2 c3 c4
      have hai : (0 : Int) < (a'.length : Int) := by omega
      have hai1 : (1 : Int) ≤ (a'.length : Int) := by omega
      have kA := hide (fun V (hV : Bl w V) => (⟨(hV.cell hbk).trans c0, (hV.cell hbk).trans c1, (hV.cell hbk).trans c2, (hV.cell hbk).trans c3, (hV.cell hbk).trans c4⟩ : V.cell? ⟨blk, off, none⟩ = some (.int .u8 x.kind) ∧ V.cell? ⟨blk, off + 1, none⟩ = some (.int .u32 x.id.t) ∧ V.cell? ⟨blk, off + 2, none⟩ = some (.int .u8 x.id.r) ∧ V.cell? ⟨blk, off + 3, none⟩ = some (.slice S x.pl.length sc) ∧ V.cell? ⟨blk, off + 4, none⟩ = some (.int .i64 x.pt)))
      have hys := hsm.out.1 x (List.mem_of_getElem? hx)
      obtain ⟨f', rfl⟩ : ∃ f', f = f' + 1 := ⟨f - 1, by omega⟩
      have htot' : acc.length ≤ 2047 := by omega
      by_cases hb0 : 0 < b'.length
      · obtain ⟨y, hy⟩ := get_lt hb0
        obtain ⟨blk', off', rfl, _, hbk'⟩ := hB.addr hb0
        obtain ⟨_, ho', S', sc', s1', s2', hS', d0, d1, d2, d3, d4⟩ := hB.op hy
        simp only [Nat.zero_mul, Nat.add_zero] at d0 d1 d2 d3 d4
        have hbi : (0 : Int) < (b'.length : Int) := by omega
        have hbi1 : (1 : Int) ≤ (b'.length : Int) := by omega
        have kB := hide (fun V (hV : Bl w V) => (⟨(hV.cell hbk').trans d0, (hV.cell hbk').trans d1, (hV.cell hbk').trans d2, (hV.cell hbk').trans d3, (hV.cell hbk').trans d4⟩ : V.cell? ⟨blk', off', none⟩ = some (.int .u8 y.kind) ∧ V.cell? ⟨blk', off' + 1, none⟩ = some (.int .u32 y.id.t) ∧ V.cell? ⟨blk', off' + 2, none⟩ = some (.int .u8 y.id.r) ∧ V.cell? ⟨blk', off' + 3, none⟩ = some (.slice S' y.pl.length sc') ∧ V.cell? ⟨blk', off' + 4, none⟩ = some (.int .i64 y.pt)))
        have hys' := hsm.out.2 y (List.mem_of_getElem? hy)
        have hkr := Nat.lt_of_lt_of_le hbk hblw.size
        have hkr' := Nat.lt_of_lt_of_le hbk' hblw.size
        have C1 := fun p : Wd wr => Wd.cell (kA.out wr hblw).2.1 hkr p
        have C2 := fun p : Wd wr => Wd.cell (kA.out wr hblw).2.2.1 hkr p
        have D1 := fun p : Wd wr => Wd.cell (kB.out wr hblw).2.1 hkr' p
        have D2 := fun p : Wd wr => Wd.cell (kB.out wr hblw).2.2.1 hkr' p
        have hord := fun pw : Wd wr => bagOrder x.id y.id pw.v ho.2.1 ho'.2.1
        cases e1 : idLess x.id y.id
        · cases e2 : idLess y.id x.id
          · -- one stamp
            rw [show idCmp x.id y.id = 0 by unfold idCmp; rw [e1, e2]; rfl] at hord
            replace hord := hide hord
            have hmf : mergeF (f' + 1) a' b' = x :: mergeF f' (a'.drop 1) (b'.drop 1) := by
              conv => lhs; rw [cons_drop1 hx, cons_drop1 hy]
              rw [mergeF, e1, e2]; rfl
            have hrel : ∀ v4 w4, Bl w2 w4 → Own cOp 33 w2.heap.size w4 v4 (acc ++ [x]) → JoinRel w w2 J (.slice (if c' = 1 then some ⟨blk, off, none⟩ else some ⟨blk, off + 5, none⟩) (a'.length - 1) (c' - 1)) (.slice (if d' = 1 then some ⟨blk', off', none⟩ else some ⟨blk', off' + 5, none⟩) (b'.length - 1) (d' - 1)) v4 w4 := fun v4 w4 hb4 hown4 =>
              ⟨hb4, f', a'.drop 1, b'.drop 1, acc ++ [x], _, _, c' - 1, d' - 1, by rw [List.length_drop], by rw [List.length_drop], by rw [List.length_drop]; omega, by omega, by rw [List.length_drop]; omega, by omega, tail_R hA hac, tail_R hB hbd, ⟨fun x hx => hsm.out.1 x (List.mem_of_mem_drop hx), fun x hx => hsm.out.2 x (List.mem_of_mem_drop hx)⟩, by rw [List.length_drop, List.length_drop]; omega, by rw [List.length_append, List.length_singleton]; omega, hown4, by rw [hJ.out, hmf, List.append_assoc]; rfl⟩
            replace hrel := hide hrel
            replace hx := hide hx
            replace hy := hide hy
            clear hmf hsm hJ hlen htot c0 c1 c2 c3 c4 d0 d1 d2 d3 d4 e1 e2
            have hbd' : b'.length ≤ d' := hbd
            by_cases hc1 : c' = 1
            · rw [if_pos hc1, show a'.length - 1 = 0 by omega, show c' - 1 = 0 by omega] at hrel
              subst hc1
              by_cases hd1 : d' = 1
              · rw [if_pos hd1, show b'.length - 1 = 0 by omega, show d' - 1 = 0 by omega] at hrel
                subst hd1
                go_wp2_with fail
                (refine wp_region_wd (by kernel_rfl) (by kernel_rfl) ?_
                 repeat (go_big_quiet_step ((go_at_call 38; exact Calls.wd (hord.out _))))
                 refine wpQuiet_nil ?_
                 intro w5 hw'
                 obtain ⟨⟨wx, hb5⟩, hw''⟩ := hw'
                 subst hw'')
                replace hblw := hblw.trans hb5
                replace hown := hown.bl hb5
                replace hbl := hbl.trans hb5
                replace hzr := hbl.size
                clear C1 C2 D1 D2
                go_wp2_with fail
                go_region_held3 (fun W' => W'.cell? ⟨blk, off, none⟩ = some (.int .u8 x.kind) ∧ W'.cell? ⟨blk, off + 1, none⟩ = some (.int .u32 x.id.t) ∧ W'.cell? ⟨blk, off + 2, none⟩ = some (.int .u8 x.id.r) ∧ W'.cell? ⟨blk, off + 3, none⟩ = some (.slice S x.pl.length sc) ∧ W'.cell? ⟨blk, off + 4, none⟩ = some (.int .i64 x.pt))
                  (first
                    | exact kA.out _ hblw.drew
                    | exact kA.out _ hblw
                    | exact kA.out _ hbl1
                    | exact kA.out _ (hbl1.alloc _)
                    | exact kA.out _ hbl4
                    | go_keep)
                  (first
                    | (go_at_call 39; refine (opTwin x S sc _ ⟨ho, s1, s2, R.bl hS hblw.drew⟩ hys).mono ?_; rintro e w3 ⟨A1, n1, rfl, q1, q2, hr1, hb30⟩; have hb3 : Bl w5 w3 := (Bl.refl w5).drew.trans hb30; clear hb30; have hbl1 : Bl w w3 := hblw.trans hb3; have hzb3 : w5.heap.size ≤ w3.heap.size := hb3.size)
                    | (refine step_append_any2 (C := cOp) (xs := acc) (ys := [x]) rfl (.tmp 55) (.tmp 60) _ rfl 33 i0 _ 48 Try.underlying22 hi hz0 hz1 hz2 rfl _ w2.heap.size rfl ((hown.bl hb3).bl ((Bl.refl _).alloc _)) (some ⟨w3.heap.size, 0, none⟩) 1 _ rfl rfl (hown.src (cs := opCells x A1 n1) hb3 hzr ⟨ho, A1, n1, q1, q2, rfl, hr1⟩) ?_ ?_ ?_ ?_; (simp only [maxLen]; simp; omega); (simp; omega); (simp; omega); intro v4 w4 hown4 hg4 _; have hbl3 : Bl w2 w4 := ((hbl.trans hb3).alloc _).app ((hown.bl hb3).bl ((Bl.refl _).alloc _)) (Nat.le_refl _) hg4; have hbl4 : Bl w w4 := hb02.trans hbl3))
                go_wp2_with fail
                go_roundw
                case rel => exact hrel.out _ _ hbl3 hown4
                case measure => simp [sliceLen]; omega
              · rw [if_neg hd1] at hrel
                go_wp2_with fail
                (refine wp_region_wd (by kernel_rfl) (by kernel_rfl) ?_
                 repeat (go_big_quiet_step ((go_at_call 38; exact Calls.wd (hord.out _))))
                 refine wpQuiet_nil ?_
                 intro w5 hw'
                 obtain ⟨⟨wx, hb5⟩, hw''⟩ := hw'
                 subst hw'')
                replace hblw := hblw.trans hb5
                replace hown := hown.bl hb5
                replace hbl := hbl.trans hb5
                replace hzr := hbl.size
                clear C1 C2 D1 D2
                go_wp2_with fail
                go_region_held3 (fun W' => W'.cell? ⟨blk, off, none⟩ = some (.int .u8 x.kind) ∧ W'.cell? ⟨blk, off + 1, none⟩ = some (.int .u32 x.id.t) ∧ W'.cell? ⟨blk, off + 2, none⟩ = some (.int .u8 x.id.r) ∧ W'.cell? ⟨blk, off + 3, none⟩ = some (.slice S x.pl.length sc) ∧ W'.cell? ⟨blk, off + 4, none⟩ = some (.int .i64 x.pt))
                  (first
                    | exact kA.out _ hblw.drew
                    | exact kA.out _ hblw
                    | exact kA.out _ hbl1
                    | exact kA.out _ (hbl1.alloc _)
                    | exact kA.out _ hbl4
                    | go_keep)
                  (first
                    | (go_at_call 39; refine (opTwin x S sc _ ⟨ho, s1, s2, R.bl hS hblw.drew⟩ hys).mono ?_; rintro e w3 ⟨A1, n1, rfl, q1, q2, hr1, hb30⟩; have hb3 : Bl w5 w3 := (Bl.refl w5).drew.trans hb30; clear hb30; have hbl1 : Bl w w3 := hblw.trans hb3; have hzb3 : w5.heap.size ≤ w3.heap.size := hb3.size)
                    | (refine step_append_any2 (C := cOp) (xs := acc) (ys := [x]) rfl (.tmp 55) (.tmp 60) _ rfl 33 i0 _ 48 Try.underlying22 hi hz0 hz1 hz2 rfl _ w2.heap.size rfl ((hown.bl hb3).bl ((Bl.refl _).alloc _)) (some ⟨w3.heap.size, 0, none⟩) 1 _ rfl rfl (hown.src (cs := opCells x A1 n1) hb3 hzr ⟨ho, A1, n1, q1, q2, rfl, hr1⟩) ?_ ?_ ?_ ?_; (simp only [maxLen]; simp; omega); (simp; omega); (simp; omega); intro v4 w4 hown4 hg4 _; have hbl3 : Bl w2 w4 := ((hbl.trans hb3).alloc _).app ((hown.bl hb3).bl ((Bl.refl _).alloc _)) (Nat.le_refl _) hg4; have hbl4 : Bl w w4 := hb02.trans hbl3))
                go_wp2_with fail
                go_roundw
                case rel => exact hrel.out _ _ hbl3 hown4
                case measure => simp [sliceLen]; omega
            · rw [if_neg hc1] at hrel
              by_cases hd1 : d' = 1
              · rw [if_pos hd1, show b'.length - 1 = 0 by omega, show d' - 1 = 0 by omega] at hrel
                subst hd1
                go_wp2_with fail
                (refine wp_region_wd (by kernel_rfl) (by kernel_rfl) ?_
                 repeat (go_big_quiet_step ((go_at_call 38; exact Calls.wd (hord.out _))))
                 refine wpQuiet_nil ?_
                 intro w5 hw'
                 obtain ⟨⟨wx, hb5⟩, hw''⟩ := hw'
                 subst hw'')
                replace hblw := hblw.trans hb5
                replace hown := hown.bl hb5
                replace hbl := hbl.trans hb5
                replace hzr := hbl.size
                clear C1 C2 D1 D2
                go_wp2_with fail
                go_region_held3 (fun W' => W'.cell? ⟨blk, off, none⟩ = some (.int .u8 x.kind) ∧ W'.cell? ⟨blk, off + 1, none⟩ = some (.int .u32 x.id.t) ∧ W'.cell? ⟨blk, off + 2, none⟩ = some (.int .u8 x.id.r) ∧ W'.cell? ⟨blk, off + 3, none⟩ = some (.slice S x.pl.length sc) ∧ W'.cell? ⟨blk, off + 4, none⟩ = some (.int .i64 x.pt))
                  (first
                    | exact kA.out _ hblw.drew
                    | exact kA.out _ hblw
                    | exact kA.out _ hbl1
                    | exact kA.out _ (hbl1.alloc _)
                    | exact kA.out _ hbl4
                    | go_keep)
                  (first
                    | (go_at_call 39; refine (opTwin x S sc _ ⟨ho, s1, s2, R.bl hS hblw.drew⟩ hys).mono ?_; rintro e w3 ⟨A1, n1, rfl, q1, q2, hr1, hb30⟩; have hb3 : Bl w5 w3 := (Bl.refl w5).drew.trans hb30; clear hb30; have hbl1 : Bl w w3 := hblw.trans hb3; have hzb3 : w5.heap.size ≤ w3.heap.size := hb3.size)
                    | (refine step_append_any2 (C := cOp) (xs := acc) (ys := [x]) rfl (.tmp 55) (.tmp 60) _ rfl 33 i0 _ 48 Try.underlying22 hi hz0 hz1 hz2 rfl _ w2.heap.size rfl ((hown.bl hb3).bl ((Bl.refl _).alloc _)) (some ⟨w3.heap.size, 0, none⟩) 1 _ rfl rfl (hown.src (cs := opCells x A1 n1) hb3 hzr ⟨ho, A1, n1, q1, q2, rfl, hr1⟩) ?_ ?_ ?_ ?_; (simp only [maxLen]; simp; omega); (simp; omega); (simp; omega); intro v4 w4 hown4 hg4 _; have hbl3 : Bl w2 w4 := ((hbl.trans hb3).alloc _).app ((hown.bl hb3).bl ((Bl.refl _).alloc _)) (Nat.le_refl _) hg4; have hbl4 : Bl w w4 := hb02.trans hbl3))
                go_wp2_with fail
                go_roundw
                case rel => exact hrel.out _ _ hbl3 hown4
                case measure => simp [sliceLen]; omega
              · rw [if_neg hd1] at hrel
                go_wp2_with fail
                (refine wp_region_wd (by kernel_rfl) (by kernel_rfl) ?_
                 repeat (go_big_quiet_step ((go_at_call 38; exact Calls.wd (hord.out _))))
                 refine wpQuiet_nil ?_
                 intro w5 hw'
                 obtain ⟨⟨wx, hb5⟩, hw''⟩ := hw'
                 subst hw'')
                replace hblw := hblw.trans hb5
                replace hown := hown.bl hb5
                replace hbl := hbl.trans hb5
                replace hzr := hbl.size
                clear C1 C2 D1 D2
                go_wp2_with fail
                go_region_held3 (fun W' => W'.cell? ⟨blk, off, none⟩ = some (.int .u8 x.kind) ∧ W'.cell? ⟨blk, off + 1, none⟩ = some (.int .u32 x.id.t) ∧ W'.cell? ⟨blk, off + 2, none⟩ = some (.int .u8 x.id.r) ∧ W'.cell? ⟨blk, off + 3, none⟩ = some (.slice S x.pl.length sc) ∧ W'.cell? ⟨blk, off + 4, none⟩ = some (.int .i64 x.pt))
                  (first
                    | exact kA.out _ hblw.drew
                    | exact kA.out _ hblw
                    | exact kA.out _ hbl1
                    | exact kA.out _ (hbl1.alloc _)
                    | exact kA.out _ hbl4
                    | go_keep)
                  (first
                    | (go_at_call 39; refine (opTwin x S sc _ ⟨ho, s1, s2, R.bl hS hblw.drew⟩ hys).mono ?_; rintro e w3 ⟨A1, n1, rfl, q1, q2, hr1, hb30⟩; have hb3 : Bl w5 w3 := (Bl.refl w5).drew.trans hb30; clear hb30; have hbl1 : Bl w w3 := hblw.trans hb3; have hzb3 : w5.heap.size ≤ w3.heap.size := hb3.size)
                    | (refine step_append_any2 (C := cOp) (xs := acc) (ys := [x]) rfl (.tmp 55) (.tmp 60) _ rfl 33 i0 _ 48 Try.underlying22 hi hz0 hz1 hz2 rfl _ w2.heap.size rfl ((hown.bl hb3).bl ((Bl.refl _).alloc _)) (some ⟨w3.heap.size, 0, none⟩) 1 _ rfl rfl (hown.src (cs := opCells x A1 n1) hb3 hzr ⟨ho, A1, n1, q1, q2, rfl, hr1⟩) ?_ ?_ ?_ ?_; (simp only [maxLen]; simp; omega); (simp; omega); (simp; omega); intro v4 w4 hown4 hg4 _; have hbl3 : Bl w2 w4 := ((hbl.trans hb3).alloc _).app ((hown.bl hb3).bl ((Bl.refl _).alloc _)) (Nat.le_refl _) hg4; have hbl4 : Bl w w4 := hb02.trans hbl3))
                go_wp2_with fail
                go_roundw
                case rel => exact hrel.out _ _ hbl3 hown4
                case measure => simp [sliceLen]; omega
          · -- the second one's is first
            rw [show idCmp x.id y.id = 1 by unfold idCmp; rw [e1, e2]; rfl] at hord
            replace hord := hide hord
            have hmf : mergeF (f' + 1) a' b' = y :: mergeF f' a' (b'.drop 1) := by
              conv => lhs; rw [cons_drop1 hx, cons_drop1 hy]
              rw [mergeF, e1, e2, ← cons_drop1 hx]; rfl
            have hrel : ∀ v4 w4, Bl w2 w4 → Own cOp 33 w2.heap.size w4 v4 (acc ++ [y]) → JoinRel w w2 J (.slice (some ⟨blk, off, none⟩) a'.length c') (.slice (if d' = 1 then some ⟨blk', off', none⟩ else some ⟨blk', off' + 5, none⟩) (b'.length - 1) (d' - 1)) v4 w4 := fun v4 w4 hb4 hown4 =>
              ⟨hb4, f', a', b'.drop 1, acc ++ [y], _, _, c', d' - 1, rfl, by rw [List.length_drop], hac, hcm, by rw [List.length_drop]; omega, by omega, hA, tail_R hB hbd, ⟨hsm.out.1, fun x hx => hsm.out.2 x (List.mem_of_mem_drop hx)⟩, by rw [List.length_drop]; omega, by rw [List.length_append, List.length_singleton]; omega, hown4, by rw [hJ.out, hmf, List.append_assoc]; rfl⟩
            replace hrel := hide hrel
            replace hx := hide hx
            replace hy := hide hy
            replace ho := ho'
            replace s1 := s1'
            replace s2 := s2'
            replace hys := hys'
            replace hS := hS'
            clear hmf hsm hJ hlen htot c0 c1 c2 c3 c4 d0 d1 d2 d3 d4 e1 e2
            by_cases hd1 : d' = 1
            · rw [if_pos hd1, show b'.length - 1 = 0 by omega, show d' - 1 = 0 by omega] at hrel
              subst hd1
              go_wp2_with fail
              (refine wp_region_wd (by kernel_rfl) (by kernel_rfl) ?_
               repeat (go_big_quiet_step ((go_at_call 38; exact Calls.wd (hord.out _))))
               refine wpQuiet_nil ?_
               intro w5 hw'
               obtain ⟨⟨wx, hb5⟩, hw''⟩ := hw'
               subst hw'')
              replace hblw := hblw.trans hb5
              replace hown := hown.bl hb5
              replace hbl := hbl.trans hb5
              replace hzr := hbl.size
              clear C1 C2 D1 D2
              go_wp2_with fail
              go_region_held3 (fun W' => W'.cell? ⟨blk', off', none⟩ = some (.int .u8 y.kind) ∧ W'.cell? ⟨blk', off' + 1, none⟩ = some (.int .u32 y.id.t) ∧ W'.cell? ⟨blk', off' + 2, none⟩ = some (.int .u8 y.id.r) ∧ W'.cell? ⟨blk', off' + 3, none⟩ = some (.slice S' y.pl.length sc') ∧ W'.cell? ⟨blk', off' + 4, none⟩ = some (.int .i64 y.pt))
                (first
                  | exact kB.out _ hblw.drew
                  | exact kB.out _ hblw
                  | exact kB.out _ hbl1
                  | exact kB.out _ (hbl1.alloc _)
                  | exact kB.out _ hbl4
                  | go_keep)
                (first
                  | (go_at_call 39; refine (opTwin y S' sc' _ ⟨ho, s1, s2, R.bl hS hblw.drew⟩ hys).mono ?_; rintro e w3 ⟨A1, n1, rfl, q1, q2, hr1, hb30⟩; have hb3 : Bl w5 w3 := (Bl.refl w5).drew.trans hb30; clear hb30; have hbl1 : Bl w w3 := hblw.trans hb3; have hzb3 : w5.heap.size ≤ w3.heap.size := hb3.size)
                  | (refine step_append_any2 (C := cOp) (xs := acc) (ys := [y]) rfl (.tmp 46) (.tmp 51) _ rfl 33 i0 _ 48 Try.underlying22 hi hz0 hz1 hz2 rfl _ w2.heap.size rfl ((hown.bl hb3).bl ((Bl.refl _).alloc _)) (some ⟨w3.heap.size, 0, none⟩) 1 _ rfl rfl (hown.src (cs := opCells y A1 n1) hb3 hzr ⟨ho, A1, n1, q1, q2, rfl, hr1⟩) ?_ ?_ ?_ ?_; (simp only [maxLen]; simp; omega); (simp; omega); (simp; omega); intro v4 w4 hown4 hg4 _; have hbl3 : Bl w2 w4 := ((hbl.trans hb3).alloc _).app ((hown.bl hb3).bl ((Bl.refl _).alloc _)) (Nat.le_refl _) hg4; have hbl4 : Bl w w4 := hb02.trans hbl3))
              go_wp2_with fail
              go_roundw
              case rel => exact hrel.out _ _ hbl3 hown4
              case measure => simp [sliceLen]; omega
            · rw [if_neg hd1] at hrel
              go_wp2_with fail
              (refine wp_region_wd (by kernel_rfl) (by kernel_rfl) ?_
               repeat (go_big_quiet_step ((go_at_call 38; exact Calls.wd (hord.out _))))
               refine wpQuiet_nil ?_
               intro w5 hw'
               obtain ⟨⟨wx, hb5⟩, hw''⟩ := hw'
               subst hw'')
              replace hblw := hblw.trans hb5
              replace hown := hown.bl hb5
              replace hbl := hbl.trans hb5
              replace hzr := hbl.size
              clear C1 C2 D1 D2
              go_wp2_with fail
              go_region_held3 (fun W' => W'.cell? ⟨blk', off', none⟩ = some (.int .u8 y.kind) ∧ W'.cell? ⟨blk', off' + 1, none⟩ = some (.int .u32 y.id.t) ∧ W'.cell? ⟨blk', off' + 2, none⟩ = some (.int .u8 y.id.r) ∧ W'.cell? ⟨blk', off' + 3, none⟩ = some (.slice S' y.pl.length sc') ∧ W'.cell? ⟨blk', off' + 4, none⟩ = some (.int .i64 y.pt))
                (first
                  | exact kB.out _ hblw.drew
                  | exact kB.out _ hblw
                  | exact kB.out _ hbl1
                  | exact kB.out _ (hbl1.alloc _)
                  | exact kB.out _ hbl4
                  | go_keep)
                (first
                  | (go_at_call 39; refine (opTwin y S' sc' _ ⟨ho, s1, s2, R.bl hS hblw.drew⟩ hys).mono ?_; rintro e w3 ⟨A1, n1, rfl, q1, q2, hr1, hb30⟩; have hb3 : Bl w5 w3 := (Bl.refl w5).drew.trans hb30; clear hb30; have hbl1 : Bl w w3 := hblw.trans hb3; have hzb3 : w5.heap.size ≤ w3.heap.size := hb3.size)
                  | (refine step_append_any2 (C := cOp) (xs := acc) (ys := [y]) rfl (.tmp 46) (.tmp 51) _ rfl 33 i0 _ 48 Try.underlying22 hi hz0 hz1 hz2 rfl _ w2.heap.size rfl ((hown.bl hb3).bl ((Bl.refl _).alloc _)) (some ⟨w3.heap.size, 0, none⟩) 1 _ rfl rfl (hown.src (cs := opCells y A1 n1) hb3 hzr ⟨ho, A1, n1, q1, q2, rfl, hr1⟩) ?_ ?_ ?_ ?_; (simp only [maxLen]; simp; omega); (simp; omega); (simp; omega); intro v4 w4 hown4 hg4 _; have hbl3 : Bl w2 w4 := ((hbl.trans hb3).alloc _).app ((hown.bl hb3).bl ((Bl.refl _).alloc _)) (Nat.le_refl _) hg4; have hbl4 : Bl w w4 := hb02.trans hbl3))
              go_wp2_with fail
              go_roundw
              case rel => exact hrel.out _ _ hbl3 hown4
              case measure => simp [sliceLen]; omega
        · -- the first one's is first
          rw [idCmp_neg e1] at hord
          replace hord := hide hord
          have hmf : mergeF (f' + 1) a' b' = x :: mergeF f' (a'.drop 1) b' := by
            conv => lhs; rw [cons_drop1 hx, cons_drop1 hy]
            rw [mergeF, e1, ← cons_drop1 hy]; rfl
          have hrel : ∀ v4 w4, Bl w2 w4 → Own cOp 33 w2.heap.size w4 v4 (acc ++ [x]) → JoinRel w w2 J (.slice (if c' = 1 then some ⟨blk, off, none⟩ else some ⟨blk, off + 5, none⟩) (a'.length - 1) (c' - 1)) (.slice (some ⟨blk', off', none⟩) b'.length d') v4 w4 := fun v4 w4 hb4 hown4 =>
            ⟨hb4, f', a'.drop 1, b', acc ++ [x], _, _, c' - 1, d', by rw [List.length_drop], rfl, by rw [List.length_drop]; omega, by omega, hbd, hdm, tail_R hA hac, hB, ⟨fun x hx => hsm.out.1 x (List.mem_of_mem_drop hx), hsm.out.2⟩, by rw [List.length_drop]; omega, by rw [List.length_append, List.length_singleton]; omega, hown4, by rw [hJ.out, hmf, List.append_assoc]; rfl⟩
          replace hrel := hide hrel
          replace hx := hide hx
          replace hy := hide hy
          clear hmf hsm hJ hlen htot c0 c1 c2 c3 c4 d0 d1 d2 d3 d4 e1
          by_cases hd1 : c' = 1
          · rw [if_pos hd1, show a'.length - 1 = 0 by omega, show c' - 1 = 0 by omega] at hrel
            subst hd1
            go_wp2_with fail
            (refine wp_region_wd (by kernel_rfl) (by kernel_rfl) ?_
             repeat (go_big_quiet_step ((go_at_call 38; exact Calls.wd (hord.out _))))
             refine wpQuiet_nil ?_
             intro w5 hw'
             obtain ⟨⟨wx, hb5⟩, hw''⟩ := hw'
             subst hw'')
            replace hblw := hblw.trans hb5
            replace hown := hown.bl hb5
            replace hbl := hbl.trans hb5
            replace hzr := hbl.size
            clear C1 C2 D1 D2
            go_wp2_with fail
            go_region_held3 (fun W' => W'.cell? ⟨blk, off, none⟩ = some (.int .u8 x.kind) ∧ W'.cell? ⟨blk, off + 1, none⟩ = some (.int .u32 x.id.t) ∧ W'.cell? ⟨blk, off + 2, none⟩ = some (.int .u8 x.id.r) ∧ W'.cell? ⟨blk, off + 3, none⟩ = some (.slice S x.pl.length sc) ∧ W'.cell? ⟨blk, off + 4, none⟩ = some (.int .i64 x.pt))
              (first
                | exact kA.out _ hblw.drew
                | exact kA.out _ hblw
                | exact kA.out _ hbl1
                | exact kA.out _ (hbl1.alloc _)
                | exact kA.out _ hbl4
                | go_keep)
              (first
                | (go_at_call 39; refine (opTwin x S sc _ ⟨ho, s1, s2, R.bl hS hblw.drew⟩ hys).mono ?_; rintro e w3 ⟨A1, n1, rfl, q1, q2, hr1, hb30⟩; have hb3 : Bl w5 w3 := (Bl.refl w5).drew.trans hb30; clear hb30; have hbl1 : Bl w w3 := hblw.trans hb3; have hzb3 : w5.heap.size ≤ w3.heap.size := hb3.size)
                | (refine step_append_any2 (C := cOp) (xs := acc) (ys := [x]) rfl (.tmp 55) (.tmp 60) _ rfl 33 i0 _ 48 Try.underlying22 hi hz0 hz1 hz2 rfl _ w2.heap.size rfl ((hown.bl hb3).bl ((Bl.refl _).alloc _)) (some ⟨w3.heap.size, 0, none⟩) 1 _ rfl rfl (hown.src (cs := opCells x A1 n1) hb3 hzr ⟨ho, A1, n1, q1, q2, rfl, hr1⟩) ?_ ?_ ?_ ?_; (simp only [maxLen]; simp; omega); (simp; omega); (simp; omega); intro v4 w4 hown4 hg4 _; have hbl3 : Bl w2 w4 := ((hbl.trans hb3).alloc _).app ((hown.bl hb3).bl ((Bl.refl _).alloc _)) (Nat.le_refl _) hg4; have hbl4 : Bl w w4 := hb02.trans hbl3))
            go_wp2_with fail
            go_roundw
            case rel => exact hrel.out _ _ hbl3 hown4
            case measure => simp [sliceLen]; omega
          · rw [if_neg hd1] at hrel
            go_wp2_with fail
            (refine wp_region_wd (by kernel_rfl) (by kernel_rfl) ?_
             repeat (go_big_quiet_step ((go_at_call 38; exact Calls.wd (hord.out _))))
             refine wpQuiet_nil ?_
             intro w5 hw'
             obtain ⟨⟨wx, hb5⟩, hw''⟩ := hw'
             subst hw'')
            replace hblw := hblw.trans hb5
            replace hown := hown.bl hb5
            replace hbl := hbl.trans hb5
            replace hzr := hbl.size
            clear C1 C2 D1 D2
            go_wp2_with fail
            go_region_held3 (fun W' => W'.cell? ⟨blk, off, none⟩ = some (.int .u8 x.kind) ∧ W'.cell? ⟨blk, off + 1, none⟩ = some (.int .u32 x.id.t) ∧ W'.cell? ⟨blk, off + 2, none⟩ = some (.int .u8 x.id.r) ∧ W'.cell? ⟨blk, off + 3, none⟩ = some (.slice S x.pl.length sc) ∧ W'.cell? ⟨blk, off + 4, none⟩ = some (.int .i64 x.pt))
              (first
                | exact kA.out _ hblw.drew
                | exact kA.out _ hblw
                | exact kA.out _ hbl1
                | exact kA.out _ (hbl1.alloc _)
                | exact kA.out _ hbl4
                | go_keep)
              (first
                | (go_at_call 39; refine (opTwin x S sc _ ⟨ho, s1, s2, R.bl hS hblw.drew⟩ hys).mono ?_; rintro e w3 ⟨A1, n1, rfl, q1, q2, hr1, hb30⟩; have hb3 : Bl w5 w3 := (Bl.refl w5).drew.trans hb30; clear hb30; have hbl1 : Bl w w3 := hblw.trans hb3; have hzb3 : w5.heap.size ≤ w3.heap.size := hb3.size)
                | (refine step_append_any2 (C := cOp) (xs := acc) (ys := [x]) rfl (.tmp 55) (.tmp 60) _ rfl 33 i0 _ 48 Try.underlying22 hi hz0 hz1 hz2 rfl _ w2.heap.size rfl ((hown.bl hb3).bl ((Bl.refl _).alloc _)) (some ⟨w3.heap.size, 0, none⟩) 1 _ rfl rfl (hown.src (cs := opCells x A1 n1) hb3 hzr ⟨ho, A1, n1, q1, q2, rfl, hr1⟩) ?_ ?_ ?_ ?_; (simp only [maxLen]; simp; omega); (simp; omega); (simp; omega); intro v4 w4 hown4 hg4 _; have hbl3 : Bl w2 w4 := ((hbl.trans hb3).alloc _).app ((hown.bl hb3).bl ((Bl.refl _).alloc _)) (Nat.le_refl _) hg4; have hbl4 : Bl w w4 := hb02.trans hbl3))
            go_wp2_with fail
            go_roundw
            case rel => exact hrel.out _ _ hbl3 hown4
            case measure => simp [sliceLen]; omega
      · have eb : b' = [] := List.eq_nil_of_length_eq_zero (by omega)
        have hbi : ¬ (0 : Int) < (b'.length : Int) := by omega
        have hmf : mergeF (f' + 1) a' b' = x :: mergeF f' (a'.drop 1) b' := by
          rw [eb]
          conv => lhs; rw [cons_drop1 hx]
          rfl
        have hrel : ∀ v4 w4, Bl w2 w4 → Own cOp 33 w2.heap.size w4 v4 (acc ++ [x]) → JoinRel w w2 J (.slice (if c' = 1 then some ⟨blk, off, none⟩ else some ⟨blk, off + 5, none⟩) (a'.length - 1) (c' - 1)) (.slice B' b'.length d') v4 w4 := fun v4 w4 hb4 hown4 =>
          ⟨hb4, f', a'.drop 1, b', acc ++ [x], _, B', c' - 1, d', by rw [List.length_drop], rfl, by rw [List.length_drop]; omega, by omega, hbd, hdm, tail_R hA hac, hB, ⟨fun x hx => hsm.out.1 x (List.mem_of_mem_drop hx), hsm.out.2⟩, by rw [List.length_drop]; omega, by rw [List.length_append, List.length_singleton]; omega, hown4, by rw [hJ.out, hmf, List.append_assoc]; rfl⟩
        replace hrel := hide hrel
        replace eb := hide eb
        replace hx := hide hx
        clear hmf hsm hJ hB hbd hdm hlen htot c0 c1 c2 c3 c4
        by_cases hd1 : c' = 1
        · rw [if_pos hd1, show a'.length - 1 = 0 by omega, show c' - 1 = 0 by omega] at hrel
          subst hd1
          go_wp2_with fail
          go_region_held3 (fun W' => W'.cell? ⟨blk, off, none⟩ = some (.int .u8 x.kind) ∧ W'.cell? ⟨blk, off + 1, none⟩ = some (.int .u32 x.id.t) ∧ W'.cell? ⟨blk, off + 2, none⟩ = some (.int .u8 x.id.r) ∧ W'.cell? ⟨blk, off + 3, none⟩ = some (.slice S x.pl.length sc) ∧ W'.cell? ⟨blk, off + 4, none⟩ = some (.int .i64 x.pt))
            (first
              | exact kA.out _ hblw.drew
              | exact kA.out _ hblw
              | exact kA.out _ hbl1
              | exact kA.out _ (hbl1.alloc _)
              | exact kA.out _ hbl4
              | go_keep)
            (first
              | (go_at_call 39; refine (opTwin x S sc _ ⟨ho, s1, s2, R.bl hS hblw.drew⟩ hys).mono ?_; rintro e w3 ⟨A1, n1, rfl, q1, q2, hr1, hb30⟩; have hb3 : Bl wr w3 := (Bl.refl wr).drew.trans hb30; clear hb30; have hbl1 : Bl w w3 := hblw.trans hb3; have hzb3 : wr.heap.size ≤ w3.heap.size := hb3.size)
              | (refine step_append_any2 (C := cOp) (xs := acc) (ys := [x]) rfl (.tmp 55) (.tmp 60) _ rfl 33 i0 _ 48 Try.underlying22 hi hz0 hz1 hz2 rfl _ w2.heap.size rfl ((hown.bl hb3).bl ((Bl.refl _).alloc _)) (some ⟨w3.heap.size, 0, none⟩) 1 _ rfl rfl (hown.src (cs := opCells x A1 n1) hb3 hzr ⟨ho, A1, n1, q1, q2, rfl, hr1⟩) ?_ ?_ ?_ ?_; (simp only [maxLen]; simp; omega); (simp; omega); (simp; omega); intro v4 w4 hown4 hg4 _; have hbl3 : Bl w2 w4 := ((hbl.trans hb3).alloc _).app ((hown.bl hb3).bl ((Bl.refl _).alloc _)) (Nat.le_refl _) hg4; have hbl4 : Bl w w4 := hb02.trans hbl3))
          go_wp2_with fail
          go_roundw
          case rel => exact hrel.out _ _ hbl3 hown4
          case measure => simp [sliceLen]; omega
        · have hif : (if c' = 1 then some (⟨blk, off, none⟩ : Addr) else some ⟨blk, off + 5, none⟩) = some ⟨blk, off + 5, none⟩ := if_neg hd1
          rw [hif] at hrel
          clear hif
          go_wp2_with fail
          go_region_held3 (fun W' => W'.cell? ⟨blk, off, none⟩ = some (.int .u8 x.kind) ∧ W'.cell? ⟨blk, off + 1, none⟩ = some (.int .u32 x.id.t) ∧ W'.cell? ⟨blk, off + 2, none⟩ = some (.int .u8 x.id.r) ∧ W'.cell? ⟨blk, off + 3, none⟩ = some (.slice S x.pl.length sc) ∧ W'.cell? ⟨blk, off + 4, none⟩ = some (.int .i64 x.pt))
            (first
              | exact kA.out _ hblw.drew
              | exact kA.out _ hblw
              | exact kA.out _ hbl1
              | exact kA.out _ (hbl1.alloc _)
              | exact kA.out _ hbl4
              | go_keep)
            (first
              | (go_at_call 39; refine (opTwin x S sc _ ⟨ho, s1, s2, R.bl hS hblw.drew⟩ hys).mono ?_; rintro e w3 ⟨A1, n1, rfl, q1, q2, hr1, hb30⟩; have hb3 : Bl wr w3 := (Bl.refl wr).drew.trans hb30; clear hb30; have hbl1 : Bl w w3 := hblw.trans hb3; have hzb3 : wr.heap.size ≤ w3.heap.size := hb3.size)
              | (refine step_append_any2 (C := cOp) (xs := acc) (ys := [x]) rfl (.tmp 55) (.tmp 60) _ rfl 33 i0 _ 48 Try.underlying22 hi hz0 hz1 hz2 rfl _ w2.heap.size rfl ((hown.bl hb3).bl ((Bl.refl _).alloc _)) (some ⟨w3.heap.size, 0, none⟩) 1 _ rfl rfl (hown.src (cs := opCells x A1 n1) hb3 hzr ⟨ho, A1, n1, q1, q2, rfl, hr1⟩) ?_ ?_ ?_ ?_; (simp only [maxLen]; simp; omega); (simp; omega); (simp; omega); intro v4 w4 hown4 hg4 _; have hbl3 : Bl w2 w4 := ((hbl.trans hb3).alloc _).app ((hown.bl hb3).bl ((Bl.refl _).alloc _)) (Nat.le_refl _) hg4; have hbl4 : Bl w w4 := hb02.trans hbl3))
          go_wp2_with fail
          go_roundw
          case rel => exact hrel.out _ _ hbl3 hown4
          case measure => simp [sliceLen]; omega
    · have ea : a' = [] := List.eq_nil_of_length_eq_zero (by omega)
      by_cases hb0 : 0 < b'.length
      · obtain ⟨y, hy⟩ := get_lt hb0
        obtain ⟨blk, off, rfl, _, hbk⟩ := hB.addr hb0
        obtain ⟨_, ho, S, sc, s1, s2, hS, c0, c1, c2, c3, c4⟩ := hB.op hy
        simp only [Nat.zero_mul, Nat.add_zero] at c0 c1 c2 c3 c4
        have hai : ¬ (0 : Int) < (a'.length : Int) := by omega
        have hbi : (0 : Int) < (b'.length : Int) := by omega
        have hbi1 : (1 : Int) ≤ (b'.length : Int) := by omega
        have kA := hide (fun V (hV : Bl w V) => (⟨(hV.cell hbk).trans c0, (hV.cell hbk).trans c1, (hV.cell hbk).trans c2, (hV.cell hbk).trans c3, (hV.cell hbk).trans c4⟩ : V.cell? ⟨blk, off, none⟩ = some (.int .u8 y.kind) ∧ V.cell? ⟨blk, off + 1, none⟩ = some (.int .u32 y.id.t) ∧ V.cell? ⟨blk, off + 2, none⟩ = some (.int .u8 y.id.r) ∧ V.cell? ⟨blk, off + 3, none⟩ = some (.slice S y.pl.length sc) ∧ V.cell? ⟨blk, off + 4, none⟩ = some (.int .i64 y.pt)))
        have hys := hsm.out.2 y (List.mem_of_getElem? hy)
        obtain ⟨f', rfl⟩ : ∃ f', f = f' + 1 := ⟨f - 1, by omega⟩
        have hmf : mergeF (f' + 1) a' b' = y :: mergeF f' a' (b'.drop 1) := by
          rw [ea]
          conv => lhs; rw [cons_drop1 hy]
          rfl
        have hrel : ∀ v4 w4, Bl w2 w4 → Own cOp 33 w2.heap.size w4 v4 (acc ++ [y]) → JoinRel w w2 J (.slice A' a'.length c') (.slice (if d' = 1 then some ⟨blk, off, none⟩ else some ⟨blk, off + 5, none⟩) (b'.length - 1) (d' - 1)) v4 w4 := fun v4 w4 hb4 hown4 =>
          ⟨hb4, f', a', b'.drop 1, acc ++ [y], A', _, c', d' - 1, rfl, by rw [List.length_drop], hac, hcm, by rw [List.length_drop]; omega, by omega, hA, tail_R hB hbd, ⟨hsm.out.1, fun x hx => hsm.out.2 x (List.mem_of_mem_drop hx)⟩, by rw [List.length_drop]; omega, by rw [List.length_append, List.length_singleton]; omega, hown4, by rw [hJ.out, hmf, List.append_assoc]; rfl⟩
        replace hrel := hide hrel
        replace ea := hide ea
        replace hy := hide hy
        have htot' : acc.length ≤ 2047 := by omega
        clear hmf hsm hJ hA hac hcm hlen htot c0 c1 c2 c3 c4
        by_cases hd1 : d' = 1
        · rw [if_pos hd1, show b'.length - 1 = 0 by omega, show d' - 1 = 0 by omega] at hrel
          subst hd1
          go_wp2_with fail
          go_region_held3 (fun W' => W'.cell? ⟨blk, off, none⟩ = some (.int .u8 y.kind) ∧ W'.cell? ⟨blk, off + 1, none⟩ = some (.int .u32 y.id.t) ∧ W'.cell? ⟨blk, off + 2, none⟩ = some (.int .u8 y.id.r) ∧ W'.cell? ⟨blk, off + 3, none⟩ = some (.slice S y.pl.length sc) ∧ W'.cell? ⟨blk, off + 4, none⟩ = some (.int .i64 y.pt))
            (first
              | exact kA.out _ hblw.drew
              | exact kA.out _ hblw
              | exact kA.out _ hbl1
              | exact kA.out _ (hbl1.alloc _)
              | exact kA.out _ hbl4
              | go_keep)
            (first
              | (go_at_call 39; refine (opTwin y S sc _ ⟨ho, s1, s2, R.bl hS hblw.drew⟩ hys).mono ?_; rintro e w3 ⟨A1, n1, rfl, q1, q2, hr1, hb30⟩; have hb3 : Bl wr w3 := (Bl.refl wr).drew.trans hb30; clear hb30; have hbl1 : Bl w w3 := hblw.trans hb3; have hzb3 : wr.heap.size ≤ w3.heap.size := hb3.size)
              | (refine step_append_any2 (C := cOp) (xs := acc) (ys := [y]) rfl (.tmp 46) (.tmp 51) _ rfl 33 i0 _ 48 Try.underlying22 hi hz0 hz1 hz2 rfl _ w2.heap.size rfl ((hown.bl hb3).bl ((Bl.refl _).alloc _)) (some ⟨w3.heap.size, 0, none⟩) 1 _ rfl rfl (hown.src (cs := opCells y A1 n1) hb3 hzr ⟨ho, A1, n1, q1, q2, rfl, hr1⟩) ?_ ?_ ?_ ?_; (simp only [maxLen]; simp; omega); (simp; omega); (simp; omega); intro v4 w4 hown4 hg4 _; have hbl3 : Bl w2 w4 := ((hbl.trans hb3).alloc _).app ((hown.bl hb3).bl ((Bl.refl _).alloc _)) (Nat.le_refl _) hg4; have hbl4 : Bl w w4 := hb02.trans hbl3))
          go_wp2_with fail
          go_roundw
          case rel => exact hrel.out _ _ hbl3 hown4
          case measure => simp [sliceLen]; omega
        · have hif : (if d' = 1 then some (⟨blk, off, none⟩ : Addr) else some ⟨blk, off + 5, none⟩) = some ⟨blk, off + 5, none⟩ := if_neg hd1
          rw [hif] at hrel
          clear hif
          go_wp2_with fail
          go_region_held3 (fun W' => W'.cell? ⟨blk, off, none⟩ = some (.int .u8 y.kind) ∧ W'.cell? ⟨blk, off + 1, none⟩ = some (.int .u32 y.id.t) ∧ W'.cell? ⟨blk, off + 2, none⟩ = some (.int .u8 y.id.r) ∧ W'.cell? ⟨blk, off + 3, none⟩ = some (.slice S y.pl.length sc) ∧ W'.cell? ⟨blk, off + 4, none⟩ = some (.int .i64 y.pt))
            (first
              | exact kA.out _ hblw.drew
              | exact kA.out _ hblw
              | exact kA.out _ hbl1
              | exact kA.out _ (hbl1.alloc _)
              | exact kA.out _ hbl4
              | go_keep)
            (first
              | (go_at_call 39; refine (opTwin y S sc _ ⟨ho, s1, s2, R.bl hS hblw.drew⟩ hys).mono ?_; rintro e w3 ⟨A1, n1, rfl, q1, q2, hr1, hb30⟩; have hb3 : Bl wr w3 := (Bl.refl wr).drew.trans hb30; clear hb30; have hbl1 : Bl w w3 := hblw.trans hb3; have hzb3 : wr.heap.size ≤ w3.heap.size := hb3.size)
              | (refine step_append_any2 (C := cOp) (xs := acc) (ys := [y]) rfl (.tmp 46) (.tmp 51) _ rfl 33 i0 _ 48 Try.underlying22 hi hz0 hz1 hz2 rfl _ w2.heap.size rfl ((hown.bl hb3).bl ((Bl.refl _).alloc _)) (some ⟨w3.heap.size, 0, none⟩) 1 _ rfl rfl (hown.src (cs := opCells y A1 n1) hb3 hzr ⟨ho, A1, n1, q1, q2, rfl, hr1⟩) ?_ ?_ ?_ ?_; (simp only [maxLen]; simp; omega); (simp; omega); (simp; omega); intro v4 w4 hown4 hg4 _; have hbl3 : Bl w2 w4 := ((hbl.trans hb3).alloc _).app ((hown.bl hb3).bl ((Bl.refl _).alloc _)) (Nat.le_refl _) hg4; have hbl4 : Bl w w4 := hb02.trans hbl3))
          go_wp2_with fail
          go_roundw
          case rel => exact hrel.out _ _ hbl3 hown4
          case measure => simp [sliceLen]; omega
      · have eb : b' = [] := List.eq_nil_of_length_eq_zero (by omega)
        have hJe : J = acc := by rw [hJ.out, ea, eb, mergeF_nil, List.append_nil]
        have hai : ¬ (0 : Int) < (a'.length : Int) := by omega
        have hbi : ¬ (0 : Int) < (b'.length : Int) := by omega
        obtain ⟨A5, c5, hv5, hr5, q1, q2⟩ := hown.reads
        subst hv5
        rw [hJe] at hN' hL'
        replace ea := hide ea
        replace eb := hide eb
        by_cases hbig : 1024 < acc.length
        · have e2 : N = 9 := by rw [hN'.out, if_pos hbig]
          have e1 : L = [] := by rw [hL'.out, e2]; rfl
          subst e1 e2
          have hbig' : (1024 : Int) < (acc.length : Int) := by omega
          clear hJe hJ hsm
          go_wp2_with fail
          go_ret2
          exact ⟨none, 0, rfl, Nat.le_refl _, Nat.zero_le _, R.nil, hblw⟩
        · have e2 : N = 0 := by rw [hN'.out, if_neg hbig]
          have e1 : L = acc := by rw [hL'.out, e2]; rfl
          subst e1 e2
          have hbig' : ¬ (1024 : Int) < (L.length : Int) := by omega
          clear hJe hJ hsm
          go_wp2_with fail
          go_ret2
          exact ⟨A5, c5, rfl, q1, q2, hr5.more hb02.size, hblw⟩
end Go.Proofs.Ytedcopjpgijpjaa
