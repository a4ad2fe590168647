/-
  The walk of fetch.Begin.
-/
import Derived.Test.YtegmddgbdjlidaaDoor
import Derived.Deep.Cut
import Derived.Deep.CutRange
namespace Go.Proofs.Ytegmddgbdjlidaa
open Go.RowKit

/-- What fetch.Begin answers. -/
def beginN (x : Entry) (c : List Times) : Int := if entryMay x then (if clockIdsErr c = 0 then (if x.ready then 6 else 0) else clockIdsErr c) else 8
def beginE (x : Entry) (c : List Times) : Entry := if beginN x c = 0 then setE 0 (if x.known && same x.snap c then x else ⟨x.id, x.ready, x.pin, x.used, true, c, List.replicate (chunksOf c).toNat false⟩) else zeroE
theorem setE_pos {n : Int} (h : n ≠ 0) (y : Entry) : setE n y = zeroE := by unfold setE; rw [if_neg h]
theorem clockIdsErr_small {c : List Times} (h : clockIdsErr c = 0) : smallC c := by
  have hm : clockMay c = true := by
    unfold clockIdsErr at h
    cases hq : clockMay c
    · rw [hq] at h
      simp at h
    · rfl
  have hall := clockFrom_all _ (show clockFrom (-1) c = true from hm)
  have hlen := clockMay_length hm
  refine ⟨by omega, fun y hy => ?_⟩
  have := hall y hy
  unfold spansMay at this
  simp only [Bool.and_eq_true, decide_eq_true_eq] at this
  omega

set_option maxRecDepth 100000 in
set_option maxHeartbeats 1000000 in
theorem fetchBegin (x : Entry) (A B C : Option Addr) (c d k : Nat) (m : List Times) (w : World) (hx : x.ok) (h1 : x.snap.length ≤ c) (h2 : c ≤ maxLen) (h3 : x.got.length ≤ d) (h4 : d ≤ maxLen) (hm : m.length ≤ maxLen) (hA : R cTimes 0 w A x.snap) (hB : R cBool 0 w B x.got) (hC : R cTimes 0 w C m) :
    Calls Try.prog 23 #[.agg #[.int .u32 x.id.t, .int .u8 x.id.r, .bool x.ready, .bool x.pin, .int .i64 x.used, .bool x.known, .slice A x.snap.length c, .slice B x.got.length d], .slice C m.length k] w (Ent2 (beginE x m) (beginN x m) w) := by
  have hmf := run_makeFunc
  have hown : ∀ W, Bl w W → Calls Try.prog 58 #[.agg #[.int .u32 x.id.t, .int .u8 x.id.r, .bool x.ready, .bool x.pin, .int .i64 x.used, .bool x.known, .slice A x.snap.length c, .slice B x.got.length d]] W (Ent2 (ownE x) (okOr 8 (entryMay x)) W) := fun W hb => fetchOwn x A B c d W hx h1 h2 h3 h4 (hA.bl hb) (hB.bl hb)
  have hchu : ∀ W, Bl w W → Calls Try.prog 34 #[.slice C m.length k] W (Two (chunksOf m) (clockIdsErr m) W) := fun W hb => snapChunks C k m W hm (hC.bl hb)
  replace hchu := hide hchu
  cases hmay : entryMay x
  · have e1 : beginN x m = 8 := by unfold beginN; rw [hmay]; rfl
    have e2 : beginE x m = zeroE := by unfold beginE; rw [e1]; rfl
    have e3 : ownE x = zeroE := by unfold ownE; rw [hmay]; rfl
    rw [hmay, e3, okOr_false] at hown
    replace hown := hide hown
    replace e2 : beginE x m = setE 8 zeroE := e2.trans (setE_pos (by decide) _).symm
    clear e3 hmay
    go_enter_defers Try.func23, Try.ntmps23
    go_wp2_with fail
    refine (settled _ _ _).mono ?_
    rintro e w1 ⟨B2, B3, q2, q3, rfl, k2, k3, hb1⟩
    simp only [World.size_alloc] at q2 q3
    have st1 := St.start (w := w) (x := x) (A := A) (c := c) (B := B) (d := d) hb1 q2 q3 k2 k3 (Bl.refl _)
    obtain ⟨hx1, -, -, -, hz1, -⟩ := start3_at (x := x) (A := A) (c := c) (B := B) (d := d) hb1
    obtain ⟨p0, p1, p2, p3, p4, p5, p6, p7⟩ := hx1.cells
    clear hb1 q2 q3 k2 k3 hx1
    go_wp2_with fail
    refine (hown.out _ st1.bl).mono ?_
    rintro e w2 ⟨A1, c1, B1, d1, rfl, l1, l2, l3, l4, hS, hG, hb2⟩
    have st2 := st1.go hb2
    clear p0 p1 p2 p3 p4 p5 p6 p7 st1
    obtain ⟨y0, y1, y2, y3, y4, y5, y6, y7⟩ := st2.ent.cells
    obtain ⟨f0, f1, f2, f3, f4, f5, f6, f7⟩ := st2.ent.frozens
    have hE2 := st2.err
    have gE2 := st2.gerr
    have st3 := (st2.set zeroE A1 c1 B1 d1 ⟨l1, l2⟩ ⟨l3, l4⟩ (hS.more (by omega)) (hG.more (by omega))).put 8
    go_wp2_with fail
    refine st3.leaves e1 e2 fun w' A c B d hat hE => ?_
    obtain ⟨z0, z1, z2, z3, z4, z5, z6, z7⟩ := hat.cells
    simp [results, Try.results23, go_sem, z0, z1, z2, z3, z4, z5, z6, z7, hE]
  · have e3 : ownE x = x := by unfold ownE; rw [hmay]; rfl
    rw [hmay, e3, okOr_true] at hown
    replace hown := hide hown
    clear e3
    go_enter_defers Try.func23, Try.ntmps23
    go_wp2_with fail
    refine (settled _ _ _).mono ?_
    rintro e w1 ⟨B2, B3, q2, q3, rfl, k2, k3, hb1⟩
    simp only [World.size_alloc] at q2 q3
    have st1 := St.start (w := w) (x := x) (A := A) (c := c) (B := B) (d := d) hb1 q2 q3 k2 k3 (Bl.refl _)
    obtain ⟨hx1, -, -, -, hz1, -⟩ := start3_at (x := x) (A := A) (c := c) (B := B) (d := d) hb1
    obtain ⟨p0, p1, p2, p3, p4, p5, p6, p7⟩ := hx1.cells
    clear hb1 q2 q3 k2 k3 hx1
    go_wp2_with fail
    refine (hown.out _ st1.bl).mono ?_
    rintro e w2 ⟨A1, c1, B1, d1, rfl, l1, l2, l3, l4, hS, hG, hb2⟩
    have st2 := st1.go hb2
    clear p0 p1 p2 p3 p4 p5 p6 p7 st1
    obtain ⟨y0, y1, y2, y3, y4, y5, y6, y7⟩ := st2.ent.cells
    obtain ⟨f0, f1, f2, f3, f4, f5, f6, f7⟩ := st2.ent.frozens
    have hE2 := st2.err
    have gE2 := st2.gerr
    have st3 := (st2.set x A1 c1 B1 d1 ⟨l1, l2⟩ ⟨l3, l4⟩ (hS.more (by omega)) (hG.more (by omega))).put 0
    go_wp2_with fail
    refine (hchu.out _ st3.bl).mono ?_
    rintro e w3 ⟨rfl, hb3⟩
    have st4 := st3.go hb3
    clear y0 y1 y2 y3 y4 y5 y6 y7 f0 f1 f2 f3 f4 f5 f6 f7 hE2 gE2 st3 hb3 st2 hS hG l1 l2 l3 l4 hb2
    obtain ⟨y0, y1, y2, y3, y4, y5, y6, y7⟩ := st4.ent.cells
    obtain ⟨f0, f1, f2, f3, f4, f5, f6, f7⟩ := st4.ent.frozens
    have hE2 := st4.err
    have gE2 := st4.gerr
    by_cases her : clockIdsErr m = 0
    · have her' : (clockIdsErr m != 0) = false := by simp [her]
      cases hr : x.ready
      · have e1 : beginN x m = 0 := by unfold beginN; rw [hmay, her, hr]; rfl
        rw [hr] at y2
        have st5 := st4.put (clockIdsErr m)
        rw [her] at st5
        cases hk : x.known
        · have e2 : beginE x m = setE 0 ⟨x.id, false, x.pin, x.used, true, m, List.replicate (chunksOf m).toNat false⟩ := by unfold beginE; rw [if_pos e1, hk, hr]; rfl
          rw [hk] at y5
          clear hown hmay
          go_wp2_with fail
          obtain ⟨W, hW⟩ : ∃ W, W = w3.setCell ⟨w.heap.size + 1 + 1, 0, none⟩ (.int .i64 0) := ⟨_, rfl⟩
          rw [← hW] at st5
          rw [← hW]
          clear hW
          have st7 := st5
          clear y0 y1 y2 y3 y4 y5 y6 y7 f0 f1 f2 f3 f4 f5 f6 f7 hE2 gE2
          have kA : ∀ V, Bl W V → St w V B2 B3 x 0 A1 c1 B1 d1 := fun V hV => st7.go hV
          replace kA := hide kA
          obtain ⟨y0, y1, y2, y3, y4, y5, y6, y7⟩ := st7.ent.cells
          obtain ⟨f0, f1, f2, f3, f4, f5, f6, f7⟩ := st7.ent.frozens
          rw [hr] at y2
          have hn0 : 0 ≤ chunksOf m ∧ chunksOf m ≤ 1024 := by have := clockIds_length m; unfold chunksOf; omega
          have hmk : ∀ V, (Instr.makeSlice 29 (.int .i64 (chunksOf m)) (.int .i64 (chunksOf m))).run Try.prog V = .ok (.slice (some ⟨V.heap.size, 0, none⟩) (chunksOf m).toNat (chunksOf m).toNat) (V.alloc (.cells (madeCells (Value.bool false).cells ((chunksOf m).toNat * 1)) 4)) := by
            intro V
            obtain ⟨i0, hi, hz0, hz1, hz2⟩ := info_parts Try.infoBool
            have := run_make (P := Try.prog) V 29 4 i0 _ Try.underlying29 hi hz0 .i64 .i64 (chunksOf m) (chunksOf m) hn0.1 (Int.le_refl _) (by rw [hz2]; omega) (by omega)
            rw [hz1] at this
            exact this
          have hsm := clockIdsErr_small her
          have hE7 := st7.err
          have gE7 := st7.gerr
          have hblW := st7.bl
          clear hchu st5
          have hzW := st7.ent.lt
          have hzE := World.block_lt_of_cell? _ _ hE7
          have hmax : (chunksOf m).toNat ≤ maxLen := by unfold maxLen; omega
          go_cut [] from 39 to 46 (fun wx => ∃ S' sc' G', St w wx B2 B3 ⟨x.id, false, x.pin, x.used, true, m, List.replicate (chunksOf m).toNat false⟩ 0 S' sc' G' (chunksOf m).toNat)
          case first =>
            refine wp_then_false ?_
            go_region_with (go_at_call 59; first
              | (refine (clockTwin C k m W.drew hsm (hC.bl hblW.drew)).mono ?_; rintro e w5 ⟨A5, c5, rfl, h5, h6, hr5, hb50⟩; have hb5 : Bl W w5 := (Bl.refl W).drew.trans hb50; have hz5 := hb5.size; have hG5 := R.made (chunksOf m).toNat w5.heap.size w5 4 (Nat.le_refl _); have hS5 : R cTimes W.heap.size w5 A5 m := hr5; clear hb50 hr5; obtain ⟨z0, z1, z2, z3, z4, z5, z6, z7⟩ := (kA.out w5 hb5).ent.cells; obtain ⟨g0, g1, g2, g3, g4, g5, g6, g7⟩ := (kA.out w5 hb5).ent.frozens; rw [hr] at z2; have hE5 := (kA.out w5 hb5).err; have gE5 := (kA.out w5 hb5).gerr; have hzW5 := (kA.out w5 hb5).ent.lt; have hzE5 := World.block_lt_of_cell? _ _ hE5)
              | (refine (clockTwin C k m _ hsm (hC.bl (hblW.alloc _).drew)).mono ?_; rintro e w5 ⟨A5, c5, rfl, h5, h6, hr5, hb50⟩; have hb5 : Bl W w5 := ((Bl.refl W).alloc _).drew.trans hb50; have hG5 := (R.made (chunksOf m).toNat W.heap.size W 4 (Nat.le_refl _)).bl ((Bl.refl _).drew.trans hb50); have hz5 := hb5.size; have hS5 : R cTimes W.heap.size w5 A5 m := hr5.more (((Bl.refl W).alloc _).drew).size; clear hb50 hr5; obtain ⟨z0, z1, z2, z3, z4, z5, z6, z7⟩ := (kA.out w5 hb5).ent.cells; obtain ⟨g0, g1, g2, g3, g4, g5, g6, g7⟩ := (kA.out w5 hb5).ent.frozens; rw [hr] at z2; have hE5 := (kA.out w5 hb5).err; have gE5 := (kA.out w5 hb5).gerr; have hzW5 := (kA.out w5 hb5).ent.lt; have hzE5 := World.block_lt_of_cell? _ _ hE5))
            all_goals
              go_wp2_with fail
              go_meet
            all_goals
              have hlo : w.heap.size + 1 + 1 + 1 ≤ W.heap.size := hzE
              have hlo5 : w.heap.size + 1 + 1 + 1 ≤ w5.heap.size := Nat.le_trans hlo hz5
              first
                | (have fin := (kA.out w5 hb5).three4 m (chunksOf m).toNat A5 c5 4 ⟨h5, h6⟩ hmax (hS5.more hlo); rw [hr] at fin; exact ⟨A5, c5, some ⟨w5.heap.size, 0, none⟩, fin⟩)
                | (have fin := (kA.out w5 hb5).three3 m (chunksOf m).toNat A5 c5 (some ⟨W.heap.size, 0, none⟩) ⟨h5, h6⟩ hmax (hS5.more hlo) (hG5.more hlo); rw [hr] at fin; exact ⟨A5, c5, some ⟨W.heap.size, 0, none⟩, fin⟩)
          case rest =>
            obtain ⟨S9, sc9, G9, st9⟩ := hcut
            obtain ⟨z0, z1, z2, z3, z4, z5, z6, z7⟩ := st9.ent.cells
            obtain ⟨g0, g1, g2, g3, g4, g5, g6, g7⟩ := st9.ent.frozens
            have hE9 := st9.err
            have gE9 := st9.gerr
            clear y0 y1 y2 y3 y4 y5 y6 y7 f0 f1 f2 f3 f4 f5 f6 f7 hE7 gE7
            have st8 := (st9.set ⟨x.id, false, x.pin, x.used, true, m, List.replicate (chunksOf m).toNat false⟩ S9 sc9 G9 (chunksOf m).toNat st9.ls st9.lg st9.rs st9.rg).put 0
            rw [List.length_replicate] at z7
            unfold set8 at st8
            rw [List.length_replicate] at st8
            go_wp2_with fail
            refine st8.leaves (by first | exact e1 | rfl) (by first | exact e2 | rfl) fun w' A c B d hat hE => ?_
            obtain ⟨z0, z1, z2, z3, z4, z5, z6, z7⟩ := hat.cells
            simp [results, Try.results23, go_sem, z0, z1, z2, z3, z4, z5, z6, z7, hE]
        · rw [hk] at y5
          have hsame : ∀ W, St w W B2 B3 x 0 A1 c1 B1 d1 → Calls Try.prog 55 #[.slice A1 x.snap.length c1, .slice C m.length k] W fun e w' => e = .returned (.bool (same x.snap m)) ∧ Bl W w' := fun W hW => clockSame A1 C c1 k x.snap m W (Nat.le_trans hW.ls.1 hW.ls.2) hm hW.rs.zero (hC.bl hW.bl)
          cases hq : same x.snap m
          · have e2 : beginE x m = setE 0 ⟨x.id, false, x.pin, x.used, true, m, List.replicate (chunksOf m).toNat false⟩ := by unfold beginE; rw [if_pos e1, hk, hq, hr]; rfl
            rw [hq] at hsame
            replace hsame := hide hsame
            clear hown hmay
            go_wp2_with (go_at_call 55; refine (hsame.out _ st5).mono ?_; rintro e W ⟨rfl, hb5⟩)
            have st7 := st5.go hb5
            clear y0 y1 y2 y3 y4 y5 y6 y7 f0 f1 f2 f3 f4 f5 f6 f7 hE2 gE2
            have kA : ∀ V, Bl W V → St w V B2 B3 x 0 A1 c1 B1 d1 := fun V hV => st7.go hV
            replace kA := hide kA
            obtain ⟨y0, y1, y2, y3, y4, y5, y6, y7⟩ := st7.ent.cells
            obtain ⟨f0, f1, f2, f3, f4, f5, f6, f7⟩ := st7.ent.frozens
            rw [hr] at y2
            have hn0 : 0 ≤ chunksOf m ∧ chunksOf m ≤ 1024 := by have := clockIds_length m; unfold chunksOf; omega
            have hmk : ∀ V, (Instr.makeSlice 29 (.int .i64 (chunksOf m)) (.int .i64 (chunksOf m))).run Try.prog V = .ok (.slice (some ⟨V.heap.size, 0, none⟩) (chunksOf m).toNat (chunksOf m).toNat) (V.alloc (.cells (madeCells (Value.bool false).cells ((chunksOf m).toNat * 1)) 4)) := by
              intro V
              obtain ⟨i0, hi, hz0, hz1, hz2⟩ := info_parts Try.infoBool
              have := run_make (P := Try.prog) V 29 4 i0 _ Try.underlying29 hi hz0 .i64 .i64 (chunksOf m) (chunksOf m) hn0.1 (Int.le_refl _) (by rw [hz2]; omega) (by omega)
              rw [hz1] at this
              exact this
            have hsm := clockIdsErr_small her
            have hE7 := st7.err
            have gE7 := st7.gerr
            have hblW := st7.bl
            clear hchu st5
            have hzW := st7.ent.lt
            have hzE := World.block_lt_of_cell? _ _ hE7
            have hmax : (chunksOf m).toNat ≤ maxLen := by unfold maxLen; omega
            go_cut [] from 39 to 46 (fun wx => ∃ S' sc' G', St w wx B2 B3 ⟨x.id, false, x.pin, x.used, true, m, List.replicate (chunksOf m).toNat false⟩ 0 S' sc' G' (chunksOf m).toNat)
            case first =>
              refine wp_then_false ?_
              go_region_with (go_at_call 59; first
                | (refine (clockTwin C k m W.drew hsm (hC.bl hblW.drew)).mono ?_; rintro e w5 ⟨A5, c5, rfl, h5, h6, hr5, hb50⟩; have hb5 : Bl W w5 := (Bl.refl W).drew.trans hb50; have hz5 := hb5.size; have hG5 := R.made (chunksOf m).toNat w5.heap.size w5 4 (Nat.le_refl _); have hS5 : R cTimes W.heap.size w5 A5 m := hr5; clear hb50 hr5; obtain ⟨z0, z1, z2, z3, z4, z5, z6, z7⟩ := (kA.out w5 hb5).ent.cells; obtain ⟨g0, g1, g2, g3, g4, g5, g6, g7⟩ := (kA.out w5 hb5).ent.frozens; rw [hr] at z2; have hE5 := (kA.out w5 hb5).err; have gE5 := (kA.out w5 hb5).gerr; have hzW5 := (kA.out w5 hb5).ent.lt; have hzE5 := World.block_lt_of_cell? _ _ hE5)
                | (refine (clockTwin C k m _ hsm (hC.bl (hblW.alloc _).drew)).mono ?_; rintro e w5 ⟨A5, c5, rfl, h5, h6, hr5, hb50⟩; have hb5 : Bl W w5 := ((Bl.refl W).alloc _).drew.trans hb50; have hG5 := (R.made (chunksOf m).toNat W.heap.size W 4 (Nat.le_refl _)).bl ((Bl.refl _).drew.trans hb50); have hz5 := hb5.size; have hS5 : R cTimes W.heap.size w5 A5 m := hr5.more (((Bl.refl W).alloc _).drew).size; clear hb50 hr5; obtain ⟨z0, z1, z2, z3, z4, z5, z6, z7⟩ := (kA.out w5 hb5).ent.cells; obtain ⟨g0, g1, g2, g3, g4, g5, g6, g7⟩ := (kA.out w5 hb5).ent.frozens; rw [hr] at z2; have hE5 := (kA.out w5 hb5).err; have gE5 := (kA.out w5 hb5).gerr; have hzW5 := (kA.out w5 hb5).ent.lt; have hzE5 := World.block_lt_of_cell? _ _ hE5))
              all_goals
                go_wp2_with fail
                go_meet
              all_goals
                have hlo : w.heap.size + 1 + 1 + 1 ≤ W.heap.size := hzE
                have hlo5 : w.heap.size + 1 + 1 + 1 ≤ w5.heap.size := Nat.le_trans hlo hz5
                first
                  | (have fin := (kA.out w5 hb5).three4 m (chunksOf m).toNat A5 c5 4 ⟨h5, h6⟩ hmax (hS5.more hlo); rw [hr] at fin; exact ⟨A5, c5, some ⟨w5.heap.size, 0, none⟩, fin⟩)
                  | (have fin := (kA.out w5 hb5).three3 m (chunksOf m).toNat A5 c5 (some ⟨W.heap.size, 0, none⟩) ⟨h5, h6⟩ hmax (hS5.more hlo) (hG5.more hlo); rw [hr] at fin; exact ⟨A5, c5, some ⟨W.heap.size, 0, none⟩, fin⟩)
            case rest =>
              obtain ⟨S9, sc9, G9, st9⟩ := hcut
              obtain ⟨z0, z1, z2, z3, z4, z5, z6, z7⟩ := st9.ent.cells
              obtain ⟨g0, g1, g2, g3, g4, g5, g6, g7⟩ := st9.ent.frozens
              have hE9 := st9.err
              have gE9 := st9.gerr
              clear y0 y1 y2 y3 y4 y5 y6 y7 f0 f1 f2 f3 f4 f5 f6 f7 hE7 gE7
              have st8 := (st9.set ⟨x.id, false, x.pin, x.used, true, m, List.replicate (chunksOf m).toNat false⟩ S9 sc9 G9 (chunksOf m).toNat st9.ls st9.lg st9.rs st9.rg).put 0
              rw [List.length_replicate] at z7
              unfold set8 at st8
              rw [List.length_replicate] at st8
              go_wp2_with fail
              refine st8.leaves (by first | exact e1 | rfl) (by first | exact e2 | rfl) fun w' A c B d hat hE => ?_
              obtain ⟨z0, z1, z2, z3, z4, z5, z6, z7⟩ := hat.cells
              simp [results, Try.results23, go_sem, z0, z1, z2, z3, z4, z5, z6, z7, hE]
          · have hx' : x = ⟨x.id, false, x.pin, x.used, true, x.snap, x.got⟩ := by rw [← hr, ← hk]
            have e2 : beginE x m = setE 0 ⟨x.id, false, x.pin, x.used, true, x.snap, x.got⟩ := by rw [← hx']; unfold beginE; rw [if_pos e1, hk, hq]; rfl
            rw [hq] at hsame
            replace hsame := hide hsame
            clear hown hmay
            clear hx'
            go_wp2_with (go_at_call 55; refine (hsame.out _ st5).mono ?_; rintro e W ⟨rfl, hb5⟩; have st7 := st5.go hb5; obtain ⟨z0, z1, z2, z3, z4, z5, z6, z7⟩ := st7.ent.cells; obtain ⟨g0, g1, g2, g3, g4, g5, g6, g7⟩ := st7.ent.frozens; have hE7 := st7.err; have gE7 := st7.gerr; rw [hr] at z2; rw [hk] at z5)
            have st7 := st5.go hb5
            have st6 := (st7.set ⟨x.id, false, x.pin, x.used, true, x.snap, x.got⟩ A1 c1 B1 d1 st7.ls st7.lg st7.rs st7.rg).put 0
            refine st6.leaves e1 e2 fun w' A c B d hat hE => ?_
            obtain ⟨z0, z1, z2, z3, z4, z5, z6, z7⟩ := hat.cells
            simp [results, Try.results23, go_sem, z0, z1, z2, z3, z4, z5, z6, z7, hE]
      · have e1 : beginN x m = 6 := by unfold beginN; rw [hmay, her, hr]; rfl
        have e2 : beginE x m = setE 6 ⟨x.id, true, x.pin, x.used, x.known, x.snap, x.got⟩ := by rw [setE_pos (by decide)]; unfold beginE; rw [e1]; rfl
        have hr' : (x.ready != false) = true := by rw [hr]; rfl
        rw [hr] at y2
        have st5 := st4.put (clockIdsErr m)
        rw [her] at st5
        have st6 := (st5.set ⟨x.id, true, x.pin, x.used, x.known, x.snap, x.got⟩ A1 c1 B1 d1 st5.ls st5.lg st5.rs st5.rg).put 6
        clear hchu hown hmay
        go_wp2_with fail
        refine st6.leaves e1 e2 fun w' A c B d hat hE => ?_
        obtain ⟨z0, z1, z2, z3, z4, z5, z6, z7⟩ := hat.cells
        simp [results, Try.results23, go_sem, z0, z1, z2, z3, z4, z5, z6, z7, hE]
    · have her' : (clockIdsErr m != 0) = true := by simp [her]
      have e1 : beginN x m = clockIdsErr m := by unfold beginN; rw [hmay, if_pos rfl, if_neg her]
      have e2 : beginE x m = setE (clockIdsErr m) x := by rw [setE_pos her]; unfold beginE; rw [e1, if_neg her]
      have st5 := st4.put (clockIdsErr m)
      have st6 := (st5.set x A1 c1 B1 d1 st5.ls st5.lg st5.rs st5.rg).put (clockIdsErr m)
      clear hchu hown hmay
      go_wp2_with fail
      refine st6.leaves e1 e2 fun w' A c B d hat hE => ?_
      obtain ⟨z0, z1, z2, z3, z4, z5, z6, z7⟩ := hat.cells
      simp [results, Try.results23, go_sem, z0, z1, z2, z3, z4, z5, z6, z7, hE]
end Go.Proofs.Ytegmddgbdjlidaa
