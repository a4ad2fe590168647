/-
  The walk of fetch.Took.
-/
import Derived.Test.YtegmddgbdjlidaaKinds
import Derived.Test.YtegmddgbdjlidaaLeft
namespace Go.Proofs.Ytegmddgbdjlidaa
open Go.RowKit

/-- Does an entry want a chunk of these stamps? -/
def wants (x : Entry) (n : Int) (ids : List Id) : Bool := decide (0 ≤ n) && (decide (n < x.got.length) && (!(x.got[n.toNat]?.getD true) && same (cutIds x.snap n) ids))
def tookN (x : Entry) (n : Int) (ids : List Id) : Int := if entryMay x then (if wants x n ids then 0 else 6) else 8
def tookE (x : Entry) (n : Int) (ids : List Id) : Entry := if tookN x n ids = 0 then setE 0 ⟨x.id, x.ready, x.pin, x.used, x.known, x.snap, x.got.set n.toNat true⟩ else zeroE

set_option maxRecDepth 100000 in
set_option maxHeartbeats 1000000 in
theorem fetchTook (x : Entry) (n : Int) (ids : List Id) (A B D : Option Addr) (c d k : Nat) (w : World) (hx : x.ok) (hn : i64ok n) (h1 : x.snap.length ≤ c) (h2 : c ≤ maxLen) (h3 : x.got.length ≤ d) (h4 : d ≤ maxLen) (hm : ids.length ≤ maxLen) (hA : R cTimes 0 w A x.snap) (hB : R cBool 0 w B x.got) (hD : R cId 0 w D ids) :
    Calls Try.prog 25 #[.agg #[.int .u32 x.id.t, .int .u8 x.id.r, .bool x.ready, .bool x.pin, .int .i64 x.used, .bool x.known, .slice A x.snap.length c, .slice B x.got.length d], .int .i64 n, .slice D ids.length k] w (Ent2 (tookE x n ids) (tookN x n ids) w) := by
  have hmf := run_makeFunc
  have hown : ∀ W, Bl w W → Calls Try.prog 58 #[.agg #[.int .u32 x.id.t, .int .u8 x.id.r, .bool x.ready, .bool x.pin, .int .i64 x.used, .bool x.known, .slice A x.snap.length c, .slice B x.got.length d]] W (Ent2 (ownE x) (okOr 8 (entryMay x)) W) := fun W hb => fetchOwn x A B c d W hx h1 h2 h3 h4 (hA.bl hb) (hB.bl hb)
  cases hmay : entryMay x
  · have e1 : tookN x n ids = 8 := by unfold tookN; rw [hmay]; rfl
    have e2 : tookE x n ids = zeroE := by unfold tookE; rw [e1]; rfl
    have e3 : ownE x = zeroE := by unfold ownE; rw [hmay]; rfl
    rw [hmay, e3, okOr_false] at hown
    replace hown := hide hown
    replace e2 : tookE x n ids = setE 8 zeroE := e2.trans (setE_pos (by decide) _).symm
    clear e3 hmay
    go_enter_defers Try.func25, Try.ntmps25
    go_wp2_with fail
    refine (settled _ _ _).mono ?_
    rintro e w1 ⟨B2, B3, q2, q3, rfl, k2, k3, hb1⟩
    simp only [World.size_alloc] at q2 q3
    have st1 := St.start (w := w) (x := x) (A := A) (c := c) (B := B) (d := d) hb1 q2 q3 k2 k3 (Bl.refl _)
    obtain ⟨hx1, -, -, -, hz1, -⟩ := start3_at (x := x) (A := A) (c := c) (B := B) (d := d) hb1
    obtain ⟨p0, p1, p2, p3, p4, p5, p6, p7⟩ := hx1.cells
    clear hb1 q2 q3 k2 k3 hx1
    go_wp2_with fail
    refine (hown.out _ st1.bl).mono ?_
    rintro e w2 ⟨A1, c1, B1, d1, rfl, l1, l2, l3, l4, hS, hG, hb2⟩
    have st2 := st1.go hb2
    clear p0 p1 p2 p3 p4 p5 p6 p7 st1
    obtain ⟨y0, y1, y2, y3, y4, y5, y6, y7⟩ := st2.ent.cells
    obtain ⟨f0, f1, f2, f3, f4, f5, f6, f7⟩ := st2.ent.frozens
    have hE2 := st2.err
    have gE2 := st2.gerr
    have st3 := (st2.set zeroE A1 c1 B1 d1 ⟨l1, l2⟩ ⟨l3, l4⟩ (hS.more (by omega)) (hG.more (by omega))).put 8
    go_wp2_with fail
    refine st3.leaves (by first | exact e1 | rfl) (by first | exact e2 | rfl) fun w' A c B d hat hE => ?_
    obtain ⟨z0, z1, z2, z3, z4, z5, z6, z7⟩ := hat.cells
    simp [results, Try.results25, go_sem, z0, z1, z2, z3, z4, z5, z6, z7, hE]
  · have e3 : ownE x = x := by unfold ownE; rw [hmay]; rfl
    rw [hmay, e3, okOr_true] at hown
    replace hown := hide hown
    clear e3
    have hgl : x.got.length ≤ 1048576 := (small_of_may hmay).2
    obtain ⟨n0, n1⟩ := hn
    -- the four ways
    have hway : (n < 0 ∧ wants x n ids = false) ∨ ((x.got.length : Int) ≤ n ∧ 0 ≤ n ∧ wants x n ids = false) ∨ (∃ j : Nat, n = (j : Int) ∧ j < x.got.length ∧ x.got[j]? = some true ∧ wants x n ids = false) ∨ (∃ j : Nat, n = (j : Int) ∧ j < x.got.length ∧ x.got[j]? = some false ∧ wants x n ids = same (cutIds x.snap n) ids) := by
      by_cases q0 : n < 0
      · exact .inl ⟨q0, by unfold wants; rw [decide_eq_false (by omega)]; rfl⟩
      · by_cases q1 : (x.got.length : Int) ≤ n
        · exact .inr (.inl ⟨q1, by omega, by unfold wants; rw [decide_eq_true (by omega), decide_eq_false (by omega)]; rfl⟩)
        · obtain ⟨j, rfl⟩ : ∃ j : Nat, n = (j : Int) := ⟨n.toNat, by omega⟩
          have hj : j < x.got.length := by omega
          cases hg : x.got[j]
          · refine .inr (.inr (.inr ⟨j, rfl, hj, by rw [List.getElem?_eq_getElem hj, hg], ?_⟩))
            unfold wants
            rw [decide_eq_true (by omega), decide_eq_true (by omega), Int.toNat_natCast, List.getElem?_eq_getElem hj, hg]
            rfl
          · refine .inr (.inr (.inl ⟨j, rfl, hj, by rw [List.getElem?_eq_getElem hj, hg], ?_⟩))
            unfold wants
            rw [decide_eq_true (by omega), decide_eq_true (by omega), Int.toNat_natCast, List.getElem?_eq_getElem hj, hg]
            rfl
    have e1f : wants x n ids = false → tookN x n ids = 6 := fun h => by unfold tookN; rw [hmay, h]; rfl
    have e2f : wants x n ids = false → tookE x n ids = setE 6 x := fun h => by rw [setE_pos (by decide)]; unfold tookE; rw [e1f h]; rfl
    have e1t : wants x n ids = true → tookN x n ids = 0 := fun h => by unfold tookN; rw [hmay, h]; rfl
    have e2t : wants x n ids = true → tookE x n ids = setE 0 ⟨x.id, x.ready, x.pin, x.used, x.known, x.snap, x.got.set n.toNat true⟩ := fun h => by unfold tookE; rw [if_pos (e1t h)]
    replace e1f := hide e1f
    replace e2f := hide e2f
    replace e1t := hide e1t
    replace e2t := hide e2t
    replace hway := hide hway
    clear hmay
    go_enter_defers Try.func25, Try.ntmps25
    go_wp2_with fail
    refine (settled _ _ _).mono ?_
    rintro e w1 ⟨B2, B3, q2, q3, rfl, k2, k3, hb1⟩
    simp only [World.size_alloc] at q2 q3
    have st1 := St.start (w := w) (x := x) (A := A) (c := c) (B := B) (d := d) hb1 q2 q3 k2 k3 (Bl.refl _)
    obtain ⟨hx1, -, -, -, hz1, -⟩ := start3_at (x := x) (A := A) (c := c) (B := B) (d := d) hb1
    obtain ⟨p0, p1, p2, p3, p4, p5, p6, p7⟩ := hx1.cells
    clear hb1 q2 q3 k2 k3 hx1
    go_wp2_with fail
    refine (hown.out _ st1.bl).mono ?_
    rintro e w2 ⟨A1, c1, B1, d1, rfl, l1, l2, l3, l4, hS, hG, hb2⟩
    have st2 := st1.go hb2
    clear p0 p1 p2 p3 p4 p5 p6 p7 st1
    obtain ⟨y0, y1, y2, y3, y4, y5, y6, y7⟩ := st2.ent.cells
    obtain ⟨f0, f1, f2, f3, f4, f5, f6, f7⟩ := st2.ent.frozens
    have hE2 := st2.err
    have gE2 := st2.gerr
    have st3 := (st2.set x A1 c1 B1 d1 ⟨l1, l2⟩ ⟨l3, l4⟩ (hS.more (by omega)) (hG.more (by omega))).put 0
    have st6 := (st3.set x A1 c1 B1 d1 st3.ls st3.lg st3.rs st3.rg).put 6
    rcases hway.out with ⟨q0, hw⟩ | ⟨q0, q1, hw⟩ | ⟨j, rfl, hj, hg, hw⟩ | ⟨j, rfl, hj, hg, hw⟩
    · have e1 := hide (e1f.out hw)
      have e2 := hide (e2f.out hw)
      clear hw
      go_wp2_with fail
      refine st6.leaves e1.out e2.out fun w' A c B d hat hE => ?_
      obtain ⟨z0, z1, z2, z3, z4, z5, z6, z7⟩ := hat.cells
      simp [results, Try.results25, go_sem, z0, z1, z2, z3, z4, z5, z6, z7, hE]
    · have e1 := hide (e1f.out hw)
      have e2 := hide (e2f.out hw)
      clear hw
      go_wp2_with fail
      refine st6.leaves e1.out e2.out fun w' A c B d hat hE => ?_
      obtain ⟨z0, z1, z2, z3, z4, z5, z6, z7⟩ := hat.cells
      simp [results, Try.results25, go_sem, z0, z1, z2, z3, z4, z5, z6, z7, hE]
    · have e1 := hide (e1f.out hw)
      have e2 := hide (e2f.out hw)
      obtain ⟨b, off, rfl, hlo, hbs⟩ := hG.addr (by omega)
      obtain ⟨_, hc, _⟩ := hG.bool hg
      have ne1 : b ≠ w.heap.size + 1 := by omega
      have ne2 : b ≠ w.heap.size + 1 + 1 := by omega
      clear hw hg
      go_wp2_with fail
      refine st6.leaves e1.out e2.out fun w' A c B d hat hE => ?_
      obtain ⟨z0, z1, z2, z3, z4, z5, z6, z7⟩ := hat.cells
      simp [results, Try.results25, go_sem, z0, z1, z2, z3, z4, z5, z6, z7, hE]
    · obtain ⟨b, off, rfl, hlo, hbs⟩ := hG.addr (by omega)
      obtain ⟨_, hc, _⟩ := hG.bool hg
      have ne1 : b ≠ w.heap.size + 1 := by omega
      have ne2 : b ≠ w.heap.size + 1 + 1 := by omega
      clear st6
      go_wp2_with fail
      refine (snapCut A1 c1 x.snap (j : Int) _ ⟨n0, n1⟩ (by omega) st3.rs.zero).mono ?_
      rintro e w4 ⟨A7, c7, rfl, m1, m2, hr7, hb4⟩
      have st4 := st3.go hb4
      clear y0 y1 y2 y3 y4 y5 y6 y7 f0 f1 f2 f3 f4 f5 f6 f7 hE2 gE2 st3 st2 hb4 hc
      go_wp2_with fail
      refine (idEqual A7 D c7 k (cutIds x.snap j) ids _ (by omega) hm hr7.zero (hD.bl st4.bl)).mono ?_
      rintro e w5 ⟨rfl, hb5⟩
      have st5 := st4.go hb5
      obtain ⟨y0, y1, y2, y3, y4, y5, y6, y7⟩ := st5.ent.cells
      obtain ⟨f0, f1, f2, f3, f4, f5, f6, f7⟩ := st5.ent.frozens
      have hE2 := st5.err
      have gE2 := st5.gerr
      obtain ⟨_, hc, hf⟩ := st5.rg.bool hg
      clear st4 hb5
      cases hq : same (cutIds x.snap (j : Int)) ids
      · rw [hq] at hw
        have e1 := hide (e1f.out hw)
        have e2 := hide (e2f.out hw)
        clear hw hg hq
        have st6 := (st5.set x A1 c1 _ d1 st5.ls st5.lg st5.rs st5.rg).put 6
        go_wp2_with fail
        refine st6.leaves e1.out e2.out fun w' A c B d hat hE => ?_
        obtain ⟨z0, z1, z2, z3, z4, z5, z6, z7⟩ := hat.cells
        simp [results, Try.results25, go_sem, z0, z1, z2, z3, z4, z5, z6, z7, hE]
      · rw [hq] at hw
        have e1 := hide (e1t.out hw)
        have e2 := hide (e2t.out hw)
        rw [Int.toNat_natCast] at e2
        clear hw hg hq
        have st7 := st5.mark (k := j) hj
        have hll : (x.got.set j true).length = x.got.length := List.length_set
        have st6 := (st7.set ⟨x.id, x.ready, x.pin, x.used, x.known, x.snap, x.got.set j true⟩ A1 c1 _ d1 st7.ls st7.lg st7.rs st7.rg).put 0
        unfold set8 at st6
        rw [hll] at st6
        clear hll
        go_wp2_with fail
        refine st6.leaves e1.out e2.out fun w' A c B d hat hE => ?_
        obtain ⟨z0, z1, z2, z3, z4, z5, z6, z7⟩ := hat.cells
        simp [results, Try.results25, go_sem, z0, z1, z2, z3, z4, z5, z6, z7, hE]
end Go.Proofs.Ytegmddgbdjlidaa
