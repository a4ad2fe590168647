/-
  The walk of shelf.Check.
-/
import Derived.Test.YtegmddgbdjlidaaEntry
namespace Go.Proofs.Ytegmddgbdjlidaa
open Go.RowKit

/-! ### Plain -/
def after (prev : Option Id) (s : Id) : Bool := match prev with | none => true | some p => idLess p s
def shelfFrom (prev : Option Id) : List Entry → Bool
  | [] => true
  | x :: l => entryMay x && after prev x.id && shelfFrom (some x.id) l
/-- May a shelf be? -/
def shelfMay (l : List Entry) : Bool := decide (l.length ≤ 65) && shelfFrom none l
def prevOf (l : List Entry) (k : Nat) : Option Id := if k = 0 then none else (l[k - 1]?).map (·.id)
theorem shelfFrom_bad1 {l rest : List Entry} {prev : Option Id} {k : Nat} {x : Entry} (h : shelfFrom none l = shelfFrom prev (l.drop k)) (hd : l.drop k = x :: rest) (hb : entryMay x = false) : shelfFrom none l = false := by
  rw [h, hd, shelfFrom, hb]; simp
theorem shelfFrom_bad2 {l rest : List Entry} {prev : Option Id} {k : Nat} {x : Entry} (h : shelfFrom none l = shelfFrom prev (l.drop k)) (hd : l.drop k = x :: rest) (hb : after prev x.id = false) : shelfFrom none l = false := by
  rw [h, hd, shelfFrom, hb]; simp
theorem shelfFrom_good {l rest : List Entry} {prev : Option Id} {k : Nat} {x : Entry} (h : shelfFrom none l = shelfFrom prev (l.drop k)) (hd : l.drop k = x :: rest) (h1 : entryMay x = true) (h2 : after prev x.id = true) : shelfFrom none l = shelfFrom (some x.id) rest := by
  rw [h, hd, shelfFrom, h1, h2]; simp
theorem prevOf_succ {l : List Entry} {k : Nat} {x : Entry} (hx : l[k]? = some x) : prevOf l (k + 1) = some x.id := by
  unfold prevOf
  rw [if_neg (by omega), Nat.add_sub_cancel, hx]; rfl

set_option maxRecDepth 100000 in
set_option maxHeartbeats 2000000 in
theorem shelfCheck (A : Option Addr) (c : Nat) (l : List Entry) (w : World) (hl : l.length ≤ maxLen) (hA : R cEntry 0 w A l) :
    Calls Try.prog 18 #[.slice A l.length c] w fun e w' => e = .returned (.int .i64 (okOr 8 (shelfMay l))) ∧ Bl w w' := by
  have hl' := hl
  unfold maxLen at hl'
  by_cases hbig : 65 < l.length
  · have e1 : shelfMay l = false := by unfold shelfMay; simp; intro h; omega
    have E1 := hide e1; clear e1
    go_enter Try.func18, Try.ntmps18
    go_wp2
    go_ret
    exact ⟨ret_int (by rw [E1.out]; rfl), Bl.refl _⟩
  have e1 : shelfMay l = shelfFrom none l := by unfold shelfMay; simp; intro _; omega
  have E1 := hide e1; clear e1
  go_enter Try.func18, Try.ntmps18
  go_wp2
  go_loopw [10] (fun i wr => Bl w wr ∧ ∃ (k : Nat), k ≤ l.length ∧ i = .int .i64 k ∧ Hid (shelfFrom none l = shelfFrom (prevOf l k) (l.drop k))) (fun i _ => l.length - (intOf i).toNat)
  case atStart => exact ⟨Bl.refl _, 0, Nat.zero_le _, rfl, rfl⟩
  case round =>
    obtain ⟨hbl, k, hk, rfl, hf⟩ := hrel
    by_cases hlt : k < l.length
    · have hR := hA.bl hbl
      obtain ⟨b, off, rfl, _, hb⟩ := hR.addr (by omega)
      obtain ⟨x, hx⟩ := get_lt hlt
      obtain ⟨_, ho, S, sc, G, gc, s1, s2, g1, g2, hS, hG, c0, c1, c2, c3, c4, c5, c6, c7⟩ := hR.entry hx
      have hd := hide (drop_cons hx)
      have hpn := hide (prevOf_succ hx)
      have hx' := hide hx
      clear hx
      go_wp2
      obtain ⟨W, hW⟩ : ∃ W, W = wr.alloc (Obj.cells #[Value.int IntKind.u32 x.id.t, Value.int IntKind.u8 x.id.r, Value.bool x.ready, Value.bool x.pin, Value.int IntKind.i64 x.used, Value.bool x.known, Value.slice S x.snap.length sc, Value.slice G x.got.length gc] 31) := ⟨_, rfl⟩
      rw [← hW]
      have hblW : Bl wr W := by rw [hW]; exact (Bl.refl _).alloc _
      have hWs : wr.heap.size < W.heap.size := by rw [hW]; simp
      have q0 : ∀ p : Wd W, p.v.cell? ⟨wr.heap.size, 0, none⟩ = some (.int .u32 x.id.t) := fun p => Wd.cell (by rw [hW]; simp) hWs p
      have q1 : ∀ p : Wd W, p.v.cell? ⟨wr.heap.size, 1, none⟩ = some (.int .u8 x.id.r) := fun p => Wd.cell (by rw [hW]; simp) hWs p
      have q2 : ∀ p : Wd W, p.v.cell? ⟨wr.heap.size, 2, none⟩ = some (.bool x.ready) := fun p => Wd.cell (by rw [hW]; simp) hWs p
      have q3 : ∀ p : Wd W, p.v.cell? ⟨wr.heap.size, 3, none⟩ = some (.bool x.pin) := fun p => Wd.cell (by rw [hW]; simp) hWs p
      have q4 : ∀ p : Wd W, p.v.cell? ⟨wr.heap.size, 4, none⟩ = some (.int .i64 x.used) := fun p => Wd.cell (by rw [hW]; simp) hWs p
      have q5 : ∀ p : Wd W, p.v.cell? ⟨wr.heap.size, 5, none⟩ = some (.bool x.known) := fun p => Wd.cell (by rw [hW]; simp) hWs p
      have q6 : ∀ p : Wd W, p.v.cell? ⟨wr.heap.size, 6, none⟩ = some (.slice S x.snap.length sc) := fun p => Wd.cell (by rw [hW]; simp) hWs p
      have q7 : ∀ p : Wd W, p.v.cell? ⟨wr.heap.size, 7, none⟩ = some (.slice G x.got.length gc) := fun p => Wd.cell (by rw [hW]; simp) hWs p
      clear hW c0 c1 c2 c3 c4 c5 c6 c7
      have hone := fun V (hV : Bl W V) => shelfOne x S G sc gc V ho (by omega) (by omega) (hS.bl (hblW.trans hV))
      have hblw := hbl.trans hblW
      cases hm : entryMay x
      · have g := hide (shelfFrom_bad1 hf.out hd.out hm)
        rw [hm] at hone
        replace hone := hide hone
        clear hm
        (refine wp_region_wd (by kernel_rfl) (by kernel_rfl) ?_
         repeat (go_big_quiet_step ((go_at_call 51; exact Calls.wd (hone.out _ (Wd.h _)))))
         refine wpQuiet_nil ?_
         intro w2 hw'
         obtain ⟨⟨wx, hb2⟩, hw''⟩ := hw'
         subst hw'')
        go_wp2
        go_ret
        exact ⟨ret_int (by rw [E1.out, g.out]; rfl), hblw.trans hb2⟩
      · have hgood := shelfFrom_good hf.out hd.out hm
        have hbad := shelfFrom_bad2 hf.out hd.out
        rw [hm] at hone
        replace hone := hide hone
        clear hm
        by_cases hk0 : k = 0
        · have g : Hid (shelfFrom none l = shelfFrom (prevOf l (k + 1)) (l.drop (k + 1))) := by
            rw [Hid, hpn.out]; exact hgood (by rw [hk0]; rfl)
          clear hgood hbad hpn hx'
          subst hk0
          (refine wp_region_wd (by kernel_rfl) (by kernel_rfl) ?_
           repeat (go_big_quiet_step ((go_at_call 51; exact Calls.wd (hone.out _ (Wd.h _)))))
           refine wpQuiet_nil ?_
           intro w2 hw'
           obtain ⟨⟨wx, hb2⟩, hw''⟩ := hw'
           subst hw'')
          go_wp2
          go_roundw
          case rel => exact ⟨hblw.trans hb2, 1, by omega, by go_num, g⟩
          case measure => simp [intOf]; omega
        · obtain ⟨y, hy⟩ := get_lt (show k - 1 < l.length by omega)
          have hprev : prevOf l k = some y.id := by unfold prevOf; rw [if_neg hk0, hy]; rfl
          obtain ⟨_, hyo, _, _, _, _, _, _, _, _, _, _, d0, d1, _⟩ := hR.entry hy
          have D0 := fun p : Wd W => Wd.cell ((hblW.cell hb).trans d0) (Nat.lt_trans hb hWs) p
          have D1 := fun p : Wd W => Wd.cell ((hblW.cell hb).trans d1) (Nat.lt_trans hb hWs) p
          clear d0 d1 hy
          have h4' : decide (0 < (k : Int)) = true := by simp; omega
          have h5' : 0 < k := by omega
          have e1 : IntKind.i64.wrap ((k : Int) - 1) = (k : Int) - 1 := IntWalk.i64_in _ (by omega)
          have e2 : ((k : Int) - 1).toNat = k - 1 := by omega
          have e3 : (0 : Int) ≤ (k : Int) - 1 := by omega
          have e4 : (k : Int) - 1 < (l.length : Int) := by omega
          have hless := fun V => stampLess y.id x.id V hyo.1 ho.1
          rw [hprev] at hgood hbad
          cases hq : idLess y.id x.id
          · have g := hide (hbad hq)
            rw [hq] at hless
            replace hless := hide hless
            clear hq hgood hbad hprev
            (refine wp_region_wd (by kernel_rfl) (by kernel_rfl) ?_
             repeat (go_big_quiet_step ((first | (go_at_call 51; exact Calls.wd (hone.out _ (Wd.h _))) | (go_at_call 52; exact Calls.wd (hless.out _)))))
             refine wpQuiet_nil ?_
             intro w2 hw'
             obtain ⟨⟨wx, hb2⟩, hw''⟩ := hw'
             subst hw'')
            go_wp2
            go_ret
            exact ⟨ret_int (by rw [E1.out, g.out]; rfl), hblw.trans hb2⟩
          · have g : Hid (shelfFrom none l = shelfFrom (prevOf l (k + 1)) (l.drop (k + 1))) := by
              rw [Hid, hpn.out]; exact hgood hq
            rw [hq] at hless
            replace hless := hide hless
            clear hq hgood hbad hprev
            (refine wp_region_wd (by kernel_rfl) (by kernel_rfl) ?_
             repeat (go_big_quiet_step ((first | (go_at_call 51; exact Calls.wd (hone.out _ (Wd.h _))) | (go_at_call 52; exact Calls.wd (hless.out _)))))
             refine wpQuiet_nil ?_
             intro w2 hw'
             obtain ⟨⟨wx, hb2⟩, hw''⟩ := hw'
             subst hw'')
            go_wp2
            go_roundw
            case rel => exact ⟨hblw.trans hb2, k + 1, by omega, by go_num, g⟩
            case measure => simp [intOf]; omega
    · have hkl : l.length ≤ k := by omega
      go_wp2
      go_ret
      exact ⟨ret_int (by rw [E1.out, hf.out, List.drop_eq_nil_of_le hkl]; rfl), hbl⟩
end Go.Proofs.Ytegmddgbdjlidaa
