/-
  The walks of shelf.one and shelf.Check.
  The walk of octavoref06.SameIds.
  The walk of shelf.Check.
  Equality: lists of bools, of stamps; entries; shelves. (Printed by wip/bin/gen_eq.py.)
  The walks of snap.Chunks, snap.Cut; of slices.Contains of bools.
-/
import Derived.Test.YtkolimhkfiebeaaSpanB
namespace Go.Proofs.Ytkolimhkfiebeaa
open Go.RowKit

theorem lt_of_alloc {w w' : World} {o : Obj} (h : Bl (w.alloc o) w') : w.heap.size < w'.heap.size := by
  have := h.size
  rw [World.size_alloc] at this
  omega

/-! ### Equality of stamps -/
def neqId (x y : Id) : Bool := !decide (x = y)
theorem neqId_parts (x y : Id) : neqId x y = !(x.t == y.t && x.r == y.r) := by
  unfold neqId
  by_cases h : x = y
  · subst h; simp
  · have : ¬ (x.t = y.t ∧ x.r = y.r) := fun h' => h (Id.ext' h'.1 h'.2)
    simp [h]; by_cases h1 : x.t = y.t <;> by_cases h2 : x.r = y.r <;> simp_all
theorem run_neqId' (a b c d : Int) (W : World) : (binOp .neq 36 (.agg #[.int .u32 a, .int .u8 b]) (.agg #[.int .u32 c, .int .u8 d])).run Try.prog W = .ok (.bool (!(a == c && b == d))) W := by
  have u3 := Try.underlying31
  have a3 := Try.isAgg31
  have z3 := Try.sizeOf31
  have u5 := Try.underlying5
  have a5 := Try.isAgg5
  have z5 := Try.sizeOf5
  have hS : Try.prog.underlying 36 = some (.struct (Try.prog.fieldsOf 36)) := by kernel_rfl
  have hp : Try.prog.stoodInHeld 36 = false := by kernel_rfl
  rw [run_neq_struct, show (10000 : Nat) = 9999 + 1 from rfl, run_equalIn_agg W 9999 36 _ _ hS hp]
  simp only [Program.fieldsOf, Try.underlying36]
  go_simp
  by_cases h1 : a = c <;> by_cases h2 : b = d <;> simp [h1, h2]
theorem run_eqId' (a b c d : Int) (W : World) : (binOp .eql 36 (.agg #[.int .u32 a, .int .u8 b]) (.agg #[.int .u32 c, .int .u8 d])).run Try.prog W = .ok (.bool (a == c && b == d)) W := by
  have u3 := Try.underlying31
  have a3 := Try.isAgg31
  have z3 := Try.sizeOf31
  have u5 := Try.underlying5
  have a5 := Try.isAgg5
  have z5 := Try.sizeOf5
  have hS : Try.prog.underlying 36 = some (.struct (Try.prog.fieldsOf 36)) := by kernel_rfl
  have hp : Try.prog.stoodInHeld 36 = false := by kernel_rfl
  rw [run_eql_struct, show (10000 : Nat) = 9999 + 1 from rfl, run_equalIn_agg W 9999 36 _ _ hS hp]
  simp only [Program.fieldsOf, Try.underlying36]
  go_simp
  by_cases h1 : a = c <;> by_cases h2 : b = d <;> simp [h1, h2]
theorem run_neqId (x y : Id) (W : World) : (binOp .neq 36 (.agg #[.int .u32 x.t, .int .u8 x.r]) (.agg #[.int .u32 y.t, .int .u8 y.r])).run Try.prog W = .ok (.bool (neqId x y)) W := by
  rw [run_neqId', neqId_parts]
theorem run_eqId (x y : Id) (W : World) : (binOp .eql 36 (.agg #[.int .u32 x.t, .int .u8 x.r]) (.agg #[.int .u32 y.t, .int .u8 y.r])).run Try.prog W = .ok (.bool (!neqId x y)) W := by
  rw [run_eqId', neqId_parts, Bool.not_not]
theorem run_neqZero (x : Id) (W : World) : (binOp .neq 36 (.agg #[.int .u32 x.t, .int .u8 x.r]) (.agg #[.int .u32 0, .int .u8 0])).run Try.prog W = .ok (.bool (neqId x ⟨0, 0⟩)) W := run_neqId x ⟨0, 0⟩ W
theorem neqId_false {x y : Id} (h : neqId x y = false) : x = y := by unfold neqId at h; simpa using h
theorem neqId_true {x y : Id} (h : neqId x y = true) : x ≠ y := by unfold neqId at h; simpa using h
theorem neqId_self (x : Id) : neqId x x = false := by unfold neqId; simp
theorem neqId_ne {x y : Id} (h : x ≠ y) : neqId x y = true := by unfold neqId; simpa using h

/-! ### May an entry be? -/
def entryHead (x : Entry) : Bool := (!neqId x.id ⟨0, 0⟩ || idMay x.id) && decide (0 ≤ x.used) && decide (x.used ≤ 1099511627776)
def entryTail (x : Entry) : Bool :=
  if x.known then !x.ready && clockMay x.snap && decide (clockMany x.snap ≤ 1024) && decide ((x.got.length : Int) = (clockMany x.snap + 7) / 8)
  else decide (x.snap.length = 0) && decide (x.got.length = 0)
def entryMay (x : Entry) : Bool := entryHead x && entryTail x

theorem clockMany_le (l : List Times) (h : allMay l) : 0 ≤ clockMany l ∧ clockMany l ≤ 1099511627776 * l.length := by
  induction l with
  | nil => simp [clockMany]
  | cons x l ih =>
    have h1 := spansMay_many (h x (by simp))
    have h2 := ih (fun y hy => h y (by simp [hy]))
    simp only [clockMany, List.length_cons]
    push_cast
    rw [Int.mul_add]
    omega
theorem clockCount_le (l : List Times) : 0 ≤ clockCount l ∧ clockCount l ≤ 8796093022208 := by
  unfold clockCount
  cases h : clockMay l
  · simp
  · have h1 := clockMany_le l (clockFrom_all _ (show clockFrom (-1) l = true from h))
    have h2 := clockMay_length h
    simp
    omega

end Go.Proofs.Ytkolimhkfiebeaa


namespace Go.Proofs.Ytkolimhkfiebeaa
open Go.RowKit

set_option maxHeartbeats 400000 in
theorem refSameIds (A B : Option Addr) (c d : Nat) (l m : List Id) (w : World) (hl : l.length ≤ maxLen) (_hm : m.length ≤ maxLen) (hA : R cId 0 w A l) (hB : R cId 0 w B m) :
    Calls Try.prog 31 #[.slice A l.length c, .slice B m.length d] w fun e w' => e = .returned (.bool (same l m)) ∧ Bl w w' := by
  unfold maxLen at hl
  by_cases hne : l.length = m.length
  · have hne1 : ((l.length : Int) != (m.length : Int)) = false := by simp [hne]
    have hle : l.length ≤ m.length := by omega
    have hle' : m.length ≤ l.length := by omega
    clear hne
    go_enter Try.func31, Try.ntmps31
    go_wp2
    go_loopw [5] (fun i wr => Bl w wr ∧ ∃ k : Nat, k ≤ l.length ∧ i = .int .i64 k ∧ Hid (decide (l = m) = decide (l.drop k = m.drop k))) (fun i _ => l.length - (intOf i).toNat)
    case atStart => exact ⟨Bl.refl _, 0, Nat.zero_le _, rfl, rfl⟩
    case round =>
      obtain ⟨hbl, k, hk, rfl, hf⟩ := hrel
      by_cases hlt : k < l.length
      · have hR := hA.bl hbl
        have hS := hB.bl hbl
        obtain ⟨b, off, rfl, _, hb⟩ := hR.addr (by omega)
        obtain ⟨b', off', rfl, _, hb'⟩ := hS.addr (by omega)
        obtain ⟨x, hx⟩ := get_lt hlt
        obtain ⟨y, hy⟩ := get_lt (show k < m.length by omega)
        obtain ⟨_, _, c0, c1⟩ := hR.id hx
        obtain ⟨_, _, d0, d1⟩ := hS.id hy
        have C0 := fun p : Wd wr => Wd.cell c0 hb p
        have C1 := fun p : Wd wr => Wd.cell c1 hb p
        have D0 := fun p : Wd wr => Wd.cell d0 hb' p
        have D1 := fun p : Wd wr => Wd.cell d1 hb' p
        clear c0 c1 d0 d1
        replace hx := hide hx
        replace hy := hide hy
        have hi : (k : Int) < (l.length : Int) := by omega
        have hi' : (k : Int) < (m.length : Int) := by omega
        have hne := run_neqId x y
        cases hq : neqId x y
        · have g := hide (drop_eq_step hf.out hx.out hy.out (neqId_false hq))
          rw [hq] at hne
          clear hq
          go_wp2
          (refine wp_region_wd (by kernel_rfl) (by kernel_rfl) ?_
           repeat (go_big_quiet_step ((fail)))
           refine wpQuiet_nil ?_
           intro w2 hw'
           obtain ⟨⟨wx, hb2⟩, hw''⟩ := hw'
           subst hw'')
          go_wp2
          go_roundw
          case rel => exact ⟨hbl.trans hb2, k + 1, by omega, by go_num, g⟩
          case measure => simp [intOf]; omega
        · have g := hide (drop_ne_step hf.out hx.out hy.out (neqId_true hq))
          rw [hq] at hne
          clear hq
          go_wp2
          (refine wp_region_wd (by kernel_rfl) (by kernel_rfl) ?_
           repeat (go_big_quiet_step ((fail)))
           refine wpQuiet_nil ?_
           intro w2 hw'
           obtain ⟨⟨wx, hb2⟩, hw''⟩ := hw'
           subst hw'')
          go_wp2
          go_ret
          exact ⟨ret_bool g.out, hbl.trans hb2⟩
      · have hkl : l.length ≤ k := by omega
        go_wp2
        go_ret
        exact ⟨ret_bool (drop_eq_end hf.out hkl (by omega)), hbl⟩
  · have hne1 : ((l.length : Int) != (m.length : Int)) = true := by simp; omega
    go_enter Try.func31, Try.ntmps31
    go_wp2
    go_ret
    exact ⟨ret_bool (ne_of_length hne), Bl.refl _⟩
end Go.Proofs.Ytkolimhkfiebeaa

namespace Go.Proofs.Ytkolimhkfiebeaa
open Go.RowKit

/-! ### Plain -/
def after (prev : Option Id) (s : Id) : Bool := match prev with | none => true | some p => idLess p s
def shelfFrom (prev : Option Id) : List Entry → Bool
  | [] => true
  | x :: l => entryMay x && after prev x.id && shelfFrom (some x.id) l
/-- May a shelf be? -/
def shelfMay (l : List Entry) : Bool := decide (l.length ≤ 65) && shelfFrom none l
def prevOf (l : List Entry) (k : Nat) : Option Id := if k = 0 then none else (l[k - 1]?).map (·.id)
theorem shelfFrom_bad1 {l rest : List Entry} {prev : Option Id} {k : Nat} {x : Entry} (h : shelfFrom none l = shelfFrom prev (l.drop k)) (hd : l.drop k = x :: rest) (hb : entryMay x = false) : shelfFrom none l = false := by
  rw [h, hd, shelfFrom, hb]; simp
theorem shelfFrom_bad2 {l rest : List Entry} {prev : Option Id} {k : Nat} {x : Entry} (h : shelfFrom none l = shelfFrom prev (l.drop k)) (hd : l.drop k = x :: rest) (hb : after prev x.id = false) : shelfFrom none l = false := by
  rw [h, hd, shelfFrom, hb]; simp
theorem shelfFrom_good {l rest : List Entry} {prev : Option Id} {k : Nat} {x : Entry} (h : shelfFrom none l = shelfFrom prev (l.drop k)) (hd : l.drop k = x :: rest) (h1 : entryMay x = true) (h2 : after prev x.id = true) : shelfFrom none l = shelfFrom (some x.id) rest := by
  rw [h, hd, shelfFrom, h1, h2]; simp
theorem prevOf_succ {l : List Entry} {k : Nat} {x : Entry} (hx : l[k]? = some x) : prevOf l (k + 1) = some x.id := by
  unfold prevOf
  rw [if_neg (by omega), Nat.add_sub_cancel, hx]; rfl

end Go.Proofs.Ytkolimhkfiebeaa


namespace Go.Proofs.Ytkolimhkfiebeaa
open Go.RowKit

theorem run_neqBool (x y : Bool) (W : World) : (binOp .neq 4 (.bool x) (.bool y)).run Try.prog W = .ok (.bool (x != y)) W := by
  have u := Try.underlying4
  go_simp
  cases x <;> cases y <;> rfl
theorem neqBool_false {x y : Bool} (h : (x != y) = false) : x = y := by simpa using h
theorem neqBool_true {x y : Bool} (h : (x != y) = true) : x ≠ y := by simpa using h

/-! ### Entries -/
def eqEntry (x y : Entry) : Bool := decide (x = y)
theorem eqEntry_true {x y : Entry} (h : eqEntry x y = true) : x = y := by unfold eqEntry at h; simpa using h
theorem eqEntry_false {x y : Entry} (h : eqEntry x y = false) : x ≠ y := by unfold eqEntry at h; simpa using h
theorem eqEntry_no {x y : Entry} (h : x ≠ y) : false = eqEntry x y := by unfold eqEntry; simp [h]
theorem eqEntry_parts (x y : Entry) : eqEntry x y = ((!neqId x.id y.id) && (x.ready == y.ready) && (x.pin == y.pin) && (x.used == y.used) && (x.known == y.known) && same x.snap y.snap && same x.got y.got) := by
  unfold eqEntry same neqId
  rw [Bool.eq_iff_iff]
  cases x; cases y
  simp [and_assoc]
theorem run_eqBool (x y : Bool) (W : World) : (binOp .eql 4 (.bool x) (.bool y)).run Try.prog W = .ok (.bool (x == y)) W := by
  have u := Try.underlying4
  go_simp
theorem lt_of_alloc2 {w w' : World} {o p : Obj} (h : Bl ((w.alloc o).alloc p) w') : w.heap.size + 1 < w'.heap.size := by
  have := h.size
  rw [World.size_alloc, World.size_alloc] at this
  omega

end Go.Proofs.Ytkolimhkfiebeaa


namespace Go.Proofs.Ytkolimhkfiebeaa
open Go.RowKit

theorem addr_add (b off n : Nat) : (⟨b, off, none⟩ : Addr).add n = ⟨b, off + n, none⟩ := by
  unfold Addr.add
  split
  · rename_i h; subst h; rfl
  · rfl
/-- A piece of a slice. -/
theorem R.sub {α : Type} {C : Codec α} {lo : Nat} {w : World} {A : Option Addr} {xs : List α} (h : R C lo w A xs) (k m : Nat) : R C lo w (A.map (fun x => x.add (k * C.size))) ((xs.drop k).take m) := by
  obtain ⟨cells, hr, hs⟩ := h
  by_cases hk : k < xs.length
  · have e : xs = xs.take k ++ ((xs.drop k).take m ++ (xs.drop k).drop m) := by rw [List.take_append_drop, List.take_append_drop]
    rw [e] at hr
    obtain ⟨a, b, rfl, ha, hb⟩ := hr.split
    obtain ⟨b1, b2, rfl, hb1, hb2⟩ := hb.split
    refine ⟨b1, hb1, fun hne => ?_⟩
    obtain ⟨bl, off, e', hS, hat⟩ := hs (by simp [hne])
    subst e'
    have hl := ha.length
    rw [List.length_take, Nat.min_eq_left (by omega)] at hl
    refine ⟨bl, off + k * C.size, by rw [Option.map_some, addr_add], hS, ?_⟩
    have := (hat.right (cs := a)).left
    rwa [hl] at this
  · rw [List.drop_eq_nil_of_le (by omega)]
    exact ⟨[], by simp [RdL], fun h => absurd rfl h⟩

theorem clockIds_length (l : List Times) : (clockIds l).length ≤ 1024 := by
  unfold clockIds
  cases h : clockMay l
  · simp
  · by_cases h2 : clockMany l ≤ 1024
    · have := clockAll_length l (clockFrom_all _ (show clockFrom (-1) l = true from h))
      simp [h2]; omega
    · simp [h2]
/-- snap.Chunks. -/
def chunksOf (c : List Times) : Int := ((clockIds c).length + 7 : Nat) / 8

def Two (n e : Int) (w : World) (en : Ending) (w' : World) : Prop := en = .returned (.tuple #[.int .i64 n, .int .i64 e]) ∧ Bl w w'

/-- snap.Cut. -/
def cutErr (c : List Times) (n : Int) : Int := if clockIdsErr c = 0 then (if n < 0 ∨ chunksOf c ≤ n then 2 else 0) else clockIdsErr c
def cutIds (c : List Times) (n : Int) : List Id := if cutErr c n = 0 then ((clockIds c).drop (n.toNat * 8)).take 8 else []

/-- slices.Contains(l, false). -/
def someNot (l : List Bool) : Bool := l.any (!·)

end Go.Proofs.Ytkolimhkfiebeaa
