/-
  The walks of slices.Contains at stamps, slices.ContainsFunc at entries, of shift.Check, its closure.
  The walks of cover.Homed, its closure, cover.some with it.
  The walks of shift.blank, shift.whole, shift.marked.
-/
import Derived.Test.YteoodmilcpmmpaaGreatShelfK
import Derived.Test.YteoodmilcpmmpaaGreatHome
import Derived.Test.YteoodmilcpmmpaaGreatSome
namespace Go.Proofs.YteoodmilcpmmpaaGreat

open Go.RowKit

def memId (l : List Id) (s : Id) : Bool := l.any fun x => decide (x = s)

set_option maxRecDepth 100000 in
set_option maxHeartbeats 1000000 in
theorem idIndex (A : Option Addr) (c : Nat) (l : List Id) (s : Id) (w : World) (hl : l.length ≤ maxLen) (hA : R cId 0 w A l) :
    Calls Tryz.prog 121 #[.slice A l.length c, .agg #[.int .u32 s.t, .int .u8 s.r]] w fun e w' => (∃ n : Int, e = .returned (.int .i64 n) ∧ (0 ≤ n ↔ memId l s = true)) ∧ Bl w w' := by
  unfold maxLen at hl
  have heq := run_eqId
  go_enter Tryz.func121, Tryz.ntmps121
  go_upto_region 2 with fail
  have hV0 : Bl w (w.alloc (.cells #[Value.int IntKind.u32 s.t, Value.int IntKind.u8 s.r] 25)) := (Bl.refl _).alloc _
  have s0 : (w.alloc (.cells #[Value.int IntKind.u32 s.t, Value.int IntKind.u8 s.r] 25)).cell? ⟨w.heap.size, 0, none⟩ = some (.int .u32 s.t) := by rw [cell_of_row _ w.heap.size 0 _ _ (0, 0) (heap_alloc_new w _)]; rfl
  have s1 : (w.alloc (.cells #[Value.int IntKind.u32 s.t, Value.int IntKind.u8 s.r] 25)).cell? ⟨w.heap.size, 1, none⟩ = some (.int .u8 s.r) := by rw [cell_of_row _ w.heap.size 1 _ _ (0, 0) (heap_alloc_new w _)]; rfl
  have hz0 : w.heap.size < (w.alloc (.cells #[Value.int IntKind.u32 s.t, Value.int IntKind.u8 s.r] 25)).heap.size := by rw [World.size_alloc]; omega
  generalize w.alloc (.cells #[Value.int IntKind.u32 s.t, Value.int IntKind.u8 s.r] 25) = V0 at *
  go_loopw [8] (fun i wr => Bl V0 wr ∧ ∃ k : Nat, k ≤ l.length ∧ i = .int .i64 k ∧ Hid (memId l s = memId (l.drop k) s)) (fun i _ => l.length - (intOf i).toNat)
  case atStart => exact ⟨Bl.refl _, 0, Nat.zero_le _, rfl, rfl⟩
  case round =>
    obtain ⟨hbl, k, hk, rfl, hf⟩ := hrel
    have hbw := hV0.trans hbl
    by_cases hlt : k < l.length
    · have hR := hA.bl hbw
      obtain ⟨b, off, rfl, _, hb⟩ := hR.addr (by omega)
      obtain ⟨x, hx⟩ := get_lt hlt
      obtain ⟨_, _, c0, c1⟩ := hR.id hx
      have hd := hide (drop_cons hx)
      have C0 := fun p : Wd wr => Wd.cell c0 hb p
      have C1 := fun p : Wd wr => Wd.cell c1 hb p
      have S0 := fun p : Wd wr => Wd.cell ((hbl.cell hz0).trans s0) (Nat.lt_of_lt_of_le hz0 hbl.size) p
      have S1 := fun p : Wd wr => Wd.cell ((hbl.cell hz0).trans s1) (Nat.lt_of_lt_of_le hz0 hbl.size) p
      have hi : (k : Int) < (l.length : Int) := by omega
      have hi0 : (0 : Int) ≤ (k : Int) := by omega
      clear c0 c1 hx
      cases hq : neqId s x
      · have hq' : (!neqId s x) = true := by rw [hq]; rfl
        have g := hide (show memId l s = true by rw [hf.out, hd.out]; simp [memId, neqId_false hq])
        clear hq
        go_wp2
        (refine wp_region_wd (by kernel_rfl) (by kernel_rfl) ?_
         repeat (go_big_quiet_step ((fail)))
         refine wpQuiet_nil ?_
         intro w2 hw'
         obtain ⟨⟨wx, hb2⟩, hw''⟩ := hw'
         subst hw'')
        go_wp2
        go_ret
        exact ⟨⟨_, rfl, by rw [g.out]; simp⟩, hbw.trans hb2⟩
      · have hq' : (!neqId s x) = false := by rw [hq]; rfl
        have hne : ¬ x = s := fun e => neqId_true hq e.symm
        have g := hide (show memId l s = memId (l.drop (k + 1)) s by rw [hf.out, hd.out]; simp [memId, hne])
        clear hq hne
        go_wp2
        (refine wp_region_wd (by kernel_rfl) (by kernel_rfl) ?_
         repeat (go_big_quiet_step ((fail)))
         refine wpQuiet_nil ?_
         intro w2 hw'
         obtain ⟨⟨wx, hb2⟩, hw''⟩ := hw'
         subst hw'')
        go_wp2
        go_roundw
        case rel => exact ⟨hbl.trans hb2, k + 1, by omega, by go_num, g⟩
        case measure => simp [intOf]; omega
    · have hkl : l.length ≤ k := by omega
      go_wp2
      go_ret
      exact ⟨⟨_, rfl, by rw [hf.out, List.drop_eq_nil_of_le hkl]; simp [memId]⟩, hbw⟩

set_option maxRecDepth 100000 in
set_option maxHeartbeats 400000 in
theorem idContains (A : Option Addr) (c : Nat) (l : List Id) (s : Id) (w : World) (hl : l.length ≤ maxLen) (hA : R cId 0 w A l) :
    Calls Tryz.prog 71 #[.slice A l.length c, .agg #[.int .u32 s.t, .int .u8 s.r]] w fun e w' => e = .returned (.bool (memId l s)) ∧ Bl w w' := by
  go_enter Tryz.func71, Tryz.ntmps71
  go_wp2_with (go_at_call 121; refine (idIndex A c l s _ hl (hA.bl ((Bl.refl _).alloc _))).mono ?_; rintro e w' ⟨⟨n, rfl, hn⟩, hb⟩; have hn := hide hn)
  go_ret
  refine ⟨ret_bool ?_, ((Bl.refl _).alloc _).trans hb⟩
  have := hn.out
  cases h : memId l s <;> simp_all

/-- What a predicate's closure (function fn, bound to ps) does, in whatever world came of w0. -/
def PredE (w0 : World) (fn : FuncId) (ps : Array Value) (l : List Entry) (p : Entry → Bool) : Prop := ∀ V x A c B d, x ∈ l → Bl w0 V → x.ok → Held V x A c B d → Calls Tryz.prog fn (#[.agg #[.int .u32 x.id.t, .int .u8 x.id.r, .bool x.ready, .bool x.pin, .int .i64 x.used, .bool x.known, .slice A x.snap.length c, .slice B x.got.length d]] ++ ps) V fun e w' => e = .returned (.bool (p x)) ∧ Bl V w'

def FirstE (l : List Entry) (p : Entry → Bool) (r : Int) : Prop := (r = -1 ∧ ∀ x ∈ l, p x = false) ∨ ∃ (k : Nat) (x : Entry), r = (k : Int) ∧ l[k]? = some x ∧ p x = true ∧ ∀ y ∈ l.take k, p y = false

set_option maxRecDepth 100000 in
set_option maxHeartbeats 1000000 in
theorem entIndexFunc (fn : FuncId) (ps : Array Value) (hfe : ∀ args w, (callFunc fn args).run Tryz.prog w = .ok (.enter fn args) w) (A : Option Addr) (c : Nat) (l : List Entry) (p : Entry → Bool) (w0 w : World) (hb0 : Bl w0 w) (hl : l.length ≤ 1048576) (hA : R cEntry 0 w A l) (hp : PredE w0 fn ps l p) :
    Calls Tryz.prog 130 #[.slice A l.length c, .func (.func fn) #[] ps] w fun e w' => ∃ r : Int, e = .returned (.int .i64 r) ∧ FirstE l p r ∧ Bl w w' := by
  replace hp := hide hp
  go_enter Tryz.func130, Tryz.ntmps130
  go_wp2
  go_loopw [8] (fun i wr => Bl w wr ∧ ∃ k : Nat, k ≤ l.length ∧ i = .int .i64 k ∧ Hid (∀ y ∈ l.take k, p y = false)) (fun i _ => l.length - (RowKit.intOf i).toNat)
  case atStart => exact ⟨Bl.refl _, 0, Nat.zero_le _, rfl, fun y hy => by simp at hy⟩
  case round =>
    obtain ⟨hbl, k, hk, rfl, hf⟩ := hrel
    by_cases hlt : k < l.length
    · have hR := hA.bl hbl
      obtain ⟨b, off, rfl, _, hb⟩ := hR.addr (by omega)
      obtain ⟨x, hx⟩ := get_lt hlt
      obtain ⟨_, ho, S, sc, G, gc, q1, q2, q3, q4, hS, hG, c0, c1, c2, c3, c4, c5, c6, c7⟩ := hR.entry hx
      have hki : (k : Int) < (l.length : Int) := by omega
      have hcl := hp.out wr x S sc G gc (List.mem_of_getElem? hx) (hb0.trans hbl) ho ⟨q1, q2, q3, q4, hS, hG⟩
      cases hq : p x
      · rw [hq] at hcl
        have g := hide (show ∀ y ∈ l.take (k + 1), p y = false from fun y hy => by
          rw [take_snoc hx, List.mem_append] at hy
          rcases hy with hy | hy
          · exact hf.out y hy
          · rw [List.mem_singleton] at hy; subst hy; exact hq)
        replace hcl := hide hcl
        clear hx hq hf
        go_wp2_with fail
        refine hcl.out.mono ?_
        rintro e w1 ⟨rfl, hb1⟩
        go_wp2_with fail
        go_roundw
        case rel => exact ⟨hbl.trans hb1, k + 1, by omega, by go_num, g.out⟩
        case measure => simp [RowKit.intOf]; omega
      · rw [hq] at hcl
        have g := hide (show FirstE l p (k : Int) from .inr ⟨k, x, rfl, hx, hq, hf.out⟩)
        replace hcl := hide hcl
        clear hx hq hf
        go_wp2_with fail
        refine hcl.out.mono ?_
        rintro e w1 ⟨rfl, hb1⟩
        go_wp2_with fail
        go_ret
        exact ⟨_, rfl, g.out, hbl.trans hb1⟩
    · have hkl : k = l.length := by omega
      have g := hide (show FirstE l p (-1) from .inl ⟨rfl, by have := hf.out; rwa [hkl, List.take_length] at this⟩)
      clear hf
      go_wp2
      go_ret
      exact ⟨_, rfl, g.out, hbl⟩

set_option maxRecDepth 100000 in
set_option maxHeartbeats 1000000 in
theorem entContainsFunc (fn : FuncId) (ps : Array Value) (hfe : ∀ args w, (callFunc fn args).run Tryz.prog w = .ok (.enter fn args) w) (A : Option Addr) (c : Nat) (l : List Entry) (p : Entry → Bool) (w0 w : World) (hb0 : Bl w0 w) (hl : l.length ≤ 1048576) (hA : R cEntry 0 w A l) (hp : PredE w0 fn ps l p) :
    Calls Tryz.prog 77 #[.slice A l.length c, .func (.func fn) #[] ps] w fun e w' => e = .returned (.bool (l.any p)) ∧ Bl w w' := by
  have hix := hide (entIndexFunc fn ps hfe A c l p w0 w hb0 hl hA hp)
  obtain ⟨T, hT⟩ : ∃ T, T = l.any p := ⟨_, rfl⟩
  rw [← hT]
  replace hT := hide hT
  go_enter Tryz.func77, Tryz.ntmps77
  go_wp2_with fail
  refine hix.out.mono ?_
  rintro e w1 ⟨r, rfl, hfst, hb1⟩
  rcases hfst with ⟨rfl, hno⟩ | ⟨k, x, rfl, hx, hpx, -⟩
  · have g := hide (show false = T by
      rw [hT.out, eq_comm, List.any_eq_false]
      intro x hx
      rw [hno x hx]
      decide)
    clear hno
    go_wp2_with fail
    go_ret
    exact ⟨ret_bool g.out, hb1⟩
  · have g := hide (show true = T by
      rw [hT.out, eq_comm, List.any_eq_true]
      exact ⟨x, List.mem_of_getElem? hx, hpx⟩)
    have hk : decide ((0 : Int) ≤ (k : Int)) = true := by simp
    clear hx hpx
    go_wp2_with fail
    go_ret
    exact ⟨ret_bool g.out, hb1⟩

/-- Does a shelf fit a bag? -/
def fitsB (l : List Op) (h : List Entry) : Bool := bagMay l && (shelfMay h && !(h.any fun x => !memId (sectF (livesF l)) x.id))

set_option maxRecDepth 100000 in
set_option maxHeartbeats 1000000 in
theorem shiftCheck1 (K : Option Addr) (kc : Nat) (keep : List Id) (x : Entry) (A B : Option Addr) (c d Bk : Nat) (w : World) (hl : keep.length ≤ maxLen) (hK : R cId 0 w K keep) (hBk : w.cell? ⟨Bk, 0, none⟩ = some (.slice K keep.length kc)) :
    Calls Tryz.prog 78 #[.agg #[.int .u32 x.id.t, .int .u8 x.id.r, .bool x.ready, .bool x.pin, .int .i64 x.used, .bool x.known, .slice A x.snap.length c, .slice B x.got.length d], .pointer (some ⟨Bk, 0, none⟩)] w fun e w' => e = .returned (.bool (!memId keep x.id)) ∧ Bl w w' := by
  have hlt := World.block_lt_of_cell? w _ hBk
  have hBk' : ∀ o, (w.alloc o).cell? ⟨Bk, 0, none⟩ = some (.slice K keep.length kc) := fun o => (((Bl.refl w).alloc o).cell hlt).trans hBk
  have hcon := hide fun W (hb : Bl w W) => idContains K kc keep x.id W hl (hK.bl hb)
  go_enter Tryz.func78, Tryz.ntmps78
  go_wp2_with fail
  refine (hcon.out _ ((Bl.refl _).alloc _)).mono ?_
  rintro e w1 ⟨rfl, hb1⟩
  go_wp2_with fail
  go_ret
  exact ⟨rfl, ((Bl.refl _).alloc _).trans hb1⟩

set_option maxRecDepth 100000 in
set_option maxHeartbeats 2000000 in
theorem shiftCheck (A B : Option Addr) (c d : Nat) (l : List Op) (h : List Entry) (w : World) (hl : l.length ≤ maxLen) (hh : h.length ≤ maxLen) (hA : R cOp 0 w A l) (hB : R cEntry 0 w B h) :
    Calls Tryz.prog 27 #[.slice A l.length c, .slice B h.length d] w fun e w' => e = .returned (.int .i64 (okOr 8 (fitsB l h))) ∧ Bl w w' := by
  have hall := hide (homeAll A c l w hl hA)
  have hsh := hide fun V (hv : Bl w V) => shelfCheck B d h V hh (hB.bl hv)
  obtain ⟨N, hN⟩ : ∃ N, N = fitsB l h := ⟨_, rfl⟩
  rw [← hN]
  unfold fitsB at hN
  have hmf := run_makeFunc
  cases hb : bagMay l
  · rw [hb] at hall hN
    have e1 : N = false := hN
    subst e1
    clear hN hb hsh
    generalize allL l = X at *
    go_enter Tryz.func27, Tryz.ntmps27
    go_wp2_with fail
    refine hall.out.mono ?_
    rintro e w1 ⟨Y, y, rfl, y1, y2, hY, hb1⟩
    go_wp2_with fail
    go_ret
    exact ⟨rfl, hb1.alloc _⟩
  have hal : allL l = sectF (livesF l) := by unfold allL; rw [hb]; rfl
  have hsl : (sectF (livesF l)).length ≤ 1025 := by rw [sect_length]; have := lives_small hb; omega
  rw [hb] at hall hN
  rw [hal, okOr_true] at hall
  rw [Bool.true_and] at hN
  clear hb hal
  generalize sectF (livesF l) = X at *
  cases hm : shelfMay h
  · rw [hm] at hsh hN
    have e1 : N = false := hN
    subst e1
    clear hN hm
    go_enter Tryz.func27, Tryz.ntmps27
    go_wp2_with fail
    refine hall.out.mono ?_
    rintro e w1 ⟨Y, y, rfl, y1, y2, hY, hb1⟩
    go_wp2_with fail
    refine (hsh.out _ (hb1.alloc _)).mono ?_
    rintro e w2 ⟨rfl, hb2⟩
    go_wp2_with fail
    go_ret
    exact ⟨rfl, (hb1.alloc _).trans hb2⟩
  rw [hm] at hsh hN
  rw [Bool.true_and] at hN
  have h65 := (may_from hm).1
  clear hm
  have hcf := hide fun (Y : Option Addr) (y Bk : Nat) (w0 V : World) (hv : Bl w w0) (hV : Bl w0 V) (hK : R cId 0 w0 Y X) (hc : w0.cell? ⟨Bk, 0, none⟩ = some (.slice Y X.length y)) =>
    entContainsFunc 78 #[.pointer (some ⟨Bk, 0, none⟩)] (enters_of Tryz.func78 (by kernel_rfl) rfl) B d h (fun x => !memId X x.id) w0 V hV (by omega) (hB.bl (hv.trans hV))
      (fun U x A c B d _ hU _ hH => shiftCheck1 Y y X x A B c d Bk U (by unfold maxLen; omega) (hK.bl hU) ((hU.cell (World.block_lt_of_cell? _ _ hc)).trans hc))
  generalize (h.any fun x => !memId X x.id) = T at *
  go_enter Tryz.func27, Tryz.ntmps27
  go_wp2_with fail
  refine hall.out.mono ?_
  rintro e w1 ⟨Y, y, rfl, y1, y2, hY, hb1⟩
  obtain ⟨W2, hW2⟩ : ∃ W2, W2 = w1.alloc (.cells #[.slice Y X.length y] 110) := ⟨_, rfl⟩
  have hb12 : Bl w1 W2 := by rw [hW2]; exact (Bl.refl _).alloc _
  have hc2 : W2.cell? ⟨w1.heap.size, 0, none⟩ = some (.slice Y X.length y) := by
    have h := (At.new w1 [.slice Y X.length y] 110 0 _ rfl).1
    rw [hW2]
    exact h
  go_wp2_with fail
  rw [← hW2]
  clear hW2
  refine (hsh.out _ (hb1.trans hb12)).mono ?_
  rintro e w3 ⟨rfl, hb3⟩
  have hcall := hide (hcf.out Y y w1.heap.size W2 w3 (hb1.trans hb12) hb3 (hY.zero.bl hb12) hc2)
  have hfin := hb1.trans (hb12.trans hb3)
  clear hcf hsh hc2
  cases T
  · go_wp2_with fail
    refine hcall.out.mono ?_
    rintro e w4 ⟨rfl, hb4⟩
    go_wp2_with fail
    go_ret
    rw [hN]
    exact ⟨rfl, hfin.trans hb4⟩
  · go_wp2_with fail
    refine hcall.out.mono ?_
    rintro e w4 ⟨rfl, hb4⟩
    go_wp2_with fail
    go_ret
    rw [hN]
    exact ⟨rfl, hfin.trans hb4⟩

end Go.Proofs.YteoodmilcpmmpaaGreat

namespace Go.Proofs.YteoodmilcpmmpaaGreat

open Go.RowKit

def keepH (l : List Op) (s : Id) (o : Op) : Bool := contentO o && decide (homeF (livesF l) o.pl = s)

def homL (l : List Op) (s : Id) : List Op := if whereN l s 0 = 0 then inL l s else []

theorem keepH_in {l : List Op} {s : Id} (_h : bagMay l = true) : (l.filter fun x => !(!keepH l s x)) = inL l s := by
  unfold inL keepH
  simp only [Bool.not_not]

set_option maxRecDepth 100000 in
set_option maxHeartbeats 1000000 in
theorem homed1 (x : Op) (A F T : Option Addr) (c cf ct fl tl : Nat) (fv : Value) (w : World) :
    Calls Tryz.prog 210 #[.agg #[.slice F fl cf, .slice T tl ct, fv], .agg #[.int .u8 x.kind, .int .u32 x.id.t, .int .u8 x.id.r, .slice A x.pl.length c, .int .i64 x.pt]] w fun e w' => e = .returned (.bool true) ∧ Bl w w' := by
  go_enter Tryz.func210, Tryz.ntmps210
  go_wp2
  go_ret
  exact ⟨rfl, ((Bl.refl _).alloc _).alloc _⟩

set_option maxRecDepth 100000 in
set_option maxHeartbeats 4000000 in
theorem coverKeepH (l : List Op) (s : Id) (x : Op) (A F T : Option Addr) (c cf ct Y b1 b2 : Nat) (fr tu : List Run) (f : Id → Int) (w : World) (hk : Knows l s fr tu f) (hx : OpIn w x A c) (hm : placeMay x.pl = true) (hs : SectAt w fr tu f F cf T ct Y) (h1 : At w b1 0 [.slice F fr.length cf, .slice T tu.length ct, .func (.func 202) #[] #[.pointer (some ⟨Y, 0, none⟩)]]) (h2 : w.cell? ⟨b2, 0, none⟩ = some (.func (.func 210) #[] #[])) :
    Calls Tryz.prog 165 #[.agg #[.int .u8 x.kind, .int .u32 x.id.t, .int .u8 x.id.r, .slice A x.pl.length c, .int .i64 x.pt], .pointer (some ⟨b1, 0, none⟩), .pointer (some ⟨b2, 0, none⟩)] w fun e w' => e = .returned (.bool (!keepH l s x)) ∧ Bl w w' := by
  obtain ⟨W, hW⟩ : ∃ W, W = w.alloc (.cells #[Value.int IntKind.u8 x.kind, Value.int IntKind.u32 x.id.t, Value.int IntKind.u8 x.id.r, Value.slice A x.pl.length c, Value.int IntKind.i64 x.pt] 47) := ⟨_, rfl⟩
  have hbW : Bl w W := by rw [hW]; exact (Bl.refl _).alloc _
  have at0 : OpBox W w.heap.size x A c := by rw [hW]; exact OpBox.new w x A c _
  have at1 := h1.bl hbW (by simp)
  have hl1 := Nat.lt_of_lt_of_le (h1.lt (by simp)) hbW.size
  have hl2 := Nat.lt_of_lt_of_le (World.block_lt_of_cell? _ _ h2) hbW.size
  have at2 := (hbW.cell (World.block_lt_of_cell? _ _ h2)).trans h2
  obtain ⟨x0, x1, x2, x3, x4⟩ := at0.cells
  have hl0 := at0.lt
  have hf1 := Nat.le_trans hs.f1 hs.f2
  have ht1 := Nat.le_trans hs.t1 hs.t2
  have hcon := hide (opContent x A c W)
  have hinV := fun V (hv : Bl W V) => sectIn fr tu x.pl F T A cf ct c (.func (.func 202) #[] #[.pointer (some ⟨Y, 0, none⟩)]) V hf1 ht1 (Nat.le_trans hx.h1 hx.h2) (hs.hF.bl (hbW.trans hv)) (hs.hT.bl (hbW.trans hv)) (hx.hR.bl (hbW.trans hv))
  rw [hk.hin x.pl (may_any hm)] at hinV
  obtain ⟨B, hB⟩ : ∃ B, B = !keepH l s x := ⟨_, rfl⟩
  rw [← hB]
  unfold keepH at hB
  by_cases hc : contentO x = true
  · have hcoV := fun V (_ : Bl W V) => homed1 x A F T c cf ct fr.length tu.length (.func (.func 202) #[] #[.pointer (some ⟨Y, 0, none⟩)]) V
    rw [hc, Bool.true_and] at hB
    rw [hc] at hcon
    by_cases hh : homeF (livesF l) x.pl = s
    · rw [decide_eq_true hh] at hB
      rw [decide_eq_true hh] at hinV
      replace hinV := hide hinV
      replace hcoV := hide hcoV
      subst hB
      clear hc hh hk
      go_enter Tryz.func165, Tryz.ntmps165
      go_wp2_with fail
      rw [← hW]
      clear hW
      refine hcon.out.mono ?_
      rintro e w1 ⟨rfl, hb1⟩
      obtain ⟨y0, y1, y2, y3, y4⟩ := (at0.bl hb1).cells
      have h11 := at1.bl hb1 (by simp)
      have z0 := (h11 0 _ rfl).1
      have z1 := (h11 1 _ rfl).1
      have z2 := (h11 2 _ rfl).1
      simp only [Nat.zero_add] at z0 z1 z2
      clear x0 x1 x2 x3 x4
      go_wp2_with fail
      refine (hinV.out _ hb1).mono ?_
      rintro e w2 ⟨rfl, hb2⟩
      have hb12 := hb1.trans hb2
      obtain ⟨x0, x1, x2, x3, x4⟩ := (at0.bl hb12).cells
      have h12 := at1.bl hb12 (by simp)
      have u0 := (h12 0 _ rfl).1
      have u1 := (h12 1 _ rfl).1
      have u2 := (h12 2 _ rfl).1
      simp only [Nat.zero_add] at u0 u1 u2
      have a2 := (hb12.cell hl2).trans at2
      clear y0 y1 y2 y3 y4 z0 z1 z2
      go_wp2_with fail
      refine (hcoV.out _ hb12).mono ?_
      rintro e w3 ⟨rfl, hb3⟩
      go_wp2_with fail
      go_ret
      exact ⟨rfl, hbW.trans (hb12.trans hb3)⟩
    · rw [decide_eq_false hh] at hB
      rw [decide_eq_false hh] at hinV
      replace hinV := hide hinV
      subst hB
      clear hc hh hk hcoV
      go_enter Tryz.func165, Tryz.ntmps165
      go_wp2_with fail
      rw [← hW]
      clear hW
      refine hcon.out.mono ?_
      rintro e w1 ⟨rfl, hb1⟩
      obtain ⟨y0, y1, y2, y3, y4⟩ := (at0.bl hb1).cells
      have h11 := at1.bl hb1 (by simp)
      have z0 := (h11 0 _ rfl).1
      have z1 := (h11 1 _ rfl).1
      have z2 := (h11 2 _ rfl).1
      simp only [Nat.zero_add] at z0 z1 z2
      clear x0 x1 x2 x3 x4
      go_wp2_with fail
      refine (hinV.out _ hb1).mono ?_
      rintro e w2 ⟨rfl, hb2⟩
      go_wp2_with fail
      go_ret
      exact ⟨rfl, hbW.trans (hb1.trans hb2)⟩
  · rw [Bool.not_eq_true] at hc
    rw [hc, Bool.false_and] at hB
    rw [hc] at hcon
    subst hB
    clear hc hk hinV
    go_enter Tryz.func165, Tryz.ntmps165
    go_wp2_with fail
    rw [← hW]
    clear hW
    refine hcon.out.mono ?_
    rintro e w1 ⟨rfl, hb1⟩
    clear x0 x1 x2 x3 x4
    go_wp2_with fail
    go_ret
    exact ⟨rfl, hbW.trans hb1⟩

set_option maxRecDepth 100000 in
set_option maxHeartbeats 4000000 in
theorem coverSomeH (A : Option Addr) (c : Nat) (l : List Op) (s : Id) (w : World) (hl : l.length ≤ 1048576) (hA : R cOp 0 w A l) :
    Calls Tryz.prog 115 #[.slice A l.length c, .agg #[.int .u32 s.t, .int .u8 s.r], .func (.func 210) #[] #[]] w (New2 cOp (homL l s) (whereN l s 0) w) := by
  obtain ⟨W, hW⟩ : ∃ W, W = (w.alloc (.cells #[Value.int IntKind.u32 s.t, Value.int IntKind.u8 s.r] 25)).alloc (.cells #[.func (.func 210) #[] #[]] 145) := ⟨_, rfl⟩
  have hbW : Bl w W := by rw [hW]; exact ((Bl.refl _).alloc _).alloc _
  have at0 : IdBox W w.heap.size s := by rw [hW]; exact (IdBox.new w s _).bl ((Bl.refl _).alloc _)
  have at1 : W.cell? ⟨w.heap.size + 1, 0, none⟩ = some (.func (.func 210) #[] #[]) := by
    have h := (At.new (w.alloc (.cells #[Value.int IntKind.u32 s.t, Value.int IntKind.u8 s.r] 25)) [.func (.func 210) #[] #[]] 145 0 _ rfl).1
    rw [World.size_alloc w] at h
    rw [hW]
    exact h
  obtain ⟨x0, x1, -, -⟩ := at0
  have hl1 := World.block_lt_of_cell? _ _ at1
  have hof := hide (coverOf A c l s W hl (hA.bl hbW))
  have hkn := hide (knows_of (l := l) (s := s))
  have hwz := hide (where_zero (l := l) (s := s))
  obtain ⟨L, hL⟩ : ∃ L, L = homL l s := ⟨_, rfl⟩
  rw [← hL]
  unfold homL at hL
  by_cases hN : whereN l s 0 = 0
  · rw [if_pos hN] at hL
    have hb := (hwz.out hN).1
    have hke := keepH_in (s := s) hb
    rw [← hL] at hke
    have hsm := hide (bagMay_small hb)
    have hkn := hide (hkn.out hN)
    have hall := hide (fun x (hx : x ∈ l) => op_place ((bagMay_parts hb).2.2 x hx))
    rw [hN] at hof ⊢
    clear hL hN hb hwz
    go_enter Tryz.func115, Tryz.ntmps115
    go_wp2_with fail
    rw [← hW]
    clear hW
    refine hof.out.mono ?_
    rintro e w1 ⟨F, cf, T, ct, Y, rfl, hsec, hb1⟩
    obtain ⟨W2, hW2⟩ : ∃ W2, W2 = w1.alloc (.cells #[.slice F (spanA l s).length cf, .slice T (spanB l s).length ct, .func (.func 202) #[] #[.pointer (some ⟨Y, 0, none⟩)]] 148) := ⟨_, rfl⟩
    have hb12 : Bl w1 W2 := by rw [hW2]; exact (Bl.refl _).alloc _
    have at2 : At W2 w1.heap.size 0 [.slice F (spanA l s).length cf, .slice T (spanB l s).length ct, .func (.func 202) #[] #[.pointer (some ⟨Y, 0, none⟩)]] := by rw [hW2]; exact At.new w1 _ _
    have hbW2 := hb1.trans hb12
    have hsec2 := hsec.bl hb12
    have hbw2 := hbW.trans hbW2
    have at3 := (hbW2.cell hl1).trans at1
    have hl2 := Nat.lt_of_lt_of_le hl1 hbW2.size
    have hpred : PredO W2 165 #[.pointer (some ⟨w1.heap.size, 0, none⟩), .pointer (some ⟨w.heap.size + 1, 0, none⟩)] l (fun x => !keepH l s x) := fun V x A c hx hV hin => coverKeepH l s x A F T c cf ct Y w1.heap.size (w.heap.size + 1) (spanA l s) (spanB l s) (heldN l) V hkn.out hin (hall.out x hx) (hsec2.bl hV) (at2.bl hV (by simp)) ((hV.cell hl2).trans at3)
    have hdel := hide fun (g : Nat) (V : World) (hV : Bl W2 V) hown => opDeleteFunc 165 #[.pointer (some ⟨w1.heap.size, 0, none⟩), .pointer (some ⟨w.heap.size + 1, 0, none⟩)] (enters_of Tryz.func165 (by kernel_rfl) rfl) g l.length l (fun x => !keepH l s x) W2 V rfl hV hl hown hpred
    rw [hke] at hdel
    clear hsec hsec2 hpred at2 at3 hke hb12 hkn
    go_wp2_with fail
    rw [← hW2]
    clear hW2
    refine (bagTwin A c l W2 hsm.out (hA.bl hbw2)).mono ?_
    rintro e w3 ⟨g, rfl, hown, hb3⟩
    have hdel2 := hide (hdel.out g w3 hb3 hown)
    clear hdel hown
    go_wp2_with fail
    refine hdel2.out.mono ?_
    rintro e w4 ⟨c4, rfl, q1, q2, hr4, hb4⟩
    go_wp2_with fail
    go_ret2
    exact ⟨_, c4, rfl, q1, q2, hr4.more hbw2.size, hbw2.trans hb4⟩
  · rw [if_neg hN] at hL
    subst hL
    have hNz : (whereN l s 0 == 0) = false := by rw [beq_eq_false_iff_ne]; exact hN
    generalize whereN l s 0 = N at *
    clear hwz hkn
    go_enter Tryz.func115, Tryz.ntmps115
    go_wp2_with fail
    rw [← hW]
    clear hW
    refine hof.out.mono ?_
    rintro e w1 ⟨F, cf, T, ct, Y, rfl, hsec, hb1⟩
    clear hsec
    go_wp2_with fail
    go_ret2
    exact ⟨none, 0, rfl, Nat.le_refl _, Nat.zero_le _, R.nil, (hbW.trans hb1).alloc _⟩

set_option maxRecDepth 100000 in
set_option maxHeartbeats 1000000 in
theorem coverHomed (A : Option Addr) (c : Nat) (l : List Op) (s : Id) (w : World) (hl : l.length ≤ 1048576) (hA : R cOp 0 w A l) :
    Calls Tryz.prog 182 #[.slice A l.length c, .agg #[.int .u32 s.t, .int .u8 s.r]] w (New2 cOp (homL l s) (whereN l s 0) w) := by
  have hb : Bl w (w.alloc (.cells #[Value.int IntKind.u32 s.t, Value.int IntKind.u8 s.r] 25)) := (Bl.refl _).alloc _
  have hso := hide (coverSomeH A c l s _ hl (hA.bl hb))
  go_enter Tryz.func182, Tryz.ntmps182
  go_wp2_with fail
  refine hso.out.mono ?_
  rintro e w1 ⟨B, d, rfl, q1, q2, hB, hb1⟩
  go_wp2_with fail
  go_ret2
  exact ⟨B, d, rfl, q1, q2, hB.more hb.size, hb.trans hb1⟩

end Go.Proofs.YteoodmilcpmmpaaGreat

namespace Go.Proofs.YteoodmilcpmmpaaGreat

open Go.RowKit

def blankE (x : Entry) : Entry := ⟨x.id, x.ready, x.pin, x.used, false, [], []⟩

def set3 (w : World) (Y : Nat) : World := ((w.setCell ⟨Y, 5, none⟩ (.bool false)).setCell ⟨Y, 6, none⟩ (.slice none 0 0)).setCell ⟨Y, 7, none⟩ (.slice none 0 0)

theorem set3_at {w : World} {Y : Nat} {x : Entry} {A B : Option Addr} {c d : Nat} (h : EntAt w Y x A c B d) : EntAt (set3 w Y) Y (blankE x) none 0 none 0 := by
  obtain ⟨c0, c1, c2, c3, c4, c5, c6, c7⟩ := h.cells
  obtain ⟨f0, f1, f2, f3, f4, f5, f6, f7⟩ := h.frozens
  intro j u hu
  refine ⟨?_, by
    unfold set3
    rw [World.frozen?_setCell, World.frozen?_setCell, World.frozen?_setCell]
    match j, hu with
    | 0, _ => exact f0
    | 1, _ => exact f1
    | 2, _ => exact f2
    | 3, _ => exact f3
    | 4, _ => exact f4
    | 5, _ => exact f5
    | 6, _ => exact f6
    | 7, _ => exact f7
    | j + 8, hu => simp [entryCells] at hu⟩
  unfold set3
  match j, hu with
  | 0, hu => simp [entryCells, blankE] at hu; subst hu; exact cell_set_other (by simp) (cell_set_other (by simp) (cell_set_other (by simp) c0))
  | 1, hu => simp [entryCells, blankE] at hu; subst hu; exact cell_set_other (by simp) (cell_set_other (by simp) (cell_set_other (by simp) c1))
  | 2, hu => simp [entryCells, blankE] at hu; subst hu; exact cell_set_other (by simp) (cell_set_other (by simp) (cell_set_other (by simp) c2))
  | 3, hu => simp [entryCells, blankE] at hu; subst hu; exact cell_set_other (by simp) (cell_set_other (by simp) (cell_set_other (by simp) c3))
  | 4, hu => simp [entryCells, blankE] at hu; subst hu; exact cell_set_other (by simp) (cell_set_other (by simp) (cell_set_other (by simp) c4))
  | 5, hu => simp [entryCells, blankE] at hu; subst hu; exact cell_set_other (by simp) (cell_set_other (by simp) (cell_set_same c5))
  | 6, hu => simp [entryCells, blankE] at hu; subst hu; exact cell_set_other (by simp) (cell_set_same (cell_set_other (by simp) c6))
  | 7, hu => simp [entryCells, blankE] at hu; subst hu; exact cell_set_same (cell_set_other (by simp) (cell_set_other (by simp) c7))
  | j + 8, hu => simp [entryCells] at hu

theorem set3_bl {a w : World} {Y : Nat} (h : Bl a w) (hY : a.heap.size ≤ Y) : Bl a (set3 w Y) :=
  ((h.setCell (p := ⟨Y, 5, none⟩) hY _).setCell (p := ⟨Y, 6, none⟩) hY _).setCell (p := ⟨Y, 7, none⟩) hY _

theorem set3_other {w : World} {Y E : Nat} {x : Entry} {A B : Option Addr} {c d : Nat} (h : EntAt w E x A c B d) (hne : Y ≠ E) : EntAt (set3 w Y) E x A c B d :=
  ((h.other hne _).other hne _).other hne _

set_option maxRecDepth 100000 in
set_option maxHeartbeats 1000000 in
theorem shiftBlank {w : World} {Y : Nat} {x : Entry} {A B : Option Addr} {c d : Nat} (h : EntAt w Y x A c B d) :
    Calls Tryz.prog 124 #[.pointer (some ⟨Y, 0, none⟩)] w fun e w' => e = .returned (.tuple #[]) ∧ w' = set3 w Y := by
  obtain ⟨c0, c1, c2, c3, c4, c5, c6, c7⟩ := h.cells
  obtain ⟨f0, f1, f2, f3, f4, f5, f6, f7⟩ := h.frozens
  have hl := h.lt
  go_enter Tryz.func124, Tryz.ntmps124
  go_wp2
  go_end0
  exact ⟨rfl, rfl⟩

def wholeB (l : List Op) (s : Id) : Bool := decide ((homL l s).length = (cntL l s).length)

set_option maxRecDepth 100000 in
set_option maxHeartbeats 1000000 in
theorem shiftWhole (A : Option Addr) (c : Nat) (l : List Op) (s : Id) (w : World) (hl : l.length ≤ 1048576) (hA : R cOp 0 w A l) :
    Calls Tryz.prog 127 #[.slice A l.length c, .agg #[.int .u32 s.t, .int .u8 s.r]] w fun e w' => e = .returned (.bool (wholeB l s)) ∧ Bl w w' := by
  obtain ⟨W, hW⟩ : ∃ W, W = w.alloc (.cells #[Value.int IntKind.u32 s.t, Value.int IntKind.u8 s.r] 25) := ⟨_, rfl⟩
  have hbW : Bl w W := by rw [hW]; exact (Bl.refl _).alloc _
  have at0 : IdBox W w.heap.size s := by rw [hW]; exact IdBox.new w s _
  have hho := hide (coverHomed A c l s W hl (hA.bl hbW))
  have hco := hide fun V (hv : Bl w V) => coverCounts A c l s V hl (hA.bl hv)
  unfold wholeB
  generalize homL l s = H at *
  generalize cntL l s = C at *
  generalize whereN l s 0 = N at *
  go_enter Tryz.func127, Tryz.ntmps127
  go_wp2_with fail
  rw [← hW]
  clear hW
  refine hho.out.mono ?_
  rintro e w1 ⟨X, x, rfl, x1, x2, hX, hb1⟩
  obtain ⟨i0, i1, -, -⟩ := at0.bl hb1
  have hil := (at0.bl hb1).lt
  go_wp2_with fail
  refine (hco.out _ (hbW.trans hb1)).mono ?_
  rintro e w2 ⟨Y, y, rfl, y1, y2, hY, hb2⟩
  go_wp2_with fail
  go_ret
  exact ⟨by first | rfl | (refine ret_bool ?_; by_cases h : H.length = C.length <;> simp [h]; try omega), hbW.trans (hb1.trans hb2)⟩

theorem R.oksO {lo : Nat} {w : World} {A : Option Addr} {l : List Op} (h : R cOp lo w A l) : ∀ x ∈ l, x.ok := fun x hx => by
  obtain ⟨k, hk⟩ := List.getElem?_of_mem hx
  obtain ⟨b, off, rfl, -, -⟩ := h.addr (by have := (List.getElem?_eq_some_iff.1 hk).1; omega)
  exact (h.op hk).2.1

theorem R.oksE {lo : Nat} {w : World} {A : Option Addr} {l : List Entry} (h : R cEntry lo w A l) : ∀ x ∈ l, x.ok := fun x hx => by
  obtain ⟨k, hk⟩ := List.getElem?_of_mem hx
  obtain ⟨b, off, rfl, -, -⟩ := h.addr (by have := (List.getElem?_eq_some_iff.1 hk).1; omega)
  exact (h.entry hk).2.1

theorem zero_ok : (⟨0, 0⟩ : Id).ok := by unfold Id.ok; decide

theorem ofS_ok {l : List Op} (h : ∀ x ∈ l, x.ok) (p : List Run) : (ofS l p).ok := by
  unfold ofS
  split
  · rename_i hb
    rw [Bool.and_eq_true] at hb
    obtain ⟨i, hi⟩ := home_some (p := p) hb.1 hb.2
    rcases List.mem_cons.1 (List.mem_of_getElem? hi) with e | e
    · rw [e]; exact zero_ok
    · obtain ⟨x, hx, e⟩ := List.mem_map.1 e
      rw [← e]
      exact (h x ((lives_mem hb.1).1 hx).1).2.1
  · exact zero_ok

theorem zeroE_ok : zeroE.ok := ⟨zero_ok, by unfold i64ok zeroE; decide⟩

theorem findE_ok {l : List Entry} (h : ∀ x ∈ l, x.ok) (s : Id) : (findE l s).ok := by
  unfold findE
  cases shelfMay l
  · exact zeroE_ok
  · rw [if_pos rfl]
    cases hf : entOf l s
    · exact zeroE_ok
    · obtain ⟨k, hk, -⟩ := ent_some hf
      exact h _ (List.mem_of_getElem? hk)

theorem putEL_len (l : List Entry) (x : Entry) : (putEL l x).length ≤ l.length + 1 := by
  unfold putEL
  split
  · split
    · rw [List.length_set]; omega
    · rw [List.length_append, List.length_cons, List.length_take, List.length_drop]; omega
  · simp

theorem blank_held (V : World) (x : Entry) : Held V (blankE x) none 0 none 0 := ⟨Nat.le_refl _, Nat.zero_le _, Nat.le_refl _, Nat.zero_le _, R.nil, R.nil⟩

/-- The entry of the section that a mark is set in. -/
def markE (l : List Op) (h : List Entry) (o : Op) : Entry := blankE (findE h (ofS l o.pl))

def named (x : Entry) (s : Id) : Entry := ⟨s, x.ready, x.pin, x.used, x.known, x.snap, x.got⟩

def markL (l : List Op) (h : List Entry) (o : Op) : List Entry := if findB h (ofS l o.pl) then putEL (putEL h (markE l h o)) (named (markE l h o) o.id) else h

def markN (l : List Op) (h : List Entry) (o : Op) : Int := if findB h (ofS l o.pl) then putN (putEL h (markE l h o)) (named (markE l h o) o.id) else 0

theorem ent_id {w : World} {Y : Nat} {x : Entry} {A B : Option Addr} {c d : Nat} (h : EntAt w Y x A c B d) (s : Id) : EntAt ((w.setCell ⟨Y, 0, none⟩ (.int .u32 s.t)).setCell ⟨Y, 1, none⟩ (.int .u8 s.r)) Y (named x s) A c B d := by
  obtain ⟨c0, c1, c2, c3, c4, c5, c6, c7⟩ := h.cells
  obtain ⟨f0, f1, f2, f3, f4, f5, f6, f7⟩ := h.frozens
  intro j u hu
  refine ⟨?_, by
    rw [World.frozen?_setCell, World.frozen?_setCell]
    match j, hu with
    | 0, _ => exact f0
    | 1, _ => exact f1
    | 2, _ => exact f2
    | 3, _ => exact f3
    | 4, _ => exact f4
    | 5, _ => exact f5
    | 6, _ => exact f6
    | 7, _ => exact f7
    | j + 8, hu => simp [entryCells] at hu⟩
  match j, hu with
  | 0, hu => simp [entryCells, named] at hu; subst hu; exact cell_set_other (by simp) (cell_set_same c0)
  | 1, hu => simp [entryCells, named] at hu; subst hu; exact cell_set_same (cell_set_other (by simp) c1)
  | 2, hu => simp [entryCells, named] at hu; subst hu; exact cell_set_other (by simp) (cell_set_other (by simp) c2)
  | 3, hu => simp [entryCells, named] at hu; subst hu; exact cell_set_other (by simp) (cell_set_other (by simp) c3)
  | 4, hu => simp [entryCells, named] at hu; subst hu; exact cell_set_other (by simp) (cell_set_other (by simp) c4)
  | 5, hu => simp [entryCells, named] at hu; subst hu; exact cell_set_other (by simp) (cell_set_other (by simp) c5)
  | 6, hu => simp [entryCells, named] at hu; subst hu; exact cell_set_other (by simp) (cell_set_other (by simp) c6)
  | 7, hu => simp [entryCells, named] at hu; subst hu; exact cell_set_other (by simp) (cell_set_other (by simp) c7)
  | j + 8, hu => simp [entryCells] at hu

set_option maxRecDepth 100000 in
set_option maxHeartbeats 8000000 in
theorem shiftMarked (A B S : Option Addr) (c d sc : Nat) (l : List Op) (h : List Entry) (o : Op) (w : World) (hl : l.length ≤ maxLen) (hh : h.length ≤ 65) (hsm : smallS h) (hA : R cOp 0 w A l) (hB : R cEntry 0 w B h) (ho : OpIn w o S sc) :
    Calls Tryz.prog 73 #[.slice A l.length c, .slice B h.length d, .agg #[.int .u8 o.kind, .int .u32 o.id.t, .int .u8 o.id.r, .slice S o.pl.length sc, .int .i64 o.pt]] w (New2 cEntry (markL l h o) (markN l h o) w) := by
  obtain ⟨W, hW⟩ : ∃ W, W = w.alloc (.cells #[Value.int IntKind.u8 o.kind, Value.int IntKind.u32 o.id.t, Value.int IntKind.u8 o.id.r, Value.slice S o.pl.length sc, Value.int IntKind.i64 o.pt] 47) := ⟨_, rfl⟩
  have hbW : Bl w W := by rw [hW]; exact (Bl.refl _).alloc _
  have at0 : OpBox W w.heap.size o S sc := by rw [hW]; exact OpBox.new w o S sc _
  have hof := hide (homeOf A S c sc l o.pl W hl ho.small (hA.bl hbW) (ho.hR.bl hbW))
  have hsok := ofS_ok hA.oksO o.pl
  have hfi := hide fun V (hv : Bl w V) => shelfFind B d h (ofS l o.pl) V (by omega) hsok (hB.bl hv)
  have htw := hide fun V (hv : Bl w V) => shelfTwinO B d h V hsm (hB.bl hv)
  have hxok := findE_ok hB.oksE (ofS l o.pl)
  have hook := ho.ok.2.1
  obtain ⟨L, hL⟩ : ∃ L, L = markL l h o := ⟨_, rfl⟩
  obtain ⟨N, hN⟩ : ∃ N, N = markN l h o := ⟨_, rfl⟩
  rw [← hL, ← hN]
  unfold markL at hL
  unfold markN at hN
  unfold markE at hL hN
  obtain ⟨i0, i1, i2, i3, i4⟩ := at0.cells
  have hil := at0.lt
  generalize ofN l o.pl = on at *
  generalize ofS l o.pl = s at *
  generalize findE h s = x at *
  cases hf : findB h s
  · rw [hf, if_neg (by decide)] at hL hN
    rw [hf] at hfi
    subst hL hN
    clear hf
    go_enter Tryz.func73, Tryz.ntmps73
    go_wp2_with fail
    rw [← hW]
    clear hW
    refine hof.out.mono ?_
    rintro e w1 ⟨rfl, hb1⟩
    have hbw1 := hbW.trans hb1
    clear i0 i1 i2 i3 i4 hil
    go_wp2_with fail
    refine (hfi.out _ (hbw1.alloc _)).mono ?_
    rintro e w2 ⟨XA, xc, XB, xd, rfl, -, -, -, -, -, -, hb2⟩
    have hbw2 := (hbw1.alloc _).trans hb2
    go_wp2_with fail
    refine (htw.out _ (hbw2.alloc _)).mono ?_
    rintro e w3 ⟨v3, rfl, hown, hb3⟩
    obtain ⟨X, xc3, hvx, hX, y1, y2⟩ := hown.reads
    subst hvx
    go_wp2_with fail
    go_ret2
    exact ⟨X, xc3, rfl, y1, y2, hX.more (hbw2.alloc _).size, (hbw2.alloc _).trans hb3⟩
  · rw [hf, if_pos rfl] at hL hN
    rw [hf] at hfi
    clear hf htw
    have hp1 := hide fun V (hv : Bl w V) => shelfPut B d h (blankE x) none none 0 0 V (by omega) (hB.bl hv) hxok (blank_held V x)
    have hln := putEL_len h (blankE x)
    have hp2 := hide fun (X : Option Addr) (xc : Nat) V (hX : R cEntry 0 V X (putEL h (blankE x))) => shelfPut X xc (putEL h (blankE x)) (named (blankE x) o.id) none none 0 0 V (by omega) hX ⟨hook, hxok.2⟩ ⟨Nat.le_refl _, Nat.zero_le _, Nat.le_refl _, Nat.zero_le _, R.nil, R.nil⟩
    rw [← hL, ← hN] at hp2
    clear hL hN hln
    generalize putEL h (blankE x) = H1 at *
    generalize putN h (blankE x) = N1 at *
    go_enter Tryz.func73, Tryz.ntmps73
    go_wp2_with fail
    rw [← hW]
    clear hW
    refine hof.out.mono ?_
    rintro e w1 ⟨rfl, hb1⟩
    have hbw1 := hbW.trans hb1
    clear i0 i1 i2 i3 i4 hil hof
    obtain ⟨V1, hV1⟩ : ∃ V1, V1 = w1.alloc (.cells #[Value.int IntKind.u32 s.t, Value.int IntKind.u8 s.r] 25) := ⟨_, rfl⟩
    have hb1V : Bl w1 V1 := by rw [hV1]; exact (Bl.refl _).alloc _
    go_wp2_with fail
    rw [← hV1]
    clear hV1
    refine (hfi.out _ (hbw1.trans hb1V)).mono ?_
    rintro e w2 ⟨XA, xc, XB, xd, rfl, -, -, -, -, -, -, hb2⟩
    have hbw2 := (hbw1.trans hb1V).trans hb2
    have hbW2 := (hb1.trans hb1V).trans hb2
    obtain ⟨V2, hV2⟩ : ∃ V2, V2 = w2.alloc (.cells #[Value.int IntKind.u32 x.id.t, Value.int IntKind.u8 x.id.r, Value.bool x.ready, Value.bool x.pin, Value.int IntKind.i64 x.used, Value.bool x.known, Value.slice XA x.snap.length xc, Value.slice XB x.got.length xd] 62) := ⟨_, rfl⟩
    have at2 : EntAt V2 w2.heap.size x XA xc XB xd := by rw [hV2]; exact EntAt.new w2 x XA xc XB xd _
    have hb2V : Bl w2 V2 := by rw [hV2]; exact (Bl.refl _).alloc _
    clear hfi
    go_wp2_with fail
    rw [← hV2]
    clear hV2
    refine (shiftBlank at2).mono ?_
    rintro e w3 ⟨rfl, hw3⟩
    have at3 := set3_at at2
    have hb3 := set3_bl hb2V (Nat.le_refl _)
    rw [← hw3] at at3 hb3
    clear hw3 at2 hb2V
    have hbw3 := hbw2.trans hb3
    obtain ⟨y0, y1, y2, y3, y4, y5, y6, y7⟩ := at3.cells
    have hyl := at3.lt
    go_wp2_with fail
    refine (hp1.out _ hbw3).mono ?_
    rintro e w4 ⟨X4, c4, rfl, q1, q2, hX4, hb4⟩
    have at4 := at3.bl hb4
    clear y0 y1 y2 y3 y4 y5 y6 y7 hyl hp1
    obtain ⟨y0, y1, y2, y3, y4, y5, y6, y7⟩ := at4.cells
    obtain ⟨f0, f1, f2, f3, f4, f5, f6, f7⟩ := at4.frozens
    have hyl := at4.lt
    have hbw4 := hbw3.trans hb4
    have hbW4 := hbW2.trans (hb3.trans hb4)
    obtain ⟨i0, i1, i2, i3, i4⟩ := (at0.bl hbW4).cells
    have hil := (at0.bl hbW4).lt
    have at5 := ent_id at4 o.id
    have hX5 := ((hX4.set (p := ⟨w2.heap.size, 0, none⟩) (by show w2.heap.size < _; exact at3.lt) (.int .u32 o.id.t)).set (p := ⟨w2.heap.size, 1, none⟩) (by show w2.heap.size < _; exact at3.lt) (.int .u8 o.id.r)).zero
    have hbw5 := (hbw4.setCell (p := ⟨w2.heap.size, 0, none⟩) hbw2.size (.int .u32 o.id.t)).setCell (p := ⟨w2.heap.size, 1, none⟩) hbw2.size (.int .u8 o.id.r)
    obtain ⟨V5, hV5⟩ : ∃ V5, V5 = (w4.setCell ⟨w2.heap.size, 0, none⟩ (.int .u32 o.id.t)).setCell ⟨w2.heap.size, 1, none⟩ (.int .u8 o.id.r) := ⟨_, rfl⟩
    rw [← hV5] at at5 hX5 hbw5
    clear hX4
    go_upto_region 8 with fail
    rw [← hV5]
    clear hV5 y0 y1 y2 y3 y4 y5 y6 y7 hyl f0 f1 f2 f3 f4 f5 f6 f7 i0 i1 i2 i3 i4 hil
    obtain ⟨y0, y1, y2, y3, y4, y5, y6, y7⟩ := at5.cells
    have hyl := at5.lt
    go_wp2_with fail
    refine (hp2.out X4 c4 V5 hX5).mono ?_
    rintro e w6 ⟨X6, c6, rfl, r1, r2, hX6, hb6⟩
    go_wp2_with fail
    go_ret2
    exact ⟨X6, c6, rfl, r1, r2, hX6.more hbw5.size, hbw5.trans hb6⟩

end Go.Proofs.YteoodmilcpmmpaaGreat
