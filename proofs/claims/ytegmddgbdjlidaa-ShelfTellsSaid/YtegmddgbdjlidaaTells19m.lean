/-
  The walks of layer 19's references Without and With.
  The walks of layer 19's references Put, Drop and Among.
  The walks of layer 19's references Goes and Victim.
  The walk of the law's inner function spoil, where other lists were spoilt before; and the walk of ShelfTells.
-/
import Derived.Test.YtegmddgbdjlidaaPlain19
namespace Go.Proofs.Ytegmddgbdjlidaa
open Go.RowKit

/-- A list in a row of the call's own; what its elements lead to lies anywhere. -/
def OwnF (base : Nat) (w : World) (v : Value) (xs : List Entry) : Prop := Own cEntry 31 0 w v xs ∧ ∀ b, v.ownBlock = some b → base ≤ b
theorem OwnF.nil {base : Nat} {w : World} : OwnF base w (.slice none 0 0) [] := ⟨Own.nil, fun b h => by cases h⟩
theorem OwnF.bl {base : Nat} {w w' : World} {v : Value} {xs : List Entry} (h : OwnF base w v xs) (hb : Bl w w') : OwnF base w' v xs := ⟨h.1.bl hb, h.2⟩
theorem OwnF.app {a b c : World} {v : Value} {xs : List Entry} {base : Nat} (h : Bl a b) (ho : OwnF base b v xs) (hb : a.heap.size ≤ base) (hg : b.grownBy c v.ownBlock) : Bl a c := Below.grown h hg h.size (fun k hk => Nat.le_trans hb (ho.2 k hk))
theorem OwnF.next {base : Nat} {w w' : World} {v v' : Value} {xs ys : List Entry} (ho : OwnF base w v xs) (hb : base ≤ w.heap.size) (h2 : Own cEntry 31 0 w' v' ys) (hf : Far w v w' v') : OwnF base w' v' ys :=
  ⟨h2, fun b hb2 => Nat.le_of_not_lt fun hlt => (hf.2 b (Nat.lt_of_lt_of_le hlt hb) (fun e => by have := ho.2 b e; omega)).2 hb2⟩
theorem OwnF.src {base : Nat} {w0 w : World} {v : Value} {xs : List Entry} {x : Entry} {cs : List Value} {t : TypeId} (ho : OwnF base w v xs) (hb : Bl w0 w) (hbase : w0.heap.size ≤ base) (h : cEntry.rd w0 (Fresh 0 w0) x cs) :
    ∃ news, RdL cEntry (w.alloc (.cells cs.toArray t)) (fun b => (0 ≤ b ∧ b < (w.alloc (.cells cs.toArray t)).heap.size) ∧ v.ownBlock ≠ some b) [x] news ∧ (∀ ad, some (⟨w.heap.size, 0, none⟩ : Addr) = some ad → ∀ (j : Nat) (u : Value), news[j]? = some u → (w.alloc (.cells cs.toArray t)).cell? (ad.add j) = some u) ∧ (some (⟨w.heap.size, 0, none⟩ : Addr) = none → [x] = []) := by
  refine ⟨cs, RdL.one1 (cEntry.keep (((hb.alloc _)).keeps fun b h => h.2) (fun b h => ⟨⟨Nat.zero_le _, Nat.lt_of_lt_of_le h.2 (hb.alloc _).size⟩, fun e => ?_⟩) h), fun ad e j u hu => ?_, fun e => by cases e⟩
  · have := ho.2 b e
    have := h.2
    omega
  cases e
  have hadd : (⟨w.heap.size, 0, none⟩ : Addr).add j = ⟨w.heap.size, j, none⟩ := by
    unfold Addr.add
    split
    · rename_i h0; subst h0; rfl
    · simp
  rw [hadd, cell_of_row _ w.heap.size j cs.toArray t (0, 0) (heap_alloc_new w _)]
  simpa using hu
theorem OwnF.reads {base : Nat} {w : World} {v : Value} {xs : List Entry} (h : OwnF base w v xs) : ∃ A c, v = .slice A xs.length c ∧ R cEntry 0 w A xs ∧ xs.length ≤ c ∧ c ≤ maxLen := h.1.reads
/-- What a call that hands back a list says, whose elements stand anywhere. -/
def NewSh (l : List Entry) (w : World) (e : Ending) (w' : World) : Prop := ∃ A c, e = .returned (.slice A l.length c) ∧ l.length ≤ c ∧ c ≤ maxLen ∧ R cEntry 0 w' A l ∧ Bl w w'
theorem R.rdEntry {w : World} {b off k : Nat} {l : List Entry} {x : Entry} {lo : Nat} (h : R cEntry lo w (some ⟨b, off, none⟩) l) (hk : l[k]? = some x) :
    ∃ A c B d, cEntry.rd w (Fresh lo w) x (entryCells x A c B d) ∧
      w.cell? ⟨b, off + k * 8, none⟩ = some (.int .u32 x.id.t) ∧ w.cell? ⟨b, off + k * 8 + 1, none⟩ = some (.int .u8 x.id.r) ∧ w.cell? ⟨b, off + k * 8 + 2, none⟩ = some (.bool x.ready) ∧
      w.cell? ⟨b, off + k * 8 + 3, none⟩ = some (.bool x.pin) ∧ w.cell? ⟨b, off + k * 8 + 4, none⟩ = some (.int .i64 x.used) ∧ w.cell? ⟨b, off + k * 8 + 5, none⟩ = some (.bool x.known) ∧
      w.cell? ⟨b, off + k * 8 + 6, none⟩ = some (.slice A x.snap.length c) ∧ w.cell? ⟨b, off + k * 8 + 7, none⟩ = some (.slice B x.got.length d) := by
  obtain ⟨_, ho, A, c, B, d, a1, a2, a3, a4, hr, hs, c0, c1, c2, c3, c4, c5, c6, c7⟩ := h.entry hk
  exact ⟨A, c, B, d, ⟨ho, A, c, B, d, a1, a2, a3, a4, rfl, hr, hs⟩, c0, c1, c2, c3, c4, c5, c6, c7⟩

theorem out_take {l : List Entry} {k : Nat} {x : Entry} {s : Id} (h : l[k]? = some x) : (x.id = s → outL (l.take (k + 1)) s = outL (l.take k) s) ∧ (x.id ≠ s → outL (l.take (k + 1)) s = outL (l.take k) s ++ [x]) := by
  rw [take_snoc h, out_app]
  constructor
  · intro e; unfold outL; simp [e]
  · intro e; unfold outL; simp [e]
theorem fil_take {l : List Entry} {k : Nat} {x : Entry} (p : Entry → Bool) (h : l[k]? = some x) : (p x = false → (l.take (k + 1)).filter p = (l.take k).filter p) ∧ (p x = true → (l.take (k + 1)).filter p = (l.take k).filter p ++ [x]) := by
  rw [take_snoc h, List.filter_append]
  constructor
  · intro e; simp [e]
  · intro e; simp [e]

set_option maxRecDepth 100000 in
set_option maxHeartbeats 2000000 in
theorem refWithout19 (A : Option Addr) (c : Nat) (l : List Entry) (s : Id) (w : World) (hl : l.length ≤ 1048576) (hA : R cEntry 0 w A l) :
    Calls Try.prog 77 #[.slice A l.length c, .agg #[.int .u32 s.t, .int .u8 s.r]] w (NewSh (outL l s) w) := by
  obtain ⟨i0, hi, hz0, hz1, hz2⟩ := info_parts Try.infoEntry
  go_enter Try.func77, Try.ntmps77
  go_upto_region 3 with fail
  have hV0 : Bl w (w.alloc (.cells #[Value.int IntKind.u32 s.t, Value.int IntKind.u8 s.r] 25)) := (Bl.refl _).alloc _
  have at0 := IdAt.new w s
  have hsz0 : (w.alloc (.cells #[Value.int IntKind.u32 s.t, Value.int IntKind.u8 s.r] 25)).heap.size = w.heap.size + 1 := World.size_alloc _ _
  generalize w.alloc (.cells #[Value.int IntKind.u32 s.t, Value.int IntKind.u8 s.r] 25) = W at *
  go_loopw [5, 6] (fun v i wr => Bl W wr ∧ ∃ k : Nat, k ≤ l.length ∧ i = .int .i64 k ∧ OwnF W.heap.size wr v (outL (l.take k) s)) (fun _ i _ => l.length - (intOf i).toNat)
  case atStart => exact ⟨Bl.refl _, 0, Nat.zero_le _, rfl, OwnF.nil⟩
  case round =>
    obtain ⟨hbl, k, hk, rfl, hown⟩ := hrel
    have hbw := hV0.trans hbl
    by_cases hlt : k < l.length
    · obtain ⟨b, off, rfl, _, hbb⟩ := hA.addr (by omega)
      obtain ⟨x, hx⟩ := get_lt hlt
      obtain ⟨S, sc, G, gc, hrd, c0, c1, c2, c3, c4, c5, c6, c7⟩ := hA.rdEntry hx
      have hot := out_take (s := s) hx
      have hFl : (outL (l.take k) s).length ≤ l.length := Nat.le_trans (List.length_filter_le _ _) (by rw [List.length_take]; omega)
      clear hx
      have C0 := fun p : Wd wr => Wd.cell ((hbw.cell hbb).trans c0) (by have := hbw.size; omega) p
      have C1 := fun p : Wd wr => Wd.cell ((hbw.cell hbb).trans c1) (by have := hbw.size; omega) p
      have S0 := fun p : Wd wr => Wd.cell (at0.bl hbl).c0 (by have := hbl.size; omega) p
      have S1 := fun p : Wd wr => Wd.cell (at0.bl hbl).c1 (by have := hbl.size; omega) p
      have hi1 : (k : Int) < (l.length : Int) := by omega
      have hi0 : (0 : Int) ≤ (k : Int) := by omega
      have hne := run_neqId x.id s
      cases hq : neqId x.id s
      · rw [hq] at hne
        have g := hide (hot.1 (neqId_false hq))
        clear hq hot
        go_wp2
        (refine wp_region_wd (by kernel_rfl) (by kernel_rfl) ?_
         repeat (go_big_quiet_step ((fail)))
         refine wpQuiet_nil ?_
         intro w2 hw'
         obtain ⟨⟨wx, hb2⟩, hw''⟩ := hw'
         subst hw'')
        go_wp2
        go_roundw
        case rel => exact ⟨hbl.trans hb2, k + 1, by omega, by go_num, by rw [g.out]; exact hown.bl hb2⟩
        case measure => simp [intOf]; omega
      · rw [hq] at hne
        have g := hide (hot.2 (neqId_true hq))
        clear hq hot
        generalize outL (l.take k) s = F at *
        go_wp2
        (refine wp_region_wd (by kernel_rfl) (by kernel_rfl) ?_
         repeat (go_big_quiet_step ((fail)))
         refine wpQuiet_nil ?_
         intro w2 hw'
         obtain ⟨⟨wx, hb2⟩, hw''⟩ := hw'
         subst hw'')
        have hb02 := hbw.trans hb2
        have hbW2 := hbl.trans hb2
        replace c0 := (hb02.cell hbb).trans c0
        replace c1 := (hb02.cell hbb).trans c1
        replace c2 := (hb02.cell hbb).trans c2
        replace c3 := (hb02.cell hbb).trans c3
        replace c4 := (hb02.cell hbb).trans c4
        replace c5 := (hb02.cell hbb).trans c5
        replace c6 := (hb02.cell hbb).trans c6
        replace c7 := (hb02.cell hbb).trans c7
        clear C0 C1 S0 S1
        replace hown := hown.bl hb2
        have hown1 := hown.bl ((Bl.refl w2).alloc (.cells (entryCells x S sc G gc).toArray 31))
        have hsrc := hown.src (t := 31) hb02 (by omega) hrd
        have q1 : F.length + [x].length ≤ maxLen := by simp [maxLen]; omega
        have q2 : (F.length + [x].length) * 80 ≤ 140737488355328 := by simp; omega
        have hWs := hbW2.size
        go_wp2_with (at_builtin; refine Hid.out ?_)
        refine hide ?_
        refine wpList_append_any2 (C := cEntry) (xs := F) (ys := [x]) rfl (.tmp 20) (.tmp 25) _ rfl 31 i0 _ 80 Try.underlying22 hi hz0 hz1 hz2 rfl u5 0 rfl hown1.1 (some ⟨w2.heap.size, 0, none⟩) 1 1 rfl rfl hsrc q1 q2 (Nat.zero_le _) ?_
        intro v9 w9 hown9 hg9 hf9
        have hb9 : Bl W w9 := OwnF.app (hbW2.alloc _) hown1 (Nat.le_refl _) hg9
        have ho9 := hown1.next (by rw [World.size_alloc]; omega) hown9 hf9
        clear hown hown1 hsrc hown9 hg9 hf9
        go_wp2_with fail
        go_roundw
        case rel => exact ⟨hb9, k + 1, by omega, by go_num, by rw [g.out]; exact ho9⟩
        case measure => simp [intOf]; omega
    · have hkl : l.length ≤ k := by omega
      go_wp2
      go_ret
      rw [List.take_of_length_le hkl] at hown
      obtain ⟨A', c', rfl, hr, h1, h2⟩ := hown.reads
      exact ⟨A', c', rfl, h1, h2, hr, hbw⟩

set_option maxRecDepth 100000 in
set_option maxHeartbeats 4000000 in
theorem refWith19 (A : Option Addr) (c : Nat) (l : List Entry) (x : Entry) (S G : Option Addr) (sc gc : Nat) (w : World) (hl : l.length ≤ 1048000) (hA : R cEntry 0 w A l) (hxo : x.ok) (hx : Held w x S sc G gc) :
    Calls Try.prog 76 #[.slice A l.length c, .agg #[.int .u32 x.id.t, .int .u8 x.id.r, .bool x.ready, .bool x.pin, .int .i64 x.used, .bool x.known, .slice S x.snap.length sc, .slice G x.got.length gc]] w (NewSh (withL l x) w) := by
  obtain ⟨i0, hi, hz0, hz1, hz2⟩ := info_parts Try.infoEntry
  go_enter Try.func76, Try.ntmps76
  go_upto_region 1 with fail
  have hV0 : Bl w (w.alloc (.cells #[Value.int IntKind.u32 x.id.t, Value.int IntKind.u8 x.id.r, Value.bool x.ready, Value.bool x.pin, Value.int IntKind.i64 x.used, Value.bool x.known, Value.slice S x.snap.length sc, Value.slice G x.got.length gc] 31)) := (Bl.refl _).alloc _
  have at0 := EntAt.new w x S sc G gc 31
  have hsz0 : (w.alloc (.cells #[Value.int IntKind.u32 x.id.t, Value.int IntKind.u8 x.id.r, Value.bool x.ready, Value.bool x.pin, Value.int IntKind.i64 x.used, Value.bool x.known, Value.slice S x.snap.length sc, Value.slice G x.got.length gc] 31)).heap.size = w.heap.size + 1 := World.size_alloc _ _
  generalize w.alloc (.cells #[Value.int IntKind.u32 x.id.t, Value.int IntKind.u8 x.id.r, Value.bool x.ready, Value.bool x.pin, Value.int IntKind.i64 x.used, Value.bool x.known, Value.slice S x.snap.length sc, Value.slice G x.got.length gc] 31) = V at *
  obtain ⟨x0, x1, -, -, -, -, -, -⟩ := at0.cells
  go_wp2_with fail
  refine (refWithout19 A c l x.id V (by omega) (hA.bl hV0)).mono ?_
  have hwl : withL l x = (outL l x.id).filter (fun y => idLess y.id x.id) ++ [x] ++ (outL l x.id).filter (fun y => idLess x.id y.id) := by unfold withL; simp
  have hll : (outL l x.id).length ≤ l.length := List.length_filter_le _ _
  generalize outL l x.id = L at *
  replace hwl := hide hwl
  rintro e W ⟨B, d, rfl, -, -, hB, hbW⟩
  clear x0 x1
  have hw0 := hV0.trans hbW
  replace at0 := at0.bl hbW
  have hsz1 := hbW.size
  replace hx : Held W x S sc G gc := hx.bl hw0
  clear hbW
  go_upto_region 4 with fail
  go_loopw [5, 6] (fun v i wr => Bl W wr ∧ ∃ k : Nat, k ≤ L.length ∧ i = .int .i64 k ∧ OwnF W.heap.size wr v ((L.take k).filter (fun y => idLess y.id x.id))) (fun _ i _ => L.length - (intOf i).toNat)
  case atStart => exact ⟨Bl.refl _, 0, Nat.zero_le _, rfl, OwnF.nil⟩
  case round =>
    obtain ⟨hbl, k, hk, rfl, hown⟩ := hrel
    have hbw := hw0.trans hbl
    by_cases hlt : k < L.length
    · obtain ⟨b, off, rfl, _, hbb⟩ := hB.addr (by omega)
      obtain ⟨y, hy⟩ := get_lt hlt
      obtain ⟨S1, sc1, G1, gc1, hrd, c0, c1, c2, c3, c4, c5, c6, c7⟩ := hB.rdEntry hy
      have hot := fil_take (fun y => idLess y.id x.id) hy
      have hFl : ((L.take k).filter (fun y => idLess y.id x.id)).length ≤ l.length := Nat.le_trans (Nat.le_trans (List.length_filter_le _ _) (by rw [List.length_take]; omega)) hll
      clear hy
      have hat := at0.bl hbl
      obtain ⟨z0, z1, -, -, -, -, -, -⟩ := hat.cells
      have hzlt := hat.lt
      have C0 := fun p : Wd wr => Wd.cell ((hbl.cell hbb).trans c0) (by have := hbl.size; omega) p
      have C1 := fun p : Wd wr => Wd.cell ((hbl.cell hbb).trans c1) (by have := hbl.size; omega) p
      have X0 := fun p : Wd wr => Wd.cell z0 hzlt p
      have X1 := fun p : Wd wr => Wd.cell z1 hzlt p
      clear z0 z1
      have hi1 : (k : Int) < (L.length : Int) := by omega
      have hi0 : (0 : Int) ≤ (k : Int) := by omega
      have hless := fun V => refLess05 y.id x.id V
      cases hq : idLess y.id x.id
      · rw [hq] at hless
        replace hless := hide hless
        have g := hide (hot.1 hq)
        clear hq hot
        go_wp2
        (refine wp_region_wd (by kernel_rfl) (by kernel_rfl) ?_
         repeat (go_big_quiet_step ((go_at_call 81; exact Calls.wd (hless.out _))))
         refine wpQuiet_nil ?_
         intro w2 hw'
         obtain ⟨⟨wx, hb2⟩, hw''⟩ := hw'
         subst hw'')
        go_wp2
        go_roundw
        case rel => exact ⟨hbl.trans hb2, k + 1, by omega, by go_num, by rw [g.out]; exact hown.bl hb2⟩
        case measure => simp [intOf]; omega
      · rw [hq] at hless
        replace hless := hide hless
        have g := hide (hot.2 hq)
        clear hq hot
        generalize (L.take k).filter (fun y => idLess y.id x.id) = F at *
        go_wp2
        (refine wp_region_wd (by kernel_rfl) (by kernel_rfl) ?_
         repeat (go_big_quiet_step ((go_at_call 81; exact Calls.wd (hless.out _))))
         refine wpQuiet_nil ?_
         intro w2 hw'
         obtain ⟨⟨wx, hb2⟩, hw''⟩ := hw'
         subst hw'')
        have hbW2 := hbl.trans hb2
        replace c0 := (hbW2.cell hbb).trans c0
        replace c1 := (hbW2.cell hbb).trans c1
        replace c2 := (hbW2.cell hbb).trans c2
        replace c3 := (hbW2.cell hbb).trans c3
        replace c4 := (hbW2.cell hbb).trans c4
        replace c5 := (hbW2.cell hbb).trans c5
        replace c6 := (hbW2.cell hbb).trans c6
        replace c7 := (hbW2.cell hbb).trans c7
        clear C0 C1 X0 X1
        replace hown := hown.bl hb2
        have hown1 := hown.bl ((Bl.refl w2).alloc (.cells (entryCells y S1 sc1 G1 gc1).toArray 31))
        have hsrc := hown.src (t := 31) hbW2 (Nat.le_refl _) hrd
        have q1 : (F).length + [y].length ≤ maxLen := by simp [maxLen]; omega
        have q2 : ((F).length + [y].length) * 80 ≤ 140737488355328 := by simp; omega
        have hWs := hbW2.size
        go_wp2_with (at_builtin; refine Hid.out ?_)
        refine hide ?_
        refine wpList_append_any2 (C := cEntry) (xs := F) (ys := [y]) rfl (.tmp 26) (.tmp 31) _ rfl 31 i0 _ 80 Try.underlying22 hi hz0 hz1 hz2 rfl u5 0 rfl hown1.1 (some ⟨w2.heap.size, 0, none⟩) 1 1 rfl rfl hsrc q1 q2 (Nat.zero_le _) ?_
        intro v9 w9 hown9 hg9 hf9
        have hb9 : Bl W w9 := OwnF.app (hbW2.alloc _) hown1 (Nat.le_refl _) hg9
        have ho9 := hown1.next (by rw [World.size_alloc]; omega) hown9 hf9
        clear hown hown1 hsrc hown9 hg9 hf9
        go_wp2_with fail
        go_roundw
        case rel => exact ⟨hb9, k + 1, by omega, by go_num, by rw [g.out]; exact ho9⟩
        case measure => simp [intOf]; omega
    · have hkl : L.length ≤ k := by omega
      rw [List.take_of_length_le hkl] at hown
      have hFl : (L.filter (fun y => idLess y.id x.id)).length ≤ l.length := Nat.le_trans (List.length_filter_le _ _) hll
      generalize L.filter (fun y => idLess y.id x.id) = F1 at *
      have hat := at0.bl hbl
      obtain ⟨z0, z1, z2, z3, z4, z5, z6, z7⟩ := hat.cells
      have hrx : cEntry.rd W (Fresh 0 W) x (entryCells x S sc G gc) := ⟨hxo, S, sc, G, gc, hx.l1, hx.l2, hx.l3, hx.l4, rfl, hx.hS, hx.hG⟩
      have hown1 := hown.bl ((Bl.refl wr).alloc (.cells (entryCells x S sc G gc).toArray 31))
      have hsrc := hown.src (t := 31) hbl (Nat.le_refl _) hrx
      have q1 : F1.length + [x].length ≤ maxLen := by simp [maxLen]; omega
      have q2 : (F1.length + [x].length) * 80 ≤ 140737488355328 := by simp; omega
      have hWs := hbl.size
      go_wp2_with (at_builtin; refine Hid.out ?_)
      refine hide ?_
      refine wpList_append_any2 (C := cEntry) (xs := F1) (ys := [x]) rfl (.tmp 33) (.tmp 35) _ rfl 31 i0 _ 80 Try.underlying22 hi hz0 hz1 hz2 rfl u5 0 rfl hown1.1 (some ⟨wr.heap.size, 0, none⟩) 1 1 rfl rfl hsrc q1 q2 (Nat.zero_le _) ?_
      intro v9 w9 hown9 hg9 hf9
      have hb9 : Bl W w9 := OwnF.app (hbl.alloc _) hown1 (Nat.le_refl _) hg9
      have ho9 := hown1.next (by rw [World.size_alloc]; omega) hown9 hf9
      clear hown hown1 hsrc hown9 hg9 hf9 z0 z1 z2 z3 z4 z5 z6 z7 hat hbl hrx q1 q2
      go_upto_region 10 with fail
      clear hsz0
      go_loopw [5, 7] (fun v i wr => Bl W wr ∧ ∃ k : Nat, k ≤ L.length ∧ i = .int .i64 k ∧ OwnF W.heap.size wr v (F1 ++ [x] ++ (L.take k).filter (fun y => idLess x.id y.id))) (fun _ i _ => L.length - (intOf i).toNat)
      case atStart => exact ⟨hb9, 0, Nat.zero_le _, rfl, by simpa using ho9⟩
      case round =>
      clear ho9 hb9 hkl hlt hk
      obtain ⟨hbl, k, hk, rfl, hown⟩ := hrel
      have hbw := hw0.trans hbl
      by_cases hlt : k < L.length
      · obtain ⟨b, off, rfl, _, hbb⟩ := hB.addr (by omega)
        obtain ⟨y, hy⟩ := get_lt hlt
        obtain ⟨S1, sc1, G1, gc1, hrd, c0, c1, c2, c3, c4, c5, c6, c7⟩ := hB.rdEntry hy
        have hot := fil_take (fun y => idLess x.id y.id) hy
        have hFl : ((L.take k).filter (fun y => idLess x.id y.id)).length ≤ l.length := Nat.le_trans (Nat.le_trans (List.length_filter_le _ _) (by rw [List.length_take]; omega)) hll
        clear hy
        have hat := at0.bl hbl
        obtain ⟨z0, z1, -, -, -, -, -, -⟩ := hat.cells
        have hzlt := hat.lt
        have C0 := fun p : Wd wr => Wd.cell ((hbl.cell hbb).trans c0) (by have := hbl.size; omega) p
        have C1 := fun p : Wd wr => Wd.cell ((hbl.cell hbb).trans c1) (by have := hbl.size; omega) p
        have X0 := fun p : Wd wr => Wd.cell z0 hzlt p
        have X1 := fun p : Wd wr => Wd.cell z1 hzlt p
        clear z0 z1
        have hi1 : (k : Int) < (L.length : Int) := by omega
        have hi0 : (0 : Int) ≤ (k : Int) := by omega
        have hless := fun V => refLess05 x.id y.id V
        cases hq : idLess x.id y.id
        · rw [hq] at hless
          replace hless := hide hless
          have g := hide (hot.1 hq)
          clear hq hot
          go_wp2
          (refine wp_region_wd (by kernel_rfl) (by kernel_rfl) ?_
           repeat (go_big_quiet_step ((go_at_call 81; exact Calls.wd (hless.out _))))
           refine wpQuiet_nil ?_
           intro w2 hw'
           obtain ⟨⟨wx, hb2⟩, hw''⟩ := hw'
           subst hw'')
          go_wp2
          go_roundw
          case rel => exact ⟨hbl.trans hb2, k + 1, by omega, by go_num, by rw [g.out]; exact hown.bl hb2⟩
          case measure => simp [intOf]; omega
        · rw [hq] at hless
          replace hless := hide hless
          have g := hide (hot.2 hq)
          clear hq hot
          generalize (L.take k).filter (fun y => idLess x.id y.id) = F at *
          go_wp2
          (refine wp_region_wd (by kernel_rfl) (by kernel_rfl) ?_
           repeat (go_big_quiet_step ((go_at_call 81; exact Calls.wd (hless.out _))))
           refine wpQuiet_nil ?_
           intro w2 hw'
           obtain ⟨⟨wx, hb2⟩, hw''⟩ := hw'
           subst hw'')
          have hbW2 := hbl.trans hb2
          replace c0 := (hbW2.cell hbb).trans c0
          replace c1 := (hbW2.cell hbb).trans c1
          replace c2 := (hbW2.cell hbb).trans c2
          replace c3 := (hbW2.cell hbb).trans c3
          replace c4 := (hbW2.cell hbb).trans c4
          replace c5 := (hbW2.cell hbb).trans c5
          replace c6 := (hbW2.cell hbb).trans c6
          replace c7 := (hbW2.cell hbb).trans c7
          clear C0 C1 X0 X1
          replace hown := hown.bl hb2
          have hown1 := hown.bl ((Bl.refl w2).alloc (.cells (entryCells y S1 sc1 G1 gc1).toArray 31))
          have hsrc := hown.src (t := 31) hbW2 (Nat.le_refl _) hrd
          have q1 : (F1 ++ [x] ++ F).length + [y].length ≤ maxLen := by simp [maxLen]; omega
          have q2 : ((F1 ++ [x] ++ F).length + [y].length) * 80 ≤ 140737488355328 := by simp; omega
          have hWs := hbW2.size
          go_wp2_with (at_builtin; refine Hid.out ?_)
          refine hide ?_
          refine wpList_append_any2 (C := cEntry) (xs := F1 ++ [x] ++ F) (ys := [y]) rfl (.tmp 51) (.tmp 56) _ rfl 31 i0 _ 80 Try.underlying22 hi hz0 hz1 hz2 rfl u5 0 rfl hown1.1 (some ⟨w2.heap.size, 0, none⟩) 1 1 rfl rfl hsrc q1 q2 (Nat.zero_le _) ?_
          intro v9 w9 hown9 hg9 hf9
          have hb9 : Bl W w9 := OwnF.app (hbW2.alloc _) hown1 (Nat.le_refl _) hg9
          have ho9 := hown1.next (by rw [World.size_alloc]; omega) hown9 hf9
          clear hown hown1 hsrc hown9 hg9 hf9
          go_wp2_with fail
          go_roundw
          case rel => exact ⟨hb9, k + 1, by omega, by go_num, by rw [g.out, ← List.append_assoc]; exact ho9⟩
          case measure => simp [intOf]; omega
      · have hkl : L.length ≤ k := by omega
        go_wp2
        go_ret
        rw [List.take_of_length_le hkl, ← hwl.out] at hown
        obtain ⟨A', c', rfl, hr, h1, h2⟩ := hown.reads
        exact ⟨A', c', rfl, h1, h2, hr, hw0.trans hbl⟩
end Go.Proofs.Ytegmddgbdjlidaa

namespace Go.Proofs.Ytegmddgbdjlidaa
open Go.RowKit

set_option maxRecDepth 100000 in
set_option maxHeartbeats 2000000 in
theorem refPut19 (A : Option Addr) (c : Nat) (l : List Entry) (x : Entry) (S G : Option Addr) (sc gc : Nat) (w : World) (hl : l.length ≤ 1048000) (hA : R cEntry 0 w A l) (hxo : x.ok) (hx : Held w x S sc G gc) :
    Calls Try.prog 43 #[.slice A l.length c, .agg #[.int .u32 x.id.t, .int .u8 x.id.r, .bool x.ready, .bool x.pin, .int .i64 x.used, .bool x.known, .slice S x.snap.length sc, .slice G x.got.length gc]] w (New2 cEntry (putL l x) (putN l x) w) := by
  have hchk := fun W (hb : Bl w W) => refMay19 A c l W (by unfold maxLen; omega) (hA.bl hb)
  have hone := fun W (hb : Bl w W) => refOne19 x S G sc gc W hxo (Nat.le_trans hx.l1 hx.l2) (Nat.le_trans hx.l3 hx.l4) (hx.hS.bl hb)
  have hwith := fun W (hb : Bl w W) => refWith19 A c l x S G sc gc W hl (hA.bl hb) hxo (hx.bl hb)
  have hV0 : Bl w (w.alloc (.cells #[Value.int IntKind.u32 x.id.t, Value.int IntKind.u8 x.id.r, Value.bool x.ready, Value.bool x.pin, Value.int IntKind.i64 x.used, Value.bool x.known, Value.slice S x.snap.length sc, Value.slice G x.got.length gc] 31)) := (Bl.refl _).alloc _
  have at0 := EntAt.new w x S sc G gc 31
  obtain ⟨L, hL⟩ : ∃ L, L = putL l x := ⟨_, rfl⟩
  obtain ⟨N, hN⟩ : ∃ N, N = putN l x := ⟨_, rfl⟩
  rw [← hL, ← hN]
  have hpn := put_n (l := l) (x := x)
  rw [← hN] at hpn
  cases hm : shelfMay l
  · have e2 : N = 8 := by rw [hpn, hm]; rfl
    have e1 : L = [] := by rw [hL]; unfold putL; rw [← hN, e2]; rfl
    subst e1 e2
    rw [hm] at hchk
    replace hchk := hide hchk
    clear hL hN hm at0 hpn
    go_enter Try.func43, Try.ntmps43
    go_wp2_with fail
    refine (hchk.out _ hV0).mono ?_
    rintro e w1 ⟨rfl, hb1⟩
    go_wp2_with fail
    go_ret2
    exact ⟨none, 0, rfl, Nat.le_refl _, Nat.zero_le _, R.nil, hV0.trans hb1⟩
  rw [hm] at hchk
  replace hchk := hide hchk
  cases hxm : entryMay x
  · have e2 : N = 8 := by rw [hpn, hm, hxm]; rfl
    have e1 : L = [] := by rw [hL]; unfold putL; rw [← hN, e2]; rfl
    subst e1 e2
    rw [hxm] at hone
    replace hone := hide hone
    clear hL hN hm hxm hpn
    go_enter Try.func43, Try.ntmps43
    go_wp2_with fail
    refine (hchk.out _ hV0).mono ?_
    rintro e w1 ⟨rfl, hb1⟩
    obtain ⟨x0, x1, x2, x3, x4, x5, x6, x7⟩ := (at0.bl hb1).cells
    go_wp2_with fail
    refine (hone.out _ (hV0.trans hb1)).mono ?_
    rintro e w2 ⟨rfl, hb2⟩
    go_wp2_with fail
    go_ret2
    exact ⟨none, 0, rfl, Nat.le_refl _, Nat.zero_le _, R.nil, (hV0.trans hb1).trans hb2⟩
  rw [hxm] at hone
  replace hone := hide hone
  replace hpn : N = if 65 < (withL l x).length then 9 else 0 := by rw [hpn, hm, hxm]; rfl
  by_cases hbig : 65 < (withL l x).length
  · have e2 : N = 9 := by rw [hpn, if_pos hbig]
    have e1 : L = [] := by rw [hL]; unfold putL; rw [← hN, e2]; rfl
    subst e1 e2
    generalize withL l x = M at *
    replace hwith := hide hwith
    clear hL hN hm hxm hpn
    have hbig' : (65 : Int) < (M.length : Int) := by omega
    go_enter Try.func43, Try.ntmps43
    go_wp2_with fail
    refine (hchk.out _ hV0).mono ?_
    rintro e w1 ⟨rfl, hb1⟩
    obtain ⟨x0, x1, x2, x3, x4, x5, x6, x7⟩ := (at0.bl hb1).cells
    go_wp2_with fail
    refine (hone.out _ (hV0.trans hb1)).mono ?_
    rintro e w2 ⟨rfl, hb2⟩
    clear x0 x1 x2 x3 x4 x5 x6 x7
    obtain ⟨x0, x1, x2, x3, x4, x5, x6, x7⟩ := (at0.bl (hb1.trans hb2)).cells
    go_wp2_with fail
    refine (hwith.out _ ((hV0.trans hb1).trans hb2)).mono ?_
    rintro e w3 ⟨B, d, rfl, -, -, -, hb3⟩
    go_wp2_with fail
    go_ret2
    exact ⟨none, 0, rfl, Nat.le_refl _, Nat.zero_le _, R.nil, ((hV0.trans hb1).trans hb2).trans hb3⟩
  · have e2 : N = 0 := by rw [hpn, if_neg hbig]
    subst e2
    have hML : withL l x = L := by rw [hL, put_with hN.symm]
    have hsm : smallS (withL l x) := may_small (put_may hN.symm).2.2
    clear hL hN hm hxm hpn
    rw [hML] at hwith hbig hsm
    have hbig' : ¬ (65 : Int) < (L.length : Int) := by omega
    replace hsm := hide hsm
    replace hwith := hide hwith
    clear hML
    go_enter Try.func43, Try.ntmps43
    go_wp2_with fail
    refine (hchk.out _ hV0).mono ?_
    rintro e w1 ⟨rfl, hb1⟩
    obtain ⟨x0, x1, x2, x3, x4, x5, x6, x7⟩ := (at0.bl hb1).cells
    go_wp2_with fail
    refine (hone.out _ (hV0.trans hb1)).mono ?_
    rintro e w2 ⟨rfl, hb2⟩
    clear x0 x1 x2 x3 x4 x5 x6 x7
    obtain ⟨x0, x1, x2, x3, x4, x5, x6, x7⟩ := (at0.bl (hb1.trans hb2)).cells
    go_wp2_with fail
    refine (hwith.out _ ((hV0.trans hb1).trans hb2)).mono ?_
    rintro e w3 ⟨B, d, rfl, -, -, hB, hb3⟩
    have hw3 := ((hV0.trans hb1).trans hb2).trans hb3
    clear x0 x1 x2 x3 x4 x5 x6 x7
    go_wp2_with fail
    refine (refTwin19 B d L _ hsm.out hB).mono ?_
    rintro e w4 ⟨B4, d4, rfl, j1, j2, hr4, hb4⟩
    go_wp2_with fail
    go_ret2
    exact ⟨B4, d4, rfl, j1, j2, hr4.more hw3.size, hw3.trans hb4⟩

set_option maxRecDepth 100000 in
set_option maxHeartbeats 2000000 in
theorem refDrop19 (A : Option Addr) (c : Nat) (l : List Entry) (s : Id) (w : World) (hl : l.length ≤ 1048000) (hA : R cEntry 0 w A l) :
    Calls Try.prog 44 #[.slice A l.length c, .agg #[.int .u32 s.t, .int .u8 s.r]] w (New2 cEntry (dropL l s) (dropN l s) w) := by
  have hchk := fun W (hb : Bl w W) => refMay19 A c l W (by unfold maxLen; omega) (hA.bl hb)
  have hof := fun W (hb : Bl w W) => refOf19 A c l s W (by omega) (hA.bl hb)
  have hwo := fun W (hb : Bl w W) => refWithout19 A c l s W (by omega) (hA.bl hb)
  have hV0 : Bl w (w.alloc (.cells #[Value.int IntKind.u32 s.t, Value.int IntKind.u8 s.r] 25)) := (Bl.refl _).alloc _
  have at0 := IdAt.new w s
  obtain ⟨L, hL⟩ : ∃ L, L = dropL l s := ⟨_, rfl⟩
  obtain ⟨N, hN⟩ : ∃ N, N = dropN l s := ⟨_, rfl⟩
  rw [← hL, ← hN]
  have hpn := drop_n (l := l) (s := s)
  rw [← hN] at hpn
  cases hm : shelfMay l
  · have e2 : N = 8 := by rw [hpn, hm]; rfl
    have e1 : L = [] := by rw [hL]; unfold dropL; rw [← hN, e2]; rfl
    subst e1 e2
    rw [hm] at hchk
    replace hchk := hide hchk
    clear hL hN hm at0 hpn
    go_enter Try.func44, Try.ntmps44
    go_wp2_with fail
    refine (hchk.out _ hV0).mono ?_
    rintro e w1 ⟨rfl, hb1⟩
    go_wp2_with fail
    go_ret2
    exact ⟨none, 0, rfl, Nat.le_refl _, Nat.zero_le _, R.nil, hV0.trans hb1⟩
  rw [hm] at hchk
  replace hchk := hide hchk
  replace hpn : N = if ofB l s = true then 0 else 190 := by rw [hpn, hm]; rfl
  cases hob : ofB l s
  · have e2 : N = 190 := by rw [hpn, hob]; rfl
    have e1 : L = [] := by rw [hL]; unfold dropL; rw [← hN, e2]; rfl
    subst e1 e2
    rw [hob] at hof
    generalize ofE l s = y at *
    replace hof := hide hof
    clear hL hN hm hpn hob hwo
    go_enter Try.func44, Try.ntmps44
    go_wp2_with fail
    refine (hchk.out _ hV0).mono ?_
    rintro e w1 ⟨rfl, hb1⟩
    obtain ⟨y0, y1, -, -⟩ := at0.bl hb1
    go_wp2_with fail
    refine (hof.out _ (hV0.trans hb1)).mono ?_
    rintro e w2 ⟨A2, c2, B2, d2, rfl, -, hb2⟩
    go_wp2_with fail
    go_ret2
    exact ⟨none, 0, rfl, Nat.le_refl _, Nat.zero_le _, R.nil, ((hV0.trans hb1).trans hb2).alloc _⟩
  · have e2 : N = 0 := by rw [hpn, hob]; rfl
    subst e2
    have hML : outL l s = L := by rw [hL, drop_out hN.symm]
    have hsm : smallS (outL l s) := may_small (may_out s hm)
    rw [hML] at hwo hsm
    rw [hob] at hof
    generalize ofE l s = y at *
    replace hof := hide hof
    replace hsm := hide hsm
    replace hwo := hide hwo
    clear hL hN hm hpn hob hML
    go_enter Try.func44, Try.ntmps44
    go_wp2_with fail
    refine (hchk.out _ hV0).mono ?_
    rintro e w1 ⟨rfl, hb1⟩
    obtain ⟨y0, y1, -, -⟩ := at0.bl hb1
    go_wp2_with fail
    refine (hof.out _ (hV0.trans hb1)).mono ?_
    rintro e w2 ⟨A2, c2, B2, d2, rfl, -, hb2⟩
    have hw2 := (hV0.trans hb1).trans hb2
    have hV2 := hw2.alloc (.cells #[Value.int IntKind.u32 y.id.t, Value.int IntKind.u8 y.id.r, Value.bool y.ready, Value.bool y.pin, Value.int IntKind.i64 y.used, Value.bool y.known, Value.slice A2 y.snap.length c2, Value.slice B2 y.got.length d2] 31)
    clear y0 y1
    obtain ⟨y0, y1, -, -⟩ := at0.bl (hb1.trans hb2)
    have hlt := (at0.bl (hb1.trans hb2)).lt
    go_wp2_with fail
    refine (hwo.out _ hV2).mono ?_
    rintro e w3 ⟨B, d, rfl, -, -, hB, hb3⟩
    have hw3 := hV2.trans hb3
    clear y0 y1
    go_wp2_with fail
    refine (refTwin19 B d L _ hsm.out hB).mono ?_
    rintro e w4 ⟨B4, d4, rfl, j1, j2, hr4, hb4⟩
    go_wp2_with fail
    go_ret2
    exact ⟨B4, d4, rfl, j1, j2, hr4.more hw3.size, hw3.trans hb4⟩

set_option maxRecDepth 100000 in
set_option maxHeartbeats 1000000 in
theorem refAmong19 (A : Option Addr) (c : Nat) (l : List Id) (s : Id) (w : World) (hl : l.length ≤ 140737488355328) (hA : R cId 0 w A l) :
    Calls Try.prog 105 #[.slice A l.length c, .agg #[.int .u32 s.t, .int .u8 s.r]] w fun e w' => e = .returned (.bool (memId l s)) ∧ Bl w w' := by
  have heq := run_eqId
  go_enter Try.func105, Try.ntmps105
  go_upto_region 2 with fail
  have hV0 : Bl w (w.alloc (.cells #[Value.int IntKind.u32 s.t, Value.int IntKind.u8 s.r] 25)) := (Bl.refl _).alloc _
  have at0 := IdAt.new w s
  generalize w.alloc (.cells #[Value.int IntKind.u32 s.t, Value.int IntKind.u8 s.r] 25) = W at *
  go_loopw [5] (fun i wr => Bl W wr ∧ ∃ k : Nat, k ≤ l.length ∧ i = .int .i64 k ∧ Hid (memId l s = memId (l.drop k) s)) (fun i _ => l.length - (intOf i).toNat)
  case atStart => exact ⟨Bl.refl _, 0, Nat.zero_le _, rfl, rfl⟩
  case round =>
    obtain ⟨hbl, k, hk, rfl, hf⟩ := hrel
    have hbw := hV0.trans hbl
    by_cases hlt : k < l.length
    · have hR := hA.bl hbw
      obtain ⟨b, off, rfl, _, hb⟩ := hR.addr (by omega)
      obtain ⟨x, hx⟩ := get_lt hlt
      obtain ⟨_, _, c0, c1⟩ := hR.id hx
      have hd := hide (drop_cons hx)
      have C0 := fun p : Wd wr => Wd.cell c0 hb p
      have C1 := fun p : Wd wr => Wd.cell c1 hb p
      have S0 := fun p : Wd wr => Wd.cell (at0.bl hbl).c0 (at0.bl hbl).lt p
      have S1 := fun p : Wd wr => Wd.cell (at0.bl hbl).c1 (at0.bl hbl).lt p
      have hi : (k : Int) < (l.length : Int) := by omega
      have hi0 : (0 : Int) ≤ (k : Int) := by omega
      clear c0 c1 hx
      cases hq : neqId x s
      · have hq' : (!neqId x s) = true := by rw [hq]; rfl
        have g := hide (show memId l s = true by rw [hf.out, hd.out]; simp [memId, neqId_false hq])
        clear hq
        go_wp2
        (refine wp_region_wd (by kernel_rfl) (by kernel_rfl) ?_
         repeat (go_big_quiet_step ((fail)))
         refine wpQuiet_nil ?_
         intro w2 hw'
         obtain ⟨⟨wx, hb2⟩, hw''⟩ := hw'
         subst hw'')
        go_wp2
        go_ret
        exact ⟨ret_bool g.out.symm, hbw.trans hb2⟩
      · have hq' : (!neqId x s) = false := by rw [hq]; rfl
        have hne : ¬ x = s := neqId_true hq
        have g := hide (show memId l s = memId (l.drop (k + 1)) s by rw [hf.out, hd.out]; simp [memId, hne])
        clear hq hne
        go_wp2
        (refine wp_region_wd (by kernel_rfl) (by kernel_rfl) ?_
         repeat (go_big_quiet_step ((fail)))
         refine wpQuiet_nil ?_
         intro w2 hw'
         obtain ⟨⟨wx, hb2⟩, hw''⟩ := hw'
         subst hw'')
        go_wp2
        go_roundw
        case rel => exact ⟨hbl.trans hb2, k + 1, by omega, by go_num, g⟩
        case measure => simp [intOf]; omega
    · have hkl : l.length ≤ k := by omega
      have g : Hid (memId l s = false) := by rw [Hid, hf.out, List.drop_eq_nil_of_le hkl]; rfl
      go_wp2
      go_ret
      exact ⟨ret_bool g.out.symm, hbw⟩
end Go.Proofs.Ytegmddgbdjlidaa

namespace Go.Proofs.Ytegmddgbdjlidaa
open Go.RowKit

/-- Where the one to go stands; -1: there is none. -/
def AtSt (l : List Entry) : Option Entry → Int → Prop
  | none, n => n = -1
  | some y, n => ∃ j : Nat, n = j ∧ l[j]? = some y

set_option maxRecDepth 100000 in
set_option maxHeartbeats 4000000 in
theorem refGoes19 (A K : Option Addr) (c kc : Nat) (l : List Entry) (keep : List Id) (w : World) (hl : l.length ≤ 1099511627776) (hk : keep.length ≤ 140737488355328) (hA : R cEntry 0 w A l) (hK : R cId 0 w K keep) :
    Calls Try.prog 78 #[.slice A l.length c, .slice K keep.length kc] w (IdB (vicId (l.foldl (vicStep keep) none)) (l.foldl (vicStep keep) none).isSome w) := by
  obtain ⟨r, hr⟩ : ∃ r, r = l.foldl (vicStep keep) none := ⟨_, rfl⟩
  rw [← hr]
  replace hr := hide hr
  have hamo := fun x W (hb : Bl w W) => refAmong19 K kc keep x W hk (hK.bl hb)
  go_enter Try.func78, Try.ntmps78
  go_upto_region 3 with fail
  have hV0 : Bl w (w.alloc (.cells #[Value.int IntKind.u32 0, Value.int IntKind.u8 0] 25)) := (Bl.refl _).alloc _
  have at0 : IdAt (w.alloc (.cells #[Value.int IntKind.u32 0, Value.int IntKind.u8 0] 25)) w.heap.size ⟨0, 0⟩ := IdAt.new w ⟨0, 0⟩
  generalize w.alloc (.cells #[Value.int IntKind.u32 0, Value.int IntKind.u8 0] 25) = W at *
  go_loopw [6, 7] (fun a i wr => Bl W wr ∧ ∃ (k : Nat) (n : Int) (st : Option Entry), k ≤ l.length ∧ i = .int .i64 k ∧ a = .int .i64 n ∧ AtSt l st n ∧ Hid (st = (l.take k).foldl (vicStep keep) none)) (fun _ i _ => l.length - (intOf i).toNat)
  case atStart => exact ⟨Bl.refl _, 0, -1, none, Nat.zero_le _, rfl, rfl, rfl, rfl⟩
  case round =>
    obtain ⟨hbl, k, n, st, hkn, rfl, rfl, hat, hst⟩ := hrel
    have hbw := hV0.trans hbl
    by_cases hlt : k < l.length
    · have hR := hA.bl hbw
      obtain ⟨b, off, rfl, _, hb⟩ := hR.addr (by omega)
      obtain ⟨x, hx⟩ := get_lt hlt
      obtain ⟨_, ho, S, sc, G, gc, q1, q2, q3, q4, hS, hG, c0, c1, c2, c3, c4, c5, c6, c7⟩ := hR.entry hx
      have hvt := hide (vic_take (keep := keep) hx)
      have hi0 : (0 : Int) ≤ (k : Int) := by omega
      have hi1 : (k : Int) < (l.length : Int) := by omega
      cases hp : x.pin
      · rw [hp] at c3
        have hmem := hamo x.id
        cases hmm : memId keep x.id
        · have hsy : staysE keep x = false := by unfold staysE; rw [hp, hmm]; rfl
          rw [hmm] at hmem
          replace hmem := hide hmem
          clear hp hmm
          go_wp2_with fail
          refine (hmem.out _ hbw).mono ?_
          rintro e w1 ⟨rfl, hb1⟩
          have hbl1 := hbl.trans hb1
          have hb01 := hbw.trans hb1
          have C4 := fun p : Wd w1 => Wd.cell ((hb1.cell hb).trans c4) (by have := hb1.size; omega) p
          clear c0 c1 c2 c3 c4 c5 c6 c7
          cases st with
          | none =>
            obtain rfl : n = -1 := hat
            have g := hide (show some x = (l.take (k + 1)).foldl (vicStep keep) none by rw [hvt.out, ← hst.out]; unfold vicStep; rw [hsy]; rfl)
            clear hsy hst hvt
            go_wp2
            (refine wp_region_wd (by kernel_rfl) (by kernel_rfl) ?_
             repeat (go_big_quiet_step ((fail)))
             refine wpQuiet_nil ?_
             intro w2 hw'
             obtain ⟨⟨wx, hb2⟩, hw''⟩ := hw'
             subst hw'')
            go_wp2
            go_roundw
            case rel => exact ⟨hbl1.trans hb2, k + 1, k, some x, by omega, by go_num, rfl, ⟨k, rfl, hx⟩, g⟩
            case measure => simp [intOf]; omega
          | some y =>
            obtain ⟨j, rfl, hj⟩ := hat
            have hjl : j < l.length := (List.getElem?_eq_some_iff.1 hj).1
            have hRj := hA.bl hb01
            obtain ⟨_, _, _, _, _, _, _, _, _, _, _, _, _, _, _, _, d4, _⟩ := hRj.entry hj
            have D4 := fun p : Wd w1 => Wd.cell d4 (by have := hb1.size; omega) p
            clear d4
            have hj0 : ¬ (j : Int) < 0 := by omega
            have hj2 : (0 : Int) ≤ (j : Int) := by omega
            have hj1 : (j : Int) < (l.length : Int) := by omega
            have hdj : decide ((j : Int) < 0) = false := decide_eq_false hj0
            by_cases hu : x.used < y.used
            · have hdu : decide (x.used < y.used) = true := decide_eq_true hu
              have g := hide (show some x = (l.take (k + 1)).foldl (vicStep keep) none by rw [hvt.out, ← hst.out]; unfold vicStep; rw [hsy]; show some x = if x.used < y.used then some x else some y; rw [if_pos hu])
              clear hsy hst hvt
              go_wp2
              (refine wp_region_wd (by kernel_rfl) (by kernel_rfl) ?_
               repeat (go_big_quiet_step ((fail)))
               refine wpQuiet_nil ?_
               intro w2 hw'
               obtain ⟨⟨wx, hb2⟩, hw''⟩ := hw'
               subst hw'')
              go_wp2
              go_roundw
              case rel => exact ⟨hbl1.trans hb2, k + 1, k, some x, by omega, by go_num, rfl, ⟨k, rfl, hx⟩, g⟩
              case measure => simp [intOf]; omega
            · have hdu : decide (x.used < y.used) = false := decide_eq_false hu
              have g := hide (show some y = (l.take (k + 1)).foldl (vicStep keep) none by rw [hvt.out, ← hst.out]; unfold vicStep; rw [hsy]; show some y = if x.used < y.used then some x else some y; rw [if_neg hu])
              clear hsy hst hvt
              go_wp2
              (refine wp_region_wd (by kernel_rfl) (by kernel_rfl) ?_
               repeat (go_big_quiet_step ((fail)))
               refine wpQuiet_nil ?_
               intro w2 hw'
               obtain ⟨⟨wx, hb2⟩, hw''⟩ := hw'
               subst hw'')
              go_wp2
              go_roundw
              case rel => exact ⟨hbl1.trans hb2, k + 1, j, some y, by omega, by go_num, rfl, ⟨j, rfl, hj⟩, g⟩
              case measure => simp [intOf]; omega
        · have hsy : staysE keep x = true := by unfold staysE; rw [hp, hmm]; rfl
          have g := hide (show st = (l.take (k + 1)).foldl (vicStep keep) none by rw [hvt.out, ← hst.out]; unfold vicStep; rw [hsy]; rfl)
          rw [hmm] at hmem
          replace hmem := hide hmem
          clear hp hmm hsy hst hvt
          go_wp2_with fail
          refine (hmem.out _ hbw).mono ?_
          rintro e w1 ⟨rfl, hb1⟩
          go_wp2_with fail
          go_roundw
          case rel => exact ⟨hbl.trans hb1, k + 1, n, st, by omega, by go_num, rfl, hat, g⟩
          case measure => simp [intOf]; omega
      · rw [hp] at c3
        have hsy : staysE keep x = true := by unfold staysE; rw [hp]; rfl
        have g := hide (show st = (l.take (k + 1)).foldl (vicStep keep) none by rw [hvt.out, ← hst.out]; unfold vicStep; rw [hsy]; rfl)
        clear hp hsy hst hvt
        go_wp2_with fail
        go_roundw
        case rel => exact ⟨hbl, k + 1, n, st, by omega, by go_num, rfl, hat, g⟩
        case measure => simp [intOf]; omega
    · have hkl : l.length ≤ k := by omega
      have hrs : r = st := by rw [hr.out, hst.out, List.take_of_length_le hkl]
      subst hrs
      clear hst hr
      obtain ⟨y0, y1, f0, f1⟩ := at0.bl hbl
      cases r with
      | none =>
        obtain rfl : n = -1 := hat
        go_wp2_with fail
        refine bodyPost_ret (v := .tuple #[.agg #[.int .u32 0, .int .u8 0], .bool false]) (by simp [results, Try.results78, go_sem, y0, y1]) rfl ?_
        exact ⟨rfl, (hbw.setCell (p := ⟨w.heap.size, 0, none⟩) (Nat.le_refl _) _).setCell (p := ⟨w.heap.size, 1, none⟩) (Nat.le_refl _) _⟩
      | some y =>
        obtain ⟨j, rfl, hj⟩ := hat
        have hjl : j < l.length := (List.getElem?_eq_some_iff.1 hj).1
        have hR := hA.bl hbw
        obtain ⟨b, off, rfl, _, hb⟩ := hR.addr (by omega)
        obtain ⟨_, _, _, _, _, _, _, _, _, _, _, _, d0, d1, _⟩ := hR.entry hj
        have hj0 : ¬ (j : Int) < 0 := by omega
        have hj2 : (0 : Int) ≤ (j : Int) := by omega
        have hj1 : (j : Int) < (l.length : Int) := by omega
        go_wp2_with fail
        refine bodyPost_ret (v := .tuple #[.agg #[.int .u32 y.id.t, .int .u8 y.id.r], .bool true]) (by simp [results, Try.results78, go_sem, y0, y1]) rfl ?_
        exact ⟨rfl, (hbw.setCell (p := ⟨w.heap.size, 0, none⟩) (Nat.le_refl _) _).setCell (p := ⟨w.heap.size, 1, none⟩) (Nat.le_refl _) _⟩

set_option maxRecDepth 100000 in
set_option maxHeartbeats 2000000 in
theorem refVictim19 (A K : Option Addr) (c kc : Nat) (l : List Entry) (keep : List Id) (w : World) (hl : l.length ≤ 1099511627776) (hk : keep.length ≤ 140737488355328) (hA : R cEntry 0 w A l) (hK : R cId 0 w K keep) :
    Calls Try.prog 45 #[.slice A l.length c, .slice K keep.length kc] w (IdB (vicId (victimE l keep)) (victimE l keep).isSome w) := by
  have hchk := fun W (hb : Bl w W) => refMay19 A c l W (by unfold maxLen; omega) (hA.bl hb)
  have hgo := fun W (hb : Bl w W) => refGoes19 A K c kc l keep W hl hk (hA.bl hb) (hK.bl hb)
  obtain ⟨r, hr⟩ : ∃ r, r = victimE l keep := ⟨_, rfl⟩
  rw [← hr]
  have hV0 : Bl w (w.alloc (.cells #[Value.int IntKind.u32 0, Value.int IntKind.u8 0] 25)) := (Bl.refl _).alloc _
  have at0 : IdAt (w.alloc (.cells #[Value.int IntKind.u32 0, Value.int IntKind.u8 0] 25)) w.heap.size ⟨0, 0⟩ := IdAt.new w ⟨0, 0⟩
  cases hm : shelfMay l
  · have e1 : r = none := by rw [hr]; unfold victimE; rw [hm]; rfl
    subst e1
    rw [hm] at hchk
    replace hchk := hide hchk
    clear hr hm hgo
    go_enter Try.func45, Try.ntmps45
    go_wp2_with fail
    refine (hchk.out _ hV0).mono ?_
    rintro e w1 ⟨rfl, hb1⟩
    obtain ⟨y0, y1, f0, f1⟩ := at0.bl hb1
    go_wp2_with fail
    refine bodyPost_ret (v := .tuple #[.agg #[.int .u32 0, .int .u8 0], .bool false]) (by simp [results, Try.results45, go_sem, y0, y1]) rfl ?_
    exact ⟨rfl, ((hV0.trans hb1).setCell (p := ⟨w.heap.size, 0, none⟩) (Nat.le_refl _) _).setCell (p := ⟨w.heap.size, 1, none⟩) (Nat.le_refl _) _⟩
  rw [hm] at hchk
  replace hchk := hide hchk
  by_cases hkb : 1024 < keep.length
  · have e1 : r = none := by rw [hr]; unfold victimE; rw [decide_eq_false (by omega), Bool.and_false]; rfl
    subst e1
    have hkb' : (1024 : Int) < (keep.length : Int) := by omega
    clear hr hm hgo
    go_enter Try.func45, Try.ntmps45
    go_wp2_with fail
    refine (hchk.out _ hV0).mono ?_
    rintro e w1 ⟨rfl, hb1⟩
    obtain ⟨y0, y1, f0, f1⟩ := at0.bl hb1
    go_wp2_with fail
    refine bodyPost_ret (v := .tuple #[.agg #[.int .u32 0, .int .u8 0], .bool false]) (by simp [results, Try.results45, go_sem, y0, y1]) rfl ?_
    exact ⟨rfl, ((hV0.trans hb1).setCell (p := ⟨w.heap.size, 0, none⟩) (Nat.le_refl _) _).setCell (p := ⟨w.heap.size, 1, none⟩) (Nat.le_refl _) _⟩
  have hrv : r = l.foldl (vicStep keep) none := by rw [hr]; unfold victimE; rw [hm, decide_eq_true (by omega)]; rfl
  rw [← hrv] at hgo
  replace hgo := hide hgo
  have hkb' : ¬ (1024 : Int) < (keep.length : Int) := by omega
  clear hr hm hrv
  go_enter Try.func45, Try.ntmps45
  go_wp2_with fail
  refine (hchk.out _ hV0).mono ?_
  rintro e w1 ⟨rfl, hb1⟩
  go_wp2_with fail
  refine (hgo.out _ (hV0.trans hb1)).mono ?_
  rintro e w2 ⟨rfl, hb2⟩
  obtain ⟨y0, y1, f0, f1⟩ := at0.bl (hb1.trans hb2)
  go_wp2_with fail
  refine bodyPost_ret (v := .tuple #[.agg #[.int .u32 (vicId r).t, .int .u8 (vicId r).r], .bool r.isSome]) (by simp [results, Try.results45, go_sem, y0, y1]) rfl ?_
  exact ⟨rfl, (((hV0.trans hb1).trans hb2).setCell (p := ⟨w.heap.size, 0, none⟩) (Nat.le_refl _) _).setCell (p := ⟨w.heap.size, 1, none⟩) (Nat.le_refl _) _⟩
end Go.Proofs.Ytegmddgbdjlidaa

namespace Go.Proofs.Ytegmddgbdjlidaa
open Go.RowKit

theorem Sim.bl {w w' w'' : World} (h : Sim w w') (hb : Bl w' w'') : Sim w w'' := fun b o u hu => by
  obtain ⟨⟨u', h1, h2⟩, h3⟩ := h b o u hu
  have hlt := World.block_lt_of_cell? w' _ h1
  exact ⟨⟨u', (hb.cell hlt).trans h1, h2⟩, (hb.frozen hlt).trans h3⟩
theorem Sim.ofBl {w w' : World} (hb : Bl w w') : Sim w w' := (Sim.refl w).bl hb

set_option maxRecDepth 100000 in
set_option maxHeartbeats 2000000 in
theorem spoil19G (base : Nat) (A : Option Addr) (c : Nat) (l : List Entry) (w0 w : World) (hs0 : Sim w0 w) (hl : l.length ≤ 1099511627776) (hA : R cEntry base w0 A l) :
    Calls Try.prog 22 #[.slice A l.length c] w fun e w' => (∃ v, e = .returned v) ∧ Below base w w' ∧ Sim w0 w' := by
  go_enter Try.func22, Try.ntmps22
  go_upto_region 1 with fail
  go_loopw [2] (fun i wr => Sim w0 wr ∧ Below base w wr ∧ ∃ k : Nat, k ≤ l.length ∧ i = .int .i64 k) (fun i _ => l.length - (intOf i).toNat)
  case atStart => exact ⟨hs0, Below.refl _ _, 0, Nat.zero_le _, rfl⟩
  case round =>
    obtain ⟨hsm, hB, k, hk, rfl⟩ := hrel
    by_cases hlt : k < l.length
    · obtain ⟨b, off, rfl, hlo, hb⟩ := hA.addr (by omega)
      obtain ⟨x, hx⟩ := get_lt hlt
      obtain ⟨_, ho, S, sc, G, gc, q1, q2, q3, q4, hS, hG, -, -, -, -, -, -, c6, c7⟩ := hA.entry hx
      obtain ⟨u4, f4⟩ := hA.entryUsed hx
      have hi : (k : Int) < (l.length : Int) := by omega
      have hi0 : (0 : Int) ≤ (k : Int) := by omega
      have q2' := q2
      have q4' := q4
      unfold maxLen at q2' q4'
      clear hx
      go_upto_region 4 with fail
      obtain ⟨w1, rfl⟩ : ∃ w1, w1 = wr := ⟨_, rfl⟩
      go_loopw [3] (fun i wr => Sim w0 wr ∧ Below base w wr ∧ ∃ j : Nat, j ≤ x.got.length ∧ i = .int .i64 j) (fun i _ => x.got.length - (intOf i).toNat)
      case atStart => exact ⟨hsm, hB, 0, Nat.zero_le _, rfl⟩
      case round =>
        obtain ⟨hsm, hB, j, hj, rfl⟩ := hrel
        have k7 := hsm.slice c7
        by_cases hlt2 : j < x.got.length
        · obtain ⟨g, goff, rfl, hg1, hg2⟩ := hG.addr (by omega)
          obtain ⟨v, hv⟩ := get_lt hlt2
          obtain ⟨_, hc, hf⟩ := hG.bool hv
          obtain ⟨⟨u', hc1, hku⟩, hf1⟩ := hsm g (goff + j) _ hc
          obtain ⟨v', rfl⟩ := hku.ofBool
          rw [hf] at hf1
          have hj0 : (j : Int) < (x.got.length : Int) := by omega
          have hsm2 := hsm.set hc1 (Kin.bool v' (!v'))
          have hB2 := hB.setCell (p := ⟨g, goff + j, none⟩) hg1 (.bool (!v'))
          clear hv hc hf
          go_upto_region 6 with fail
          go_still_tail 16, (by kernel_rfl)
          go_wp2
          go_roundw
          case rel => exact ⟨hsm2.drew, hB2.drew, j + 1, by omega, by go_num⟩
          case measure => simp [intOf]; omega
        · go_upto_region 8 with fail
          obtain ⟨w2, rfl⟩ : ∃ w2, w2 = wr := ⟨_, rfl⟩
          go_loopw [4] (fun i wr => Sim w0 wr ∧ Below base w wr ∧ ∃ j : Nat, j ≤ x.snap.length ∧ i = .int .i64 j) (fun i _ => x.snap.length - (intOf i).toNat)
          case atStart => exact ⟨hsm, hB, 0, Nat.zero_le _, rfl⟩
          case round =>
            clear k7
            obtain ⟨hsm, hB, j3, hj3, rfl⟩ := hrel
            have k6 := hsm.slice c6
            by_cases hlt3 : j3 < x.snap.length
            · obtain ⟨g, goff, rfl, hg1, hg2⟩ := hS.addr (by omega)
              obtain ⟨v, hv⟩ := get_lt hlt3
              obtain ⟨_, hc, hf⟩ := hS.timesR hv
              obtain ⟨⟨u', hc1, hku⟩, hf1⟩ := hsm g (goff + j3 * 2) _ hc
              obtain ⟨v', rfl⟩ := hku.ofU8
              rw [hf] at hf1
              have hj0 : (j3 : Int) < (x.snap.length : Int) := by omega
              have hsm2 := hsm.set hc1 (Kin.u8 v' 77)
              have hB2 := hB.setCell (p := ⟨g, goff + j3 * 2, none⟩) hg1 (.int .u8 77)
              clear hv hc hf
              go_wp2
              go_roundw
              case rel => exact ⟨hsm2, hB2, j3 + 1, by omega, by go_num⟩
              case measure => simp [intOf]; omega
            · obtain ⟨⟨u', hc1, hku⟩, hf1⟩ := hsm b (off + k * 8 + 4) _ u4
              obtain ⟨v', rfl⟩ := hku.ofI64
              rw [f4] at hf1
              have hsm2 := hsm.set hc1 (Kin.i64 v' (-7))
              have hB2 := hB.setCell (p := ⟨b, off + k * 8 + 4, none⟩) hlo (.int .i64 (-7))
              clear u4 f4
              go_wp2
              go_roundw
              case rel => exact ⟨hsm2, hB2, k + 1, by omega, by go_num⟩
              case measure => simp [intOf]; omega
    · go_wp2
      go_end0
      exact ⟨⟨_, rfl⟩, hB, hsm⟩

set_option maxRecDepth 100000 in
set_option maxHeartbeats 4000000 in
theorem shelfTells19 (l : List Entry) (x : Entry) (s : Id) (keep : List Id) (A S G K : Option Addr) (c sc gc kc : Nat) (w : World) (hl : l.length ≤ 140737488355328) (hql : QShelf l) (hA : R cEntry 0 w A l)
    (hxo : x.ok) (hH : Held w x S sc G gc) (hQ : QEntry x) (hs : s.ok) (hk : keep.length ≤ 140737488355328) (hK : R cId 0 w K keep) :
    Calls Try.prog 10 #[.slice A l.length c, .agg #[.int .u32 x.id.t, .int .u8 x.id.r, .bool x.ready, .bool x.pin, .int .i64 x.used, .bool x.known, .slice S x.snap.length sc, .slice G x.got.length gc], .agg #[.int .u32 s.t, .int .u8 s.r], .slice K keep.length kc] w fun e w' => e = .returned (.bool true) ∧ Bl w w' := by
  obtain ⟨hQ1, hQ2, hQ3⟩ := hQ
  have hQ2 := hide hQ2
  have hql := hide hql
  go_enter Try.func10, Try.ntmps10
  go_upto_region 1 with fail
  have hV0 : Bl w ((w.alloc (.cells #[Value.int IntKind.u32 x.id.t, Value.int IntKind.u8 x.id.r, Value.bool x.ready, Value.bool x.pin, Value.int IntKind.i64 x.used, Value.bool x.known, Value.slice S x.snap.length sc, Value.slice G x.got.length gc] 31)).alloc (.cells #[Value.int IntKind.u32 s.t, Value.int IntKind.u8 s.r] 25)) := ((Bl.refl _).alloc _).alloc _
  have at0 : EntAt ((w.alloc (.cells #[Value.int IntKind.u32 x.id.t, Value.int IntKind.u8 x.id.r, Value.bool x.ready, Value.bool x.pin, Value.int IntKind.i64 x.used, Value.bool x.known, Value.slice S x.snap.length sc, Value.slice G x.got.length gc] 31)).alloc (.cells #[Value.int IntKind.u32 s.t, Value.int IntKind.u8 s.r] 25)) w.heap.size x S sc G gc := (EntAt.new w x S sc G gc _).bl ((Bl.refl _).alloc _)
  have atS : IdAt ((w.alloc (.cells #[Value.int IntKind.u32 x.id.t, Value.int IntKind.u8 x.id.r, Value.bool x.ready, Value.bool x.pin, Value.int IntKind.i64 x.used, Value.bool x.known, Value.slice S x.snap.length sc, Value.slice G x.got.length gc] 31)).alloc (.cells #[Value.int IntKind.u32 s.t, Value.int IntKind.u8 s.r] 25)) (w.heap.size + 1) s := by
    have := IdAt.new (w.alloc (.cells #[Value.int IntKind.u32 x.id.t, Value.int IntKind.u8 x.id.r, Value.bool x.ready, Value.bool x.pin, Value.int IntKind.i64 x.used, Value.bool x.known, Value.slice S x.snap.length sc, Value.slice G x.got.length gc] 31)) s
    rwa [World.size_alloc] at this
  generalize (w.alloc (.cells #[Value.int IntKind.u32 x.id.t, Value.int IntKind.u8 x.id.r, Value.bool x.ready, Value.bool x.pin, Value.int IntKind.i64 x.used, Value.bool x.known, Value.slice S x.snap.length sc, Value.slice G x.got.length gc] 31)).alloc (.cells #[Value.int IntKind.u32 s.t, Value.int IntKind.u8 s.r] 25) = V at *
  go_wp2_with fail
  refine (refGreat19 A c l _ hl hql.out (hA.bl hV0)).mono ?_
  rintro e w1 ⟨b1, rfl, hfewl, hb1⟩
  replace hfewl := hide hfewl
  have hw1 := hV0.trans hb1
  cases b1
  rotate_left
  · go_wp2_with fail
    go_ret
    exact ⟨rfl, hw1⟩
  obtain ⟨x0, x1, x2, x3, x4, x5, x6, x7⟩ := (at0.bl hb1).cells
  go_wp2_with fail
  clear x0 x1 x2 x3 x4 x5 x6 x7
  refine (refGreat08 S sc x.snap _ hQ1 hQ2.out (hH.hS.bl hw1)).mono ?_
  rintro e w2 ⟨b2, rfl, hfew, hb2⟩
  have hb02 := hb1.trans hb2
  have hw2 := hV0.trans hb02
  obtain ⟨x0, x1, x2, x3, x4, x5, x6, x7⟩ := (at0.bl hb02).cells
  cases b2
  rotate_left
  · go_wp2_with fail
    go_ret
    exact ⟨rfl, hw2⟩
  by_cases hg : 300 < x.got.length
  · go_wp2_with fail
    go_ret
    exact ⟨rfl, hw2⟩
  by_cases hkl : 2000 < keep.length
  · go_wp2_with fail
    go_ret
    exact ⟨rfl, hw2⟩
  have hkm : keep.length ≤ maxLen := by unfold maxLen; omega
  have hal : l.length ≤ 80 := (hfewl.out (by first | rfl | trivial)).1
  have hsm := hide (fewS_small (hfewl.out (by first | rfl | trivial)))
  clear hfewl hfew hql
  go_wp2_with fail
  clear x0 x1 x2 x3 x4 x5 x6 x7
  refine (refTwin19 A c l _ hsm.out (hA.bl hw2)).mono ?_
  rintro e w3 ⟨A3, c3, rfl, m1, m2, hr3, hb3⟩
  have hw3 := hw2.trans hb3
  have h03 := hb02.trans hb3
  have hr3' := hr3.zero
  obtain ⟨x0, x1, x2, x3, x4, x5, x6, x7⟩ := (at0.bl h03).cells
  go_wp2_with fail
  clear x0 x1 x2 x3 x4 x5 x6 x7
  have hput := shelfPut A3 c3 l x S G sc gc w3 (by omega) hr3' hxo (hH.bl hw3)
  have hputr := fun W (hb : Bl w W) => refPut19 A c l x S G sc gc W (by omega) (hA.bl hb) hxo (hH.bl hb)
  have hdrp := fun W (hb : Bl w3 W) => shelfDrop A3 c3 l s W (by omega) hs (hr3'.bl hb)
  have hdrpr := fun W (hb : Bl w W) => refDrop19 A c l s W (by omega) (hA.bl hb)
  have hpl : (putL l x).length ≤ 1099511627776 := by
    have h1 : (putL l x).length ≤ l.length + 1 := by
      unfold putL
      split
      · split
        · rw [List.length_set]; omega
        · rw [List.length_append, List.length_take, List.length_cons, List.length_drop]; omega
      · simp
    omega
  have hdl : (dropL l s).length ≤ 1099511627776 := by
    have h1 : (dropL l s).length ≤ l.length + 1 := by
      unfold dropL
      split
      · rw [List.length_append, List.length_take, List.length_drop]; omega
      · simp
    omega
  generalize putL l x = L1 at *
  generalize putN l x = N1 at *
  generalize dropL l s = L2 at *
  generalize dropN l s = N2 at *
  replace hputr := hide hputr
  replace hdrp := hide hdrp
  replace hdrpr := hide hdrpr
  refine hput.mono ?_
  rintro e w4 ⟨A4, c4, rfl, -, -, hr4, hb4⟩
  have hw4 := hw3.trans hb4
  have h04 := h03.trans hb4
  obtain ⟨x0, x1, x2, x3, x4, x5, x6, x7⟩ := (at0.bl h04).cells
  go_wp2_with fail
  clear x0 x1 x2 x3 x4 x5 x6 x7
  refine (hputr.out _ hw4).mono ?_
  rintro e w5 ⟨A5, c5, rfl, -, -, hr5, hb5⟩
  have hw5 := hw4.trans hb5
  have h05 := h04.trans hb5
  have h35 := hb4.trans hb5
  obtain ⟨y0, y1, -, -⟩ := atS.bl h05
  go_wp2_with fail
  clear y0 y1
  refine (hdrp.out _ h35).mono ?_
  rintro e w6 ⟨A6, c6, rfl, -, -, hr6, hb6⟩
  have hw6 := hw5.trans hb6
  have h06 := h05.trans hb6
  obtain ⟨y0, y1, -, -⟩ := atS.bl h06
  go_wp2_with fail
  clear y0 y1
  refine (hdrpr.out _ hw6).mono ?_
  rintro e w7 ⟨A7, c7, rfl, -, -, hr7, hb7⟩
  have hw7 := hw6.trans hb7
  have h37 := (h35.trans hb6).trans hb7
  go_wp2_with fail
  have hvic := shelfVictimC A3 K c3 kc l keep w7 (by omega) hkm (hr3'.bl h37) (hK.bl hw7)
  have hvicr := fun W (hb : Bl w W) => refVictim19 A K c kc l keep W (by omega) (by omega) (hA.bl hb) (hK.bl hb)
  generalize vicId (victimE l keep) = v at *
  generalize (victimE l keep).isSome = vb at *
  replace hvicr := hide hvicr
  refine hvic.mono ?_
  rintro e w8 ⟨rfl, hb8⟩
  have hw8 := hw7.trans hb8
  go_wp2_with fail
  have at8 := IdAt.new w8 v
  have hb9 : Bl w8 (w8.alloc (.cells #[Value.int IntKind.u32 v.t, Value.int IntKind.u8 v.r] 25)) := (Bl.refl _).alloc _
  generalize w8.alloc (.cells #[Value.int IntKind.u32 v.t, Value.int IntKind.u8 v.r] 25) = w9 at *
  have hw9 := hw8.trans hb9
  refine (hvicr.out _ hw9).mono ?_
  rintro e w10 ⟨rfl, hb10⟩
  have h810 := hb9.trans hb10
  have h710 := hb8.trans h810
  go_wp2_with fail
  have at10 := IdAt.new w10 v
  have hb11 : Bl w10 (w10.alloc (.cells #[Value.int IntKind.u32 v.t, Value.int IntKind.u8 v.r] 25)) := (Bl.refl _).alloc _
  generalize w10.alloc (.cells #[Value.int IntKind.u32 v.t, Value.int IntKind.u8 v.r] 25) = w11 at *
  have h711 := h710.trans hb11
  refine (refSame19 A4 A5 c4 c5 L1 L1 _ (by unfold maxLen; omega) (by unfold maxLen; omega) (hr4.zero.bl ((hb5.trans (hb6.trans hb7)).trans h711)) (hr5.zero.bl ((hb6.trans hb7).trans h711))).mono ?_
  rw [same_self]
  rintro e w12 ⟨rfl, hb12⟩
  have e1 : (N1 == N1) = true := by simp
  have e2 : (N2 == N2) = true := by simp
  have h712 := h711.trans hb12
  go_wp2_with fail
  refine (refSame19 A6 A7 c6 c7 L2 L2 _ (by unfold maxLen; omega) (by unfold maxLen; omega) (hr6.zero.bl (hb7.trans h712)) (hr7.zero.bl h712)).mono ?_
  rw [same_self]
  rintro e w13 ⟨rfl, hb13⟩
  have h713 := h712.trans hb13
  obtain ⟨y0, y1, -, -⟩ := at8.bl ((hb10.trans hb11).trans (hb12.trans hb13))
  obtain ⟨z0, z1, -, -⟩ := at10.bl (hb12.trans hb13)
  have hes := run_eqId v v
  rw [neqId_self, Bool.not_false] at hes
  have hqb1 := run_eqBool
  have e3 : (vb == vb) = true := by simp
  go_wp2_with fail
  clear y0 y1 z0 z1
  have h613 := hb7.trans h713
  have h313 := (h35.trans hb6).trans h613
  have h36 := h35.trans hb6
  refine (spoil19G w3.heap.size A4 c4 L1 w6 _ (Sim.ofBl h613) hpl (hr4.bl (hb5.trans hb6))).mono ?_
  rintro e w14 ⟨⟨u, rfl⟩, hB14, hsim⟩
  go_wp2_with fail
  refine (spoil19G w3.heap.size A6 c6 L2 w6 _ hsim hdl (hr6.more h35.size)).mono ?_
  rintro e w15 ⟨⟨u', rfl⟩, hB15, -⟩
  have h315 : Bl w3 w15 := Below.trans (B := w3.heap.size) (Below.trans (B := w3.heap.size) h313 hB14) hB15
  go_wp2_with fail
  refine (refSameSelf l (by unfold maxLen; omega) (hr3'.bl h315) (hA.bl (hw3.trans h315))).mono ?_
  rintro e w16 ⟨rfl, hb16⟩
  go_wp2_with fail
  go_ret
  exact ⟨rfl, (hw3.trans h315).trans hb16⟩
end Go.Proofs.Ytegmddgbdjlidaa
