/-
  The walks of layer 19's references Without and With (out of XTells19m, over ShelfK).
-/
import Derived.Test.YteoodmilcpmmpaaGreatShelfK
namespace Go.Proofs.YteoodmilcpmmpaaGreat

open Go.RowKit

/-- A list in a row of the call's own; what its elements lead to lies anywhere. -/
def OwnF (base : Nat) (w : World) (v : Value) (xs : List Entry) : Prop := Own cEntry 62 0 w v xs ∧ ∀ b, v.ownBlock = some b → base ≤ b

theorem OwnF.nil {base : Nat} {w : World} : OwnF base w (.slice none 0 0) [] := ⟨Own.nil, fun b h => by cases h⟩

theorem OwnF.bl {base : Nat} {w w' : World} {v : Value} {xs : List Entry} (h : OwnF base w v xs) (hb : Bl w w') : OwnF base w' v xs := ⟨h.1.bl hb, h.2⟩

theorem OwnF.app {a b c : World} {v : Value} {xs : List Entry} {base : Nat} (h : Bl a b) (ho : OwnF base b v xs) (hb : a.heap.size ≤ base) (hg : b.grownBy c v.ownBlock) : Bl a c := Below.grown h hg h.size (fun k hk => Nat.le_trans hb (ho.2 k hk))

theorem OwnF.next {base : Nat} {w w' : World} {v v' : Value} {xs ys : List Entry} (ho : OwnF base w v xs) (hb : base ≤ w.heap.size) (h2 : Own cEntry 62 0 w' v' ys) (hf : Far w v w' v') : OwnF base w' v' ys :=
  ⟨h2, fun b hb2 => Nat.le_of_not_lt fun hlt => (hf.2 b (Nat.lt_of_lt_of_le hlt hb) (fun e => by have := ho.2 b e; omega)).2 hb2⟩

theorem OwnF.src {base : Nat} {w0 w : World} {v : Value} {xs : List Entry} {x : Entry} {cs : List Value} {t : TypeId} (ho : OwnF base w v xs) (hb : Bl w0 w) (hbase : w0.heap.size ≤ base) (h : cEntry.rd w0 (Fresh 0 w0) x cs) :
    ∃ news, RdL cEntry (w.alloc (.cells cs.toArray t)) (fun b => (0 ≤ b ∧ b < (w.alloc (.cells cs.toArray t)).heap.size) ∧ v.ownBlock ≠ some b) [x] news ∧ (∀ ad, some (⟨w.heap.size, 0, none⟩ : Addr) = some ad → ∀ (j : Nat) (u : Value), news[j]? = some u → (w.alloc (.cells cs.toArray t)).cell? (ad.add j) = some u) ∧ (some (⟨w.heap.size, 0, none⟩ : Addr) = none → [x] = []) := by
  refine ⟨cs, RdL.one1 (cEntry.keep (((hb.alloc _)).keeps fun b h => h.2) (fun b h => ⟨⟨Nat.zero_le _, Nat.lt_of_lt_of_le h.2 (hb.alloc _).size⟩, fun e => ?_⟩) h), fun ad e j u hu => ?_, fun e => by cases e⟩
  · have := ho.2 b e
    have := h.2
    omega
  cases e
  have hadd : (⟨w.heap.size, 0, none⟩ : Addr).add j = ⟨w.heap.size, j, none⟩ := by
    unfold Addr.add
    split
    · rename_i h0; subst h0; rfl
    · simp
  rw [hadd, cell_of_row _ w.heap.size j cs.toArray t (0, 0) (heap_alloc_new w _)]
  simpa using hu

theorem OwnF.reads {base : Nat} {w : World} {v : Value} {xs : List Entry} (h : OwnF base w v xs) : ∃ A c, v = .slice A xs.length c ∧ R cEntry 0 w A xs ∧ xs.length ≤ c ∧ c ≤ maxLen := h.1.reads

/-- What a call that hands back a list says, whose elements stand anywhere. -/
def NewSh (l : List Entry) (w : World) (e : Ending) (w' : World) : Prop := ∃ A c, e = .returned (.slice A l.length c) ∧ l.length ≤ c ∧ c ≤ maxLen ∧ R cEntry 0 w' A l ∧ Bl w w'

theorem R.rdEntry {w : World} {b off k : Nat} {l : List Entry} {x : Entry} {lo : Nat} (h : R cEntry lo w (some ⟨b, off, none⟩) l) (hk : l[k]? = some x) :
    ∃ A c B d, cEntry.rd w (Fresh lo w) x (entryCells x A c B d) ∧
      w.cell? ⟨b, off + k * 8, none⟩ = some (.int .u32 x.id.t) ∧ w.cell? ⟨b, off + k * 8 + 1, none⟩ = some (.int .u8 x.id.r) ∧ w.cell? ⟨b, off + k * 8 + 2, none⟩ = some (.bool x.ready) ∧
      w.cell? ⟨b, off + k * 8 + 3, none⟩ = some (.bool x.pin) ∧ w.cell? ⟨b, off + k * 8 + 4, none⟩ = some (.int .i64 x.used) ∧ w.cell? ⟨b, off + k * 8 + 5, none⟩ = some (.bool x.known) ∧
      w.cell? ⟨b, off + k * 8 + 6, none⟩ = some (.slice A x.snap.length c) ∧ w.cell? ⟨b, off + k * 8 + 7, none⟩ = some (.slice B x.got.length d) := by
  obtain ⟨_, ho, A, c, B, d, a1, a2, a3, a4, hr, hs, c0, c1, c2, c3, c4, c5, c6, c7⟩ := h.entry hk
  exact ⟨A, c, B, d, ⟨ho, A, c, B, d, a1, a2, a3, a4, rfl, hr, hs⟩, c0, c1, c2, c3, c4, c5, c6, c7⟩

theorem out_take {l : List Entry} {k : Nat} {x : Entry} {s : Id} (h : l[k]? = some x) : (x.id = s → outL (l.take (k + 1)) s = outL (l.take k) s) ∧ (x.id ≠ s → outL (l.take (k + 1)) s = outL (l.take k) s ++ [x]) := by
  rw [take_snoc h, out_app]
  constructor
  · intro e; unfold outL; simp [e]
  · intro e; unfold outL; simp [e]

theorem fil_take {l : List Entry} {k : Nat} {x : Entry} (p : Entry → Bool) (h : l[k]? = some x) : (p x = false → (l.take (k + 1)).filter p = (l.take k).filter p) ∧ (p x = true → (l.take (k + 1)).filter p = (l.take k).filter p ++ [x]) := by
  rw [take_snoc h, List.filter_append]
  constructor
  · intro e; simp [e]
  · intro e; simp [e]

set_option maxRecDepth 100000 in
set_option maxHeartbeats 2000000 in
theorem refWithout19 (A : Option Addr) (c : Nat) (l : List Entry) (s : Id) (w : World) (hl : l.length ≤ 1048576) (hA : R cEntry 0 w A l) :
    Calls Tryz.prog 192 #[.slice A l.length c, .agg #[.int .u32 s.t, .int .u8 s.r]] w (NewSh (outL l s) w) := by
  obtain ⟨i0, hi, hz0, hz1, hz2⟩ := info_parts Tryz.infoEntry
  go_enter Tryz.func192, Tryz.ntmps192
  go_upto_region 3 with fail
  have hV0 : Bl w (w.alloc (.cells #[Value.int IntKind.u32 s.t, Value.int IntKind.u8 s.r] 25)) := (Bl.refl _).alloc _
  have at0 := IdAt.new w s
  have hsz0 : (w.alloc (.cells #[Value.int IntKind.u32 s.t, Value.int IntKind.u8 s.r] 25)).heap.size = w.heap.size + 1 := World.size_alloc _ _
  generalize w.alloc (.cells #[Value.int IntKind.u32 s.t, Value.int IntKind.u8 s.r] 25) = W at *
  go_loopw [5, 6] (fun v i wr => Bl W wr ∧ ∃ k : Nat, k ≤ l.length ∧ i = .int .i64 k ∧ OwnF W.heap.size wr v (outL (l.take k) s)) (fun _ i _ => l.length - (intOf i).toNat)
  case atStart => exact ⟨Bl.refl _, 0, Nat.zero_le _, rfl, OwnF.nil⟩
  case round =>
    obtain ⟨hbl, k, hk, rfl, hown⟩ := hrel
    have hbw := hV0.trans hbl
    by_cases hlt : k < l.length
    · obtain ⟨b, off, rfl, _, hbb⟩ := hA.addr (by omega)
      obtain ⟨x, hx⟩ := get_lt hlt
      obtain ⟨S, sc, G, gc, hrd, c0, c1, c2, c3, c4, c5, c6, c7⟩ := hA.rdEntry hx
      have hot := out_take (s := s) hx
      have hFl : (outL (l.take k) s).length ≤ l.length := Nat.le_trans (List.length_filter_le _ _) (by rw [List.length_take]; omega)
      clear hx
      have C0 := fun p : Wd wr => Wd.cell ((hbw.cell hbb).trans c0) (by have := hbw.size; omega) p
      have C1 := fun p : Wd wr => Wd.cell ((hbw.cell hbb).trans c1) (by have := hbw.size; omega) p
      have S0 := fun p : Wd wr => Wd.cell (at0.bl hbl).c0 (by have := hbl.size; omega) p
      have S1 := fun p : Wd wr => Wd.cell (at0.bl hbl).c1 (by have := hbl.size; omega) p
      have hi1 : (k : Int) < (l.length : Int) := by omega
      have hi0 : (0 : Int) ≤ (k : Int) := by omega
      have hne := run_neqId x.id s
      cases hq : neqId x.id s
      · rw [hq] at hne
        have g := hide (hot.1 (neqId_false hq))
        clear hq hot
        go_wp2
        (refine wp_region_wd (by kernel_rfl) (by kernel_rfl) ?_
         repeat (go_big_quiet_step ((fail)))
         refine wpQuiet_nil ?_
         intro w2 hw'
         obtain ⟨⟨wx, hb2⟩, hw''⟩ := hw'
         subst hw'')
        go_wp2
        go_roundw
        case rel => exact ⟨hbl.trans hb2, k + 1, by omega, by go_num, by rw [g.out]; exact hown.bl hb2⟩
        case measure => simp [intOf]; omega
      · rw [hq] at hne
        have g := hide (hot.2 (neqId_true hq))
        clear hq hot
        generalize outL (l.take k) s = F at *
        go_wp2
        (refine wp_region_wd (by kernel_rfl) (by kernel_rfl) ?_
         repeat (go_big_quiet_step ((fail)))
         refine wpQuiet_nil ?_
         intro w2 hw'
         obtain ⟨⟨wx, hb2⟩, hw''⟩ := hw'
         subst hw'')
        have hb02 := hbw.trans hb2
        have hbW2 := hbl.trans hb2
        replace c0 := (hb02.cell hbb).trans c0
        replace c1 := (hb02.cell hbb).trans c1
        replace c2 := (hb02.cell hbb).trans c2
        replace c3 := (hb02.cell hbb).trans c3
        replace c4 := (hb02.cell hbb).trans c4
        replace c5 := (hb02.cell hbb).trans c5
        replace c6 := (hb02.cell hbb).trans c6
        replace c7 := (hb02.cell hbb).trans c7
        clear C0 C1 S0 S1
        replace hown := hown.bl hb2
        have hown1 := hown.bl ((Bl.refl w2).alloc (.cells (entryCells x S sc G gc).toArray 62))
        have hsrc := hown.src (t := 62) hb02 (by omega) hrd
        have q1 : F.length + [x].length ≤ maxLen := by simp [maxLen]; omega
        have q2 : (F.length + [x].length) * 80 ≤ 140737488355328 := by simp; omega
        have hWs := hbW2.size
        go_wp2_with (at_builtin; refine Hid.out ?_)
        refine hide ?_
        refine wpList_append_any2 (C := cEntry) (xs := F) (ys := [x]) rfl (.tmp 20) (.tmp 25) _ rfl 62 i0 _ 80 Tryz.underlying56 hi hz0 hz1 hz2 rfl u5 0 rfl hown1.1 (some ⟨w2.heap.size, 0, none⟩) 1 1 rfl rfl hsrc q1 q2 (Nat.zero_le _) ?_
        intro v9 w9 hown9 hg9 hf9
        have hb9 : Bl W w9 := OwnF.app (hbW2.alloc _) hown1 (Nat.le_refl _) hg9
        have ho9 := hown1.next (by rw [World.size_alloc]; omega) hown9 hf9
        clear hown hown1 hsrc hown9 hg9 hf9
        go_wp2_with fail
        go_roundw
        case rel => exact ⟨hb9, k + 1, by omega, by go_num, by rw [g.out]; exact ho9⟩
        case measure => simp [intOf]; omega
    · have hkl : l.length ≤ k := by omega
      go_wp2
      go_ret
      rw [List.take_of_length_le hkl] at hown
      obtain ⟨A', c', rfl, hr, h1, h2⟩ := hown.reads
      exact ⟨A', c', rfl, h1, h2, hr, hbw⟩

set_option maxRecDepth 100000 in
set_option maxHeartbeats 4000000 in
theorem refWith19 (A : Option Addr) (c : Nat) (l : List Entry) (x : Entry) (S G : Option Addr) (sc gc : Nat) (w : World) (hl : l.length ≤ 1048000) (hA : R cEntry 0 w A l) (hxo : x.ok) (hx : Held w x S sc G gc) :
    Calls Tryz.prog 190 #[.slice A l.length c, .agg #[.int .u32 x.id.t, .int .u8 x.id.r, .bool x.ready, .bool x.pin, .int .i64 x.used, .bool x.known, .slice S x.snap.length sc, .slice G x.got.length gc]] w (NewSh (withL l x) w) := by
  obtain ⟨i0, hi, hz0, hz1, hz2⟩ := info_parts Tryz.infoEntry
  go_enter Tryz.func190, Tryz.ntmps190
  go_upto_region 1 with fail
  have hV0 : Bl w (w.alloc (.cells #[Value.int IntKind.u32 x.id.t, Value.int IntKind.u8 x.id.r, Value.bool x.ready, Value.bool x.pin, Value.int IntKind.i64 x.used, Value.bool x.known, Value.slice S x.snap.length sc, Value.slice G x.got.length gc] 62)) := (Bl.refl _).alloc _
  have at0 := EntAt.new w x S sc G gc 62
  have hsz0 : (w.alloc (.cells #[Value.int IntKind.u32 x.id.t, Value.int IntKind.u8 x.id.r, Value.bool x.ready, Value.bool x.pin, Value.int IntKind.i64 x.used, Value.bool x.known, Value.slice S x.snap.length sc, Value.slice G x.got.length gc] 62)).heap.size = w.heap.size + 1 := World.size_alloc _ _
  generalize w.alloc (.cells #[Value.int IntKind.u32 x.id.t, Value.int IntKind.u8 x.id.r, Value.bool x.ready, Value.bool x.pin, Value.int IntKind.i64 x.used, Value.bool x.known, Value.slice S x.snap.length sc, Value.slice G x.got.length gc] 62) = V at *
  obtain ⟨x0, x1, -, -, -, -, -, -⟩ := at0.cells
  go_wp2_with fail
  refine (refWithout19 A c l x.id V (by omega) (hA.bl hV0)).mono ?_
  have hwl : withL l x = (outL l x.id).filter (fun y => idLess y.id x.id) ++ [x] ++ (outL l x.id).filter (fun y => idLess x.id y.id) := by unfold withL; simp
  have hll : (outL l x.id).length ≤ l.length := List.length_filter_le _ _
  generalize outL l x.id = L at *
  replace hwl := hide hwl
  rintro e W ⟨B, d, rfl, -, -, hB, hbW⟩
  clear x0 x1
  have hw0 := hV0.trans hbW
  replace at0 := at0.bl hbW
  have hsz1 := hbW.size
  replace hx : Held W x S sc G gc := hx.bl hw0
  clear hbW
  go_upto_region 4 with fail
  go_loopw [5, 6] (fun v i wr => Bl W wr ∧ ∃ k : Nat, k ≤ L.length ∧ i = .int .i64 k ∧ OwnF W.heap.size wr v ((L.take k).filter (fun y => idLess y.id x.id))) (fun _ i _ => L.length - (intOf i).toNat)
  case atStart => exact ⟨Bl.refl _, 0, Nat.zero_le _, rfl, OwnF.nil⟩
  case round =>
    obtain ⟨hbl, k, hk, rfl, hown⟩ := hrel
    have hbw := hw0.trans hbl
    by_cases hlt : k < L.length
    · obtain ⟨b, off, rfl, _, hbb⟩ := hB.addr (by omega)
      obtain ⟨y, hy⟩ := get_lt hlt
      obtain ⟨S1, sc1, G1, gc1, hrd, c0, c1, c2, c3, c4, c5, c6, c7⟩ := hB.rdEntry hy
      have hot := fil_take (fun y => idLess y.id x.id) hy
      have hFl : ((L.take k).filter (fun y => idLess y.id x.id)).length ≤ l.length := Nat.le_trans (Nat.le_trans (List.length_filter_le _ _) (by rw [List.length_take]; omega)) hll
      clear hy
      have hat := at0.bl hbl
      obtain ⟨z0, z1, -, -, -, -, -, -⟩ := hat.cells
      have hzlt := hat.lt
      have C0 := fun p : Wd wr => Wd.cell ((hbl.cell hbb).trans c0) (by have := hbl.size; omega) p
      have C1 := fun p : Wd wr => Wd.cell ((hbl.cell hbb).trans c1) (by have := hbl.size; omega) p
      have X0 := fun p : Wd wr => Wd.cell z0 hzlt p
      have X1 := fun p : Wd wr => Wd.cell z1 hzlt p
      clear z0 z1
      have hi1 : (k : Int) < (L.length : Int) := by omega
      have hi0 : (0 : Int) ≤ (k : Int) := by omega
      have hless := fun V => refLess05 y.id x.id V
      cases hq : idLess y.id x.id
      · rw [hq] at hless
        replace hless := hide hless
        have g := hide (hot.1 hq)
        clear hq hot
        go_wp2
        (refine wp_region_wd (by kernel_rfl) (by kernel_rfl) ?_
         repeat (go_big_quiet_step ((go_at_call 100; exact Calls.wd (hless.out _))))
         refine wpQuiet_nil ?_
         intro w2 hw'
         obtain ⟨⟨wx, hb2⟩, hw''⟩ := hw'
         subst hw'')
        go_wp2
        go_roundw
        case rel => exact ⟨hbl.trans hb2, k + 1, by omega, by go_num, by rw [g.out]; exact hown.bl hb2⟩
        case measure => simp [intOf]; omega
      · rw [hq] at hless
        replace hless := hide hless
        have g := hide (hot.2 hq)
        clear hq hot
        generalize (L.take k).filter (fun y => idLess y.id x.id) = F at *
        go_wp2
        (refine wp_region_wd (by kernel_rfl) (by kernel_rfl) ?_
         repeat (go_big_quiet_step ((go_at_call 100; exact Calls.wd (hless.out _))))
         refine wpQuiet_nil ?_
         intro w2 hw'
         obtain ⟨⟨wx, hb2⟩, hw''⟩ := hw'
         subst hw'')
        have hbW2 := hbl.trans hb2
        replace c0 := (hbW2.cell hbb).trans c0
        replace c1 := (hbW2.cell hbb).trans c1
        replace c2 := (hbW2.cell hbb).trans c2
        replace c3 := (hbW2.cell hbb).trans c3
        replace c4 := (hbW2.cell hbb).trans c4
        replace c5 := (hbW2.cell hbb).trans c5
        replace c6 := (hbW2.cell hbb).trans c6
        replace c7 := (hbW2.cell hbb).trans c7
        clear C0 C1 X0 X1
        replace hown := hown.bl hb2
        have hown1 := hown.bl ((Bl.refl w2).alloc (.cells (entryCells y S1 sc1 G1 gc1).toArray 62))
        have hsrc := hown.src (t := 62) hbW2 (Nat.le_refl _) hrd
        have q1 : (F).length + [y].length ≤ maxLen := by simp [maxLen]; omega
        have q2 : ((F).length + [y].length) * 80 ≤ 140737488355328 := by simp; omega
        have hWs := hbW2.size
        go_wp2_with (at_builtin; refine Hid.out ?_)
        refine hide ?_
        refine wpList_append_any2 (C := cEntry) (xs := F) (ys := [y]) rfl (.tmp 26) (.tmp 31) _ rfl 62 i0 _ 80 Tryz.underlying56 hi hz0 hz1 hz2 rfl u5 0 rfl hown1.1 (some ⟨w2.heap.size, 0, none⟩) 1 1 rfl rfl hsrc q1 q2 (Nat.zero_le _) ?_
        intro v9 w9 hown9 hg9 hf9
        have hb9 : Bl W w9 := OwnF.app (hbW2.alloc _) hown1 (Nat.le_refl _) hg9
        have ho9 := hown1.next (by rw [World.size_alloc]; omega) hown9 hf9
        clear hown hown1 hsrc hown9 hg9 hf9
        go_wp2_with fail
        go_roundw
        case rel => exact ⟨hb9, k + 1, by omega, by go_num, by rw [g.out]; exact ho9⟩
        case measure => simp [intOf]; omega
    · have hkl : L.length ≤ k := by omega
      rw [List.take_of_length_le hkl] at hown
      have hFl : (L.filter (fun y => idLess y.id x.id)).length ≤ l.length := Nat.le_trans (List.length_filter_le _ _) hll
      generalize L.filter (fun y => idLess y.id x.id) = F1 at *
      have hat := at0.bl hbl
      obtain ⟨z0, z1, z2, z3, z4, z5, z6, z7⟩ := hat.cells
      have hrx : cEntry.rd W (Fresh 0 W) x (entryCells x S sc G gc) := ⟨hxo, S, sc, G, gc, hx.l1, hx.l2, hx.l3, hx.l4, rfl, hx.hS, hx.hG⟩
      have hown1 := hown.bl ((Bl.refl wr).alloc (.cells (entryCells x S sc G gc).toArray 62))
      have hsrc := hown.src (t := 62) hbl (Nat.le_refl _) hrx
      have q1 : F1.length + [x].length ≤ maxLen := by simp [maxLen]; omega
      have q2 : (F1.length + [x].length) * 80 ≤ 140737488355328 := by simp; omega
      have hWs := hbl.size
      go_wp2_with (at_builtin; refine Hid.out ?_)
      refine hide ?_
      refine wpList_append_any2 (C := cEntry) (xs := F1) (ys := [x]) rfl (.tmp 33) (.tmp 35) _ rfl 62 i0 _ 80 Tryz.underlying56 hi hz0 hz1 hz2 rfl u5 0 rfl hown1.1 (some ⟨wr.heap.size, 0, none⟩) 1 1 rfl rfl hsrc q1 q2 (Nat.zero_le _) ?_
      intro v9 w9 hown9 hg9 hf9
      have hb9 : Bl W w9 := OwnF.app (hbl.alloc _) hown1 (Nat.le_refl _) hg9
      have ho9 := hown1.next (by rw [World.size_alloc]; omega) hown9 hf9
      clear hown hown1 hsrc hown9 hg9 hf9 z0 z1 z2 z3 z4 z5 z6 z7 hat hbl hrx q1 q2
      go_upto_region 10 with fail
      clear hsz0
      go_loopw [5, 7] (fun v i wr => Bl W wr ∧ ∃ k : Nat, k ≤ L.length ∧ i = .int .i64 k ∧ OwnF W.heap.size wr v (F1 ++ [x] ++ (L.take k).filter (fun y => idLess x.id y.id))) (fun _ i _ => L.length - (intOf i).toNat)
      case atStart => exact ⟨hb9, 0, Nat.zero_le _, rfl, by simpa using ho9⟩
      case round =>
      clear ho9 hb9 hkl hlt hk
      obtain ⟨hbl, k, hk, rfl, hown⟩ := hrel
      have hbw := hw0.trans hbl
      by_cases hlt : k < L.length
      · obtain ⟨b, off, rfl, _, hbb⟩ := hB.addr (by omega)
        obtain ⟨y, hy⟩ := get_lt hlt
        obtain ⟨S1, sc1, G1, gc1, hrd, c0, c1, c2, c3, c4, c5, c6, c7⟩ := hB.rdEntry hy
        have hot := fil_take (fun y => idLess x.id y.id) hy
        have hFl : ((L.take k).filter (fun y => idLess x.id y.id)).length ≤ l.length := Nat.le_trans (Nat.le_trans (List.length_filter_le _ _) (by rw [List.length_take]; omega)) hll
        clear hy
        have hat := at0.bl hbl
        obtain ⟨z0, z1, -, -, -, -, -, -⟩ := hat.cells
        have hzlt := hat.lt
        have C0 := fun p : Wd wr => Wd.cell ((hbl.cell hbb).trans c0) (by have := hbl.size; omega) p
        have C1 := fun p : Wd wr => Wd.cell ((hbl.cell hbb).trans c1) (by have := hbl.size; omega) p
        have X0 := fun p : Wd wr => Wd.cell z0 hzlt p
        have X1 := fun p : Wd wr => Wd.cell z1 hzlt p
        clear z0 z1
        have hi1 : (k : Int) < (L.length : Int) := by omega
        have hi0 : (0 : Int) ≤ (k : Int) := by omega
        have hless := fun V => refLess05 x.id y.id V
        cases hq : idLess x.id y.id
        · rw [hq] at hless
          replace hless := hide hless
          have g := hide (hot.1 hq)
          clear hq hot
          go_wp2
          (refine wp_region_wd (by kernel_rfl) (by kernel_rfl) ?_
           repeat (go_big_quiet_step ((go_at_call 100; exact Calls.wd (hless.out _))))
           refine wpQuiet_nil ?_
           intro w2 hw'
           obtain ⟨⟨wx, hb2⟩, hw''⟩ := hw'
           subst hw'')
          go_wp2
          go_roundw
          case rel => exact ⟨hbl.trans hb2, k + 1, by omega, by go_num, by rw [g.out]; exact hown.bl hb2⟩
          case measure => simp [intOf]; omega
        · rw [hq] at hless
          replace hless := hide hless
          have g := hide (hot.2 hq)
          clear hq hot
          generalize (L.take k).filter (fun y => idLess x.id y.id) = F at *
          go_wp2
          (refine wp_region_wd (by kernel_rfl) (by kernel_rfl) ?_
           repeat (go_big_quiet_step ((go_at_call 100; exact Calls.wd (hless.out _))))
           refine wpQuiet_nil ?_
           intro w2 hw'
           obtain ⟨⟨wx, hb2⟩, hw''⟩ := hw'
           subst hw'')
          have hbW2 := hbl.trans hb2
          replace c0 := (hbW2.cell hbb).trans c0
          replace c1 := (hbW2.cell hbb).trans c1
          replace c2 := (hbW2.cell hbb).trans c2
          replace c3 := (hbW2.cell hbb).trans c3
          replace c4 := (hbW2.cell hbb).trans c4
          replace c5 := (hbW2.cell hbb).trans c5
          replace c6 := (hbW2.cell hbb).trans c6
          replace c7 := (hbW2.cell hbb).trans c7
          clear C0 C1 X0 X1
          replace hown := hown.bl hb2
          have hown1 := hown.bl ((Bl.refl w2).alloc (.cells (entryCells y S1 sc1 G1 gc1).toArray 62))
          have hsrc := hown.src (t := 62) hbW2 (Nat.le_refl _) hrd
          have q1 : (F1 ++ [x] ++ F).length + [y].length ≤ maxLen := by simp [maxLen]; omega
          have q2 : ((F1 ++ [x] ++ F).length + [y].length) * 80 ≤ 140737488355328 := by simp; omega
          have hWs := hbW2.size
          go_wp2_with (at_builtin; refine Hid.out ?_)
          refine hide ?_
          refine wpList_append_any2 (C := cEntry) (xs := F1 ++ [x] ++ F) (ys := [y]) rfl (.tmp 51) (.tmp 56) _ rfl 62 i0 _ 80 Tryz.underlying56 hi hz0 hz1 hz2 rfl u5 0 rfl hown1.1 (some ⟨w2.heap.size, 0, none⟩) 1 1 rfl rfl hsrc q1 q2 (Nat.zero_le _) ?_
          intro v9 w9 hown9 hg9 hf9
          have hb9 : Bl W w9 := OwnF.app (hbW2.alloc _) hown1 (Nat.le_refl _) hg9
          have ho9 := hown1.next (by rw [World.size_alloc]; omega) hown9 hf9
          clear hown hown1 hsrc hown9 hg9 hf9
          go_wp2_with fail
          go_roundw
          case rel => exact ⟨hb9, k + 1, by omega, by go_num, by rw [g.out, ← List.append_assoc]; exact ho9⟩
          case measure => simp [intOf]; omega
      · have hkl : L.length ≤ k := by omega
        go_wp2
        go_ret
        rw [List.take_of_length_le hkl, ← hwl.out] at hown
        obtain ⟨A', c', rfl, hr, h1, h2⟩ := hown.reads
        exact ⟨A', c', rfl, h1, h2, hr, hw0.trans hbl⟩

end Go.Proofs.YteoodmilcpmmpaaGreat
