/-
  The walk of clock.table: a map of spans by replicas.
-/
import Derived.Test.YtkolimhkfiebeaaSpanB
import Derived.Maps.Own
import Derived.Maps.Views
import Derived.Maps.OwnSet
namespace Go.Proofs.Ytkolimhkfiebeaa
open Go.RowKit

/-- An element read as itself. -/
def exactElem (v : Value) : Option (DataW Value × List MemPlace) := some (.held v, [])
/-- Block b is a map of at most n entries: what it has of a replica. -/
def MapAt (w : World) (b n : Nat) (f : Int → Value) : Prop := ∃ D, w.ownsMap Try.prog 5 exactElem b n D ∧ ∀ r, 0 ≤ r → r < 256 → D.atKey (.int .u8 r) (.held (.slice none 0 0)) = .held (f r)
theorem key8 : Maps.Keyed Try.prog 5 := Maps.int_keyed Try.underlying5
theorem key8_of {r : Int} (h0 : 0 ≤ r) (h1 : r < 256) : keyOf Try.prog 5 (.int .u8 r) = some (.int .u8 r) := Maps.keyOf_int_mk Try.underlying5 (by unfold Lit.wf; simp [IntKind.min, IntKind.max, IntKind.signed, IntKind.bits]; omega)
theorem MapAt.made (w : World) : MapAt (w.alloc (.map #[] 0)) w.heap.size 0 (fun _ => .slice none 0 0) := ⟨_, World.ownsMap_made w _ _ _, fun _ _ _ => rfl⟩
theorem MapAt.lt {w : World} {b n : Nat} {f : Int → Value} (h : MapAt w b n f) : b < w.heap.size := let ⟨_, h1, _⟩ := h; h1.lt
theorem MapAt.bl {w w' : World} {b n : Nat} {f : Int → Value} (h : MapAt w b n f) (hb : Bl w w') : MapAt w' b n f := let ⟨D, h1, h2⟩ := h; ⟨D, h1.kept hb.grown_none (by simp), h2⟩
theorem MapAt.lookup {w : World} {b n : Nat} {f : Int → Value} {r : Int} (h : MapAt w b n f) (h0 : 0 ≤ r) (h1 : r < 256) (t : TypeId) (ht : Try.prog.underlying t = some (.map 5 94)) :
    (Instr.lookup t (.map (some b)) (.int .u8 r) false).run Try.prog w = .ok (f r) w := by
  obtain ⟨D, hD, hf⟩ := h
  obtain ⟨v, ps, hrun, hv⟩ := hD.lookup key8 ht (z := .slice none 0 0) (zd := .held (.slice none 0 0)) (zp := []) (by kernel_rfl) rfl (key8_of h0 h1)
  rw [hf r h0 h1] at hv
  unfold exactElem at hv
  simp only [Option.some.injEq, Prod.mk.injEq, DataW.held.injEq] at hv
  rw [hrun, hv.1]
theorem MapAt.put {w : World} {b n : Nat} {f : Int → Value} {r : Int} {v : Value} (h : MapAt w b n f) (h0 : 0 ≤ r) (h1 : r < 256) (hn : n < maxLen) (t : TypeId) (ht : Try.prog.underlying t = some (.map 5 94)) :
    ∃ w', (Instr.mapUpdate t (.map (some b)) (.int .u8 r) v).run Try.prog w = .ok () w' ∧ MapAt w' b (n + 1) (fun q => if q = r then v else f q) ∧ w.grownBy w' (some b) := by
  obtain ⟨D, hD, hf⟩ := h
  obtain ⟨w', hrun, hD', hg⟩ := hD.update key8 ht hn (key8_of h0 h1) (val := v) (d := .held v) (ps := []) rfl
  refine ⟨w', hrun, ⟨_, hD', fun q q0 q1 => ?_⟩, hg⟩
  show _ = DataW.held (if q = r then v else f q)
  by_cases hq : q = r
  · subst hq
    rw [if_pos rfl]
    exact Maps.atKey_put_same hD.isMap (by trivial) _ _
  · rw [if_neg hq, Maps.atKey_put_other (by intro e; injection e with _ e; exact hq e)]
    exact hf q q0 q1

/-- A replica's spans, of a list in which the later ones count. -/
def tabOf (l : List Times) (r : Int) : List Span := l.foldl (fun acc x => if x.r = r then x.s else acc) []
theorem tab_take {l : List Times} {k : Nat} {x : Times} (h : l[k]? = some x) (r : Int) : tabOf (l.take (k + 1)) r = if x.r = r then x.s else tabOf (l.take k) r := by
  rw [take_snoc h]
  unfold tabOf
  rw [List.foldl_append]
  rfl
/-- What a map hands out reads as these spans. -/
def TabF (w : World) (l : List Times) (f : Int → Value) : Prop := ∀ r, ∃ A c, f r = .slice A (tabOf l r).length c ∧ (tabOf l r).length ≤ c ∧ c ≤ maxLen ∧ R cSpan 0 w A (tabOf l r)

set_option maxRecDepth 100000 in
set_option maxHeartbeats 1000000 in
theorem clockTableW (A : Option Addr) (c : Nat) (l : List Times) (w V : World) (hbV : Bl w V) (hl : l.length ≤ 140737488355328) (hA : R cTimes 0 w A l) :
    Calls Try.prog 96 #[.slice A l.length c] V fun e w' => ∃ b f, e = .returned (.map (some b)) ∧ MapAt w' b l.length f ∧ TabF w l f ∧ Bl V w' ∧ V.heap.size ≤ b := by
  have hmk : ∀ V : World, (Instr.makeMap 129 none).run Try.prog V = .ok (.map (some V.heap.size)) (V.alloc (.map #[] 0)) := fun _ => rfl
  have hbH := hide hbV
  go_enter Try.func96, Try.ntmps96
  go_wp2
  go_loopw [9] (fun i wr => Bl V wr ∧ ∃ (k : Nat) (f : Int → Value), k ≤ l.length ∧ i = .int .i64 k ∧ MapAt wr V.heap.size k f ∧ TabF w (l.take k) f) (fun i _ => l.length - (intOf i).toNat)
  case atStart => exact ⟨(Bl.refl _).alloc _, 0, _, Nat.zero_le _, rfl, MapAt.made V, fun r => ⟨none, 0, rfl, Nat.zero_le _, Nat.zero_le _, R.nil⟩⟩
  case round =>
    obtain ⟨hbl, k, f, hk, rfl, hmap, htab⟩ := hrel
    by_cases hlt : k < l.length
    · have hR := hA.bl (hbV.trans hbl)
      obtain ⟨b, off, rfl, _, hb⟩ := hR.addr (by omega)
      obtain ⟨x, hx⟩ := get_lt hlt
      obtain ⟨_, ho, B, d, hcd, hdm, c0, c1, hB⟩ := hR.times hx
      obtain ⟨_, _, B', d', hcd', hdm', c0', c1', hB'⟩ := hA.times hx
      have hki : (k : Int) < (l.length : Int) := by omega
      have hbw : b < w.heap.size := by
        obtain ⟨b2, off2, e, _, h2⟩ := hA.addr (show 0 < l.length by omega)
        cases e
        exact h2
      have e1 : B' = B ∧ d' = d := by
        have h := ((hbV.trans hbl).cell hbw).trans c1'
        rw [c1] at h
        injection h with h
        injection h with h1 _ h2
        exact ⟨h1.symm, h2.symm⟩
      obtain ⟨rfl, rfl⟩ := e1
      have hbl1 := hbl.alloc (.cells #[Value.int IntKind.u8 x.r, Value.slice B' x.s.length d'] 96)
      have hm1 := hmap.bl ((Bl.refl wr).alloc (.cells #[Value.int IntKind.u8 x.r, Value.slice B' x.s.length d'] 96))
      obtain ⟨w2, hup, hm2, hg2⟩ := hm1.put (v := .slice B' x.s.length d') ho.1 ho.2 (by unfold maxLen; omega) 129 (by kernel_rfl)
      have hbl2 : Bl V w2 := Below.grown hbl1 hg2 hbl1.size (fun j hj => by cases hj; exact Nat.le_refl _)
      have htab2 : TabF w (l.take (k + 1)) (fun q => if q = x.r then .slice B' x.s.length d' else f q) := fun r => by
        rw [tab_take hx]
        by_cases hr : r = x.r
        · subst hr
          simp only [if_true]
          exact ⟨B', d', rfl, hcd', hdm', hB'⟩
        · simp only [if_neg hr, if_neg (fun h : x.r = r => hr h.symm)]
          exact htab r
      have hfin := hide (And.intro hbl2 (And.intro hm2 htab2))
      clear hm1 hm2 hg2 hbl1 hbl2 htab2 htab hx c0' c1' hmap
      go_wp2
      go_roundw
      case rel => exact ⟨hfin.out.1, k + 1, _, by omega, by go_num, hfin.out.2.1, hfin.out.2.2⟩
      case measure => simp [intOf]; omega
    · have hkl : k = l.length := by omega
      subst hkl
      rw [List.take_length] at htab
      have hg := hide (And.intro hmap htab)
      clear hmap htab
      go_wp2
      go_ret
      exact ⟨_, _, rfl, hg.out.1, hg.out.2, hbl, Nat.le_refl _⟩

theorem clockTable (A : Option Addr) (c : Nat) (l : List Times) (w : World) (hl : l.length ≤ 140737488355328) (hA : R cTimes 0 w A l) :
    Calls Try.prog 96 #[.slice A l.length c] w fun e w' => ∃ b f, e = .returned (.map (some b)) ∧ MapAt w' b l.length f ∧ TabF w l f ∧ Bl w w' :=
  (clockTableW A c l w w (Bl.refl _) hl hA).mono fun _ _ ⟨b, f, h1, h2, h3, h4, _⟩ => ⟨b, f, h1, h2, h3, h4⟩
end Go.Proofs.Ytkolimhkfiebeaa
