/-
  A map by stamps, read as the set of its stamps.
-/
import Derived.Test.YteoodmilcpmmpaaGreatBase
import Derived.Test.YteoodmilcpmmpaaGreatChecked
import Derived.Maps.Own
import Derived.Maps.Views
import Derived.Maps.OwnSet
import Derived.DeepKeys4
namespace Go.Proofs.YteoodmilcpmmpaaGreat

open Go.RowKit

theorem laidOutM : laidOutB Tryz.prog = true := by kernel_rfl

theorem wideId : (match Tryz.prog.underlying 25 with | some (.array _ _) | some (.struct _) => true | _ => false) = true := by kernel_rfl

theorem rowId : 25 < Tryz.prog.types.size := of_decide_eq_true (by kernel_rfl)

set_option maxRecDepth 100000 in
theorem keyId : Maps.Keyed Tryz.prog 25 := Maps.Keyed.of_law (deep_law_laid laidOutM (m := 2) (by omega) rowId (by kernel_rfl) wideId)

theorem keyTypeId : Tryz.prog.keyType 25 = true := by kernel_rfl

theorem cellsId : Tryz.prog.cellsOf 25 = 2 := by kernel_rfl

theorem cellsU32 : Tryz.prog.cellsOf 23 = 1 := by kernel_rfl

theorem cellsU8 : Tryz.prog.cellsOf 5 = 1 := by kernel_rfl

theorem typesMany : ∃ n, Tryz.prog.types.size = n + 1 := ⟨Tryz.prog.types.size - 1, by
  have : 0 < Tryz.prog.types.size := of_decide_eq_true (by kernel_rfl)
  omega⟩

theorem lits32 (n : Nat) {t : Int} (h0 : 0 ≤ t) (h1 : t < 4294967296) : Tryz.prog.keyLits (n + 1) 23 [.int .u32 t] = some [.int .u32 t] := by
  have hw : (Lit.int .u32 t).wf = true := by unfold Lit.wf; simp [IntKind.min, IntKind.max, IntKind.signed, IntKind.bits]; omega
  unfold Program.keyLits
  rw [Tryz.underlying23]
  simp [hw]

theorem lits8 (n : Nat) {t : Int} (h0 : 0 ≤ t) (h1 : t < 256) : Tryz.prog.keyLits (n + 1) 5 [.int .u8 t] = some [.int .u8 t] := by
  have hw : (Lit.int .u8 t).wf = true := by unfold Lit.wf; simp [IntKind.min, IntKind.max, IntKind.signed, IntKind.bits]; omega
  unfold Program.keyLits
  rw [Tryz.underlying5]
  simp [hw]

set_option maxRecDepth 100000 in
theorem keyOf_id {s : Id} (h : s.ok) : ∃ kl, keyOf Tryz.prog 25 (.agg #[.int .u32 s.t, .int .u8 s.r]) = some kl := by
  obtain ⟨n, hn⟩ := typesMany
  obtain ⟨h0, h1, h2, h3⟩ := h
  have e1 := lits32 n h0 h1
  have e2 := lits8 n h2 h3
  have hf : (Value.agg #[.int .u32 s.t, .int .u8 s.r]).formed Tryz.prog 25 = true := by simp [Value.formed, Tryz.underlying25, cellsId]
  have hk : Tryz.prog.keyLits (n + 2) 25 [.int .u32 s.t, .int .u8 s.r] = some [.int .u32 s.t, .int .u8 s.r] := by
    unfold Program.keyLits
    rw [Tryz.underlying25]
    simp [cellsId, cellsU32, cellsU8, e1, e2]
  unfold keyOf
  rw [Tryz.underlying25]
  simp only [keyTypeId, hf, Bool.and_self, if_true, hn]
  have e : (Value.agg #[.int .u32 s.t, .int .u8 s.r]).cells.toList = [.int .u32 s.t, .int .u8 s.r] := rfl
  rw [e, hk]
  exact ⟨_, rfl⟩

/-- An operation, read as itself. -/
def opElem : Value → Option (DataW Value × List MemPlace)
  | .agg cs => match cs.toList with
    | [.int .u8 _, .int .u32 _, .int .u8 _, .slice _ _ _, .int .i64 _] => some (.held (.agg cs), [])
    | _ => none
  | _ => none

theorem opElem_inv {v : Value} {z : DataW Value × List MemPlace} (h : opElem v = some z) : z.1 = .held v ∧ ∃ (a b c d : Int) (A : Option Addr) (n m : Nat), v = .agg #[.int .u8 a, .int .u32 b, .int .u8 c, .slice A n m, .int .i64 d] := by
  unfold opElem at h
  split at h
  · rename_i cs
    split at h
    · rename_i a b c A n m d e
      injection h with h
      subst h
      have e2 : cs = #[.int .u8 a, .int .u32 b, .int .u8 c, .slice A n m, .int .i64 d] := by
        rw [← Array.toArray_toList (xs := cs), e]
      exact ⟨rfl, a, b, c, d, A, n, m, by rw [e2]⟩
    · cases h
  · cases h

/-- Block b is a map of at most n entries: these stamps it has; what they lead to are operations. -/
def IdSet (w : World) (b n : Nat) (f : Id → Bool) : Prop := ∃ D : DataW Value, w.ownsMap Tryz.prog 25 opElem b n D ∧ ∀ (s : Id) (kl : Lit), keyOf Tryz.prog 25 (.agg #[.int .u32 s.t, .int .u8 s.r]) = some kl → Maps.has D kl = f s

theorem IdSet.made (w : World) : IdSet (w.alloc (.map #[] 0)) w.heap.size 0 (fun _ => false) := ⟨_, World.ownsMap_made w _ _ _, fun _ _ _ => rfl⟩

theorem IdSet.mono {w : World} {b n m : Nat} {f : Id → Bool} (h : IdSet w b n f) (hn : n ≤ m) : IdSet w b m f := let ⟨D, h1, h2⟩ := h; ⟨D, h1.mono hn, h2⟩

theorem IdSet.lt {w : World} {b n : Nat} {f : Id → Bool} (h : IdSet w b n f) : b < w.heap.size := let ⟨_, h1, _⟩ := h; h1.lt

theorem IdSet.bl {w w' : World} {b n : Nat} {f : Id → Bool} (h : IdSet w b n f) (hb : Bl w w') : IdSet w' b n f := let ⟨D, h1, h2⟩ := h; ⟨D, h1.kept hb.grown_none (by simp), h2⟩

theorem idV_inj {s q : Id} (h : (Value.agg #[.int .u32 s.t, .int .u8 s.r]) = .agg #[.int .u32 q.t, .int .u8 q.r]) : s = q := by
  simp at h
  exact Id.ext' h.1 h.2

set_option maxRecDepth 100000 in
theorem IdSet.put {w : World} {b n : Nat} {f g : Id → Bool} {s : Id} {a e c d : Int} {A : Option Addr} {m k : Nat} (h : IdSet w b n f) (hs : s.ok) (hn : n < maxLen) (hg : ∀ q, g q = (decide (q = s) || f q)) :
    ∃ w', (Instr.mapUpdate 178 (.map (some b)) (.agg #[.int .u32 s.t, .int .u8 s.r]) (.agg #[.int .u8 a, .int .u32 e, .int .u8 c, .slice A m k, .int .i64 d])).run Tryz.prog w = .ok () w' ∧ IdSet w' b (n + 1) g ∧ w.grownBy w' (some b) := by
  obtain ⟨D, hD, hf⟩ := h
  obtain ⟨kl, hkl⟩ := keyOf_id hs
  obtain ⟨w', hrun, hD', hgr⟩ := hD.update keyId Tryz.underlying178 hn hkl (val := .agg #[.int .u8 a, .int .u32 e, .int .u8 c, .slice A m k, .int .i64 d]) (d := .held (.agg #[.int .u8 a, .int .u32 e, .int .u8 c, .slice A m k, .int .i64 d])) (ps := []) rfl
  refine ⟨w', hrun, ⟨_, hD', fun q kq hq => ?_⟩, hgr⟩
  rw [hg q]
  by_cases e : q = s
  · subst e
    rw [hkl] at hq
    injection hq with hq
    subst hq
    rw [decide_eq_true rfl, Bool.true_or]
    exact Maps.has_put_same hD.isMap (keyId.key hkl) _
  · have hne : kq ≠ kl := fun h => e (idV_inj (keyId.inj hq (h ▸ hkl)))
    rw [decide_eq_false e, Bool.false_or, Maps.has_put_other hne]
    exact hf q kq hq

set_option maxRecDepth 100000 in
theorem IdSet.del {w : World} {b n : Nat} {f g : Id → Bool} {s : Id} (h : IdSet w b n f) (hs : s.ok) (hg : ∀ q, g q = (!decide (q = s) && f q)) :
    ∃ w', (∀ ty, (Builtin.delete_ #[178, 25] ty #[.map (some b), .agg #[.int .u32 s.t, .int .u8 s.r]]).run Tryz.prog w = .ok (.tuple #[]) w') ∧ IdSet w' b n g ∧ w.grownBy w' (some b) := by
  obtain ⟨D, hD, hf⟩ := h
  obtain ⟨kl, hkl⟩ := keyOf_id hs
  obtain ⟨w', hrun, hD', hgr⟩ := hD.drop keyId Tryz.underlying178 hkl 25
  refine ⟨w', fun ty => hrun, ⟨_, hD', fun q kq hq => ?_⟩, hgr.grown⟩
  rw [hg q]
  by_cases e : q = s
  · subst e
    rw [hkl] at hq
    injection hq with hq
    subst hq
    rw [decide_eq_true rfl, Bool.not_true, Bool.false_and]
    exact Maps.has_del_same
  · have hne : kq ≠ kl := fun h => e (idV_inj (keyId.inj hq (h ▸ hkl)))
    rw [decide_eq_false e, Bool.not_false, Bool.true_and, Maps.has_del_other hne]
    exact hf q kq hq

set_option maxRecDepth 100000 in
theorem zeroOpV (W : World) : (zeroValue 47).run Tryz.prog W = .ok (.agg #[.int .u8 0, .int .u32 0, .int .u8 0, .slice none 0 0, .int .i64 0]) W := by kernel_rfl

set_option maxRecDepth 100000 in
/-- v, ok := m[s]: in whatever world came of w. -/
theorem IdSet.look {w : World} {b n : Nat} {f : Id → Bool} {s : Id} (h : IdSet w b n f) (hs : s.ok) :
    ∃ (a e c d : Int) (A : Option Addr) (m k : Nat), ∀ W, Bl w W → (Instr.lookup 178 (.map (some b)) (.agg #[.int .u32 s.t, .int .u8 s.r]) true).run Tryz.prog W = .ok (.tuple #[.agg #[.int .u8 a, .int .u32 e, .int .u8 c, .slice A m k, .int .i64 d], .bool (f s)]) W := by
  obtain ⟨D, hD, hf⟩ := h
  obtain ⟨kl, hkl⟩ := keyOf_id hs
  obtain ⟨v, ps, _, hv⟩ := hD.look_ok keyId Tryz.underlying178 (zeroOpV w) (zd := .held (.agg #[.int .u8 0, .int .u32 0, .int .u8 0, .slice none 0 0, .int .i64 0])) (zp := []) rfl hkl
  obtain ⟨h1, a, e, c, d, A, m, k, rfl⟩ := opElem_inv hv
  refine ⟨a, e, c, d, A, m, k, fun W hW => ?_⟩
  obtain ⟨v', ps', hrun, hv'⟩ := (hD.kept hW.grown_none (by simp)).look_ok keyId Tryz.underlying178 (zeroOpV W) (zd := .held (.agg #[.int .u8 0, .int .u32 0, .int .u8 0, .slice none 0 0, .int .i64 0])) (zp := []) rfl hkl
  obtain ⟨h2, -⟩ := opElem_inv hv'
  have e := h2.symm.trans h1
  injection e with e
  rw [hrun, e, hf s kl hkl]

end Go.Proofs.YteoodmilcpmmpaaGreat
