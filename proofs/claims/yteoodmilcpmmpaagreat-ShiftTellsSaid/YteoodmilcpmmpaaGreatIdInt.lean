/-
  A map by stamps of numbers.
-/
import Derived.Test.YteoodmilcpmmpaaGreatMarkSet
namespace Go.Proofs.YteoodmilcpmmpaaGreat

open Go.RowKit

/-- Block b is a map of at most n entries: of a stamp it has this number. -/
def IdInt (w : World) (b n : Nat) (f : Id → Int) : Prop := ∃ D : DataW Value, w.ownsMap Tryz.prog 25 (plainElem Tryz.prog 3) b n D ∧ ∀ (s : Id) (kl : Lit), keyOf Tryz.prog 25 (.agg #[.int .u32 s.t, .int .u8 s.r]) = some kl → D.atKey kl (.lit (.int .i64 0)) = .lit (.int .i64 (f s))

theorem IdInt.made (w : World) : IdInt (w.alloc (.map #[] 0)) w.heap.size 0 (fun _ => 0) := ⟨_, World.ownsMap_made w _ _ _, fun _ _ _ => rfl⟩

theorem IdInt.mono {w : World} {b n m : Nat} {f : Id → Int} (h : IdInt w b n f) (hn : n ≤ m) : IdInt w b m f := let ⟨D, h1, h2⟩ := h; ⟨D, h1.mono hn, h2⟩

theorem IdInt.lt {w : World} {b n : Nat} {f : Id → Int} (h : IdInt w b n f) : b < w.heap.size := let ⟨_, h1, _⟩ := h; h1.lt

theorem IdInt.bl {w w' : World} {b n : Nat} {f : Id → Int} (h : IdInt w b n f) (hb : Bl w w') : IdInt w' b n f := let ⟨D, h1, h2⟩ := h; ⟨D, h1.kept hb.grown_none (by simp), h2⟩

theorem one_wf : (Lit.int .i64 1).wf = true := by decide

set_option maxRecDepth 100000 in
theorem IdInt.put {w : World} {b n : Nat} {f g : Id → Int} {s : Id} (h : IdInt w b n f) (hs : s.ok) (hn : n < maxLen) (hg : ∀ q, g q = if q = s then 1 else f q) :
    ∃ w', (Instr.mapUpdate 100 (.map (some b)) (.agg #[.int .u32 s.t, .int .u8 s.r]) (.int .i64 1)).run Tryz.prog w = .ok () w' ∧ IdInt w' b (n + 1) g ∧ w.grownBy w' (some b) := by
  obtain ⟨D, hD, hf⟩ := h
  obtain ⟨kl, hkl⟩ := keyOf_id hs
  obtain ⟨w', hrun, hD', hgr⟩ := hD.update keyId Tryz.underlying100 hn hkl (val := .int .i64 1) (plainElem_int Tryz.underlying3 one_wf)
  refine ⟨w', hrun, ⟨_, hD', fun q kq hq => ?_⟩, hgr⟩
  rw [hg q]
  by_cases e : q = s
  · subst e
    rw [hkl] at hq
    injection hq with hq
    subst hq
    rw [if_pos rfl]
    exact Maps.atKey_put_same hD.isMap (keyId.key hkl) _ _
  · have hne : kq ≠ kl := fun h => e (idV_inj (keyId.inj hq (h ▸ hkl)))
    rw [if_neg e, Maps.atKey_put_other hne]
    exact hf q kq hq

set_option maxRecDepth 100000 in
theorem zeroIntV (W : World) : (zeroValue 3).run Tryz.prog W = .ok (.int .i64 0) W := by kernel_rfl

set_option maxRecDepth 100000 in
/-- m[s], in whatever world came of w. -/
theorem IdInt.look {w : World} {b n : Nat} {f : Id → Int} {s : Id} (h : IdInt w b n f) (hs : s.ok) (W : World) (hW : Bl w W) :
    (Instr.lookup 100 (.map (some b)) (.agg #[.int .u32 s.t, .int .u8 s.r]) false).run Tryz.prog W = .ok (.int .i64 (f s)) W := by
  obtain ⟨D, hD, hf⟩ := h
  obtain ⟨kl, hkl⟩ := keyOf_id hs
  obtain ⟨c, hrun, hat, _⟩ := (hD.kept hW.grown_none (by simp)).lookup_int keyId Tryz.underlying100 Tryz.underlying3 (zeroIntV W) hkl
  rw [hf s kl hkl] at hat
  injection hat with hat
  injection hat with _ hat
  rw [hrun, hat]

end Go.Proofs.YteoodmilcpmmpaaGreat
