/-
  Worlds that came of others, with what was drawn: what slices.SortFunc asks of a comparison. No program in sight.
-/
import Derived.Test.YteoodmilcpmmpaaGreatBox
import Derived.Sort.Grow
import Derived.Test.YteoodmilcpmmpaaGreatQuiet
namespace Go.Proofs.YteoodmilcpmmpaaGreat

open Go.RowKit

/-- Nothing that lay in w has turned; what was drawn is not put back. -/
structure Bd (w w' : World) : Prop where
  bl : Bl w w'
  dr : w.drawn ≤ w'.drawn

theorem Bd.refl (w : World) : Bd w w := ⟨Bl.refl w, Nat.le_refl _⟩

theorem Bd.trans {a b c : World} (h : Bd a b) (k : Bd b c) : Bd a c := ⟨h.bl.trans k.bl, Nat.le_trans h.dr k.dr⟩

theorem Bd.size {w w' : World} (h : Bd w w') : w.heap.size ≤ w'.heap.size := h.bl.size

theorem Bd.alloc {a w : World} (h : Bd a w) (o : Obj) : Bd a (w.alloc o) := ⟨h.bl.alloc o, h.dr⟩

theorem Bd.drew {a w : World} (h : Bd a w) : Bd a w.drew := ⟨h.bl.drew, Nat.le_trans h.dr (Nat.le_succ _)⟩

theorem Bd.drewN {a w : World} (h : Bd a w) (n : Nat) : Bd a (w.drewN n) := ⟨h.bl.drewN n, Nat.le_trans h.dr (Nat.le_add_right _ _)⟩

theorem Bd.setCell {a w : World} (h : Bd a w) {p : Addr} (hp : a.heap.size ≤ p.block) (u : Value) : Bd a (w.setCell p u) := ⟨h.bl.setCell hp u, h.dr⟩

theorem Bd.cell {w w' : World} (h : Bd w w') {b o : Nat} (hp : b < w.heap.size) : w'.cell? ⟨b, o, none⟩ = w.cell? ⟨b, o, none⟩ := h.bl.cell hp

theorem Bd.cells {w w' : World} (h : Bd w w') : ∀ b o, b < w.heap.size → w'.cell? ⟨b, o, none⟩ = w.cell? ⟨b, o, none⟩ := h.bl.cells

theorem Bd.frozen {w w' : World} (h : Bd w w') {b o : Nat} (hp : b < w.heap.size) : w'.frozen? ⟨b, o, none⟩ = w.frozen? ⟨b, o, none⟩ := h.bl.frozen hp

theorem R.bd {α : Type} {C : Codec α} {lo : Nat} {w w' : World} {A : Option Addr} {xs : List α} (h : R C lo w A xs) (hb : Bd w w') : R C lo w' A xs := h.bl hb.bl

theorem IdBox.bd {W W' : World} {Y : Nat} {s : Id} (h : IdBox W Y s) (hb : Bd W W') : IdBox W' Y s := h.bl hb.bl

theorem At.bd {w w' : World} {b off : Nat} {cs : List Value} (h : At w b off cs) (hb : Bd w w') (hn : 0 < cs.length) : At w' b off cs := h.bl hb.bl hn

/-- Blocks laid, and draws: nothing else. -/
theorem Bd.grow {w w' : World} (h : Bd w w') : ∃ q os, w' = Sort.grow (w.drewN q) os := by
  obtain ⟨⟨h1, h2, h3, h4, h5⟩, h6⟩ := h
  refine ⟨w'.drawn - w.drawn, w'.heap.extract w.heap.size w'.heap.size, ?_⟩
  have hd : w.drawn + (w'.drawn - w.drawn) = w'.drawn := Nat.add_sub_cancel' h6
  have hh : w.heap ++ w'.heap.extract w.heap.size w'.heap.size = w'.heap := by
    apply Array.ext_getElem?
    intro k
    rw [Array.getElem?_append]
    by_cases hk : k < w.heap.size
    · rw [if_pos hk]
      exact (h5 k hk).symm
    · rw [if_neg hk, Array.getElem?_extract]
      have e : w.heap.size + (k - w.heap.size) = k := by omega
      rw [e]
      by_cases hk2 : k < w'.heap.size
      · rw [if_pos (by omega)]
      · rw [if_neg (by omega), Array.getElem?_eq_none (by omega)]
  unfold Sort.grow World.drewN
  cases w'
  cases w
  simp only at *
  subst h1 h2 h3
  rw [hd, hh]

/-- A world that came of w by draws and new blocks. -/
structure Wdd (w : World) where
  v : World
  h : Bd w v

instance {w : World} : Inhabited (Wdd w) := ⟨⟨w, Bd.refl w⟩⟩

theorem wp_region_wdd {P : Program} {id : Nat} {Q : Exit → Act → World → Prop} {a : Act} {w : World} {l : List Oper} (hm : P.follows .mixedOrders = true) (hB : Region.lexB .any l.toArray = true)
    (h : wpQuiet P l.toArray (fun w' => ∃ p : Wdd w, w' = p.v) (fun a' => ∀ w', (∃ p : Wdd w, w' = p.v) → Q .normal a' w') l a) : (Code.region id l.toArray true).wp P Q a w :=
  wp_region_quiet (C := fun w' => ∃ p : Wdd w, w' = p.v) hm hB ⟨⟨w.drew, (Bd.refl w).drew⟩, rfl⟩ (by simpa using h)

theorem _root_.Go.Calls.wdd {P : Program} {f : FuncId} {args : Array Value} {w : World} {p : Wdd w} {v : Value}
    (h : Calls P f args p.v fun e w' => e = .returned v ∧ Bd p.v w') : Calls P f args p.v fun e w'' => e = .returned v ∧ ∃ q : Wdd w, w'' = q.v :=
  h.mono fun _ _ ⟨he, hb⟩ => ⟨he, ⟨⟨_, p.h.trans hb⟩, rfl⟩⟩

theorem Wdd.cell {w : World} {b o : Nat} {u : Value} (h : w.cell? ⟨b, o, none⟩ = some u) (hb : b < w.heap.size) (p : Wdd w) : p.v.cell? ⟨b, o, none⟩ = some u := (p.h.cell hb).trans h

theorem ask_drawn {α : Type} : ∀ (q : Ask α) (w : World), w.drawn ≤ (w.ask q).2.drawn
  | .done _, _ => Nat.le_refl _
  | .ask what range k, w => by
    unfold World.ask
    dsimp only
    split
    · exact ask_drawn (k 0) w
    · exact Nat.le_trans (Nat.le_succ _) (ask_drawn (k _) { w with drawn := w.drawn + 1 })

theorem sys_drawn (w : World) (c : Sys) : w.drawn ≤ (w.sys c).2.drawn := by
  unfold World.sys
  have h := ask_drawn (Kernel.perform c w.os) w
  split
  · exact Nat.le_refl _
  · rename_i r os w' e
    rw [e] at h
    exact h

theorem view_drawn {p : Program} {w w' : World} {at_ : Addr} {u : TypeId} {k : Addr} {v : Value} {atomic : Bool} {l : List Addr} (h : w.viewStore p at_ u k v atomic = .ok (w', l)) : w'.drawn = w.drawn := by
  unfold World.viewStore at h
  simp only [bind, Except.bind, pure, Except.pure] at h
  repeat' split at h
  all_goals first | (cases h; done) | (injection h with h; injection h with h _; rw [← h]) | skip

theorem far_drawn {p : Program} {w w' : World} {a : Addr} {v : Value} {atomic : Bool} {l : List Addr} (h : w.farStore p a v atomic = .ok (w', l)) : w'.drawn = w.drawn := by
  unfold World.farStore at h
  split at h
  · split at h
    · rename_i r e
      injection h with h
      subst h
      exact view_drawn e
    · cases h
  · cases h

theorem run_drawn {α : Type} {p : Program} : ∀ (s : Sem α) (w : World) (v : α) (w' : World), s.run p w = .ok v w' → w.drawn ≤ w'.drawn := by
  intro s
  induction s with
  | pure a => intro w v w' h; injection h with _ h; rw [h]; exact Nat.le_refl _
  | load m a k ih =>
    intro w v w' h
    unfold Sem.run at h
    split at h
    · exact ih _ _ _ _ h
    · split at h
      · exact ih _ _ _ _ h
      · cases h
  | store m a u k ih =>
    intro w v w' h
    cases u
    case agg => cases h
    case tuple => cases h
    all_goals
      simp only [Sem.run] at h
      split at h
      · split at h
        · cases h
        · have k1 := ih _ _ _ h
          exact k1
      · split at h
        · rename_i e
          have := far_drawn e
          have := ih _ _ _ h
          omega
        · cases h
  | new o k ih => intro w v w' h; have k1 := ih _ _ _ _ h; exact k1
  | shape r k ih => intro w v w' h; exact ih _ _ _ _ h
  | freeze a n k ih =>
    intro w v w' h
    have h1 := ih _ _ _ h
    have e : (w.freeze a n).drawn = w.drawn := by unfold World.freeze; split <;> rfl
    omega
  | frozen a k ih => intro w v w' h; exact ih _ _ _ _ h
  | getObj r k ih =>
    intro w v w' h
    unfold Sem.run at h
    split at h
    · cases h
    · exact ih _ _ _ _ h
    · cases h
  | setObj r o k ih =>
    intro w v w' h
    unfold Sem.run at h
    split at h
    · cases h
    · have k1 := ih _ _ _ h
      exact k1
    · cases h
  | choose q k ih =>
    intro w v w' h
    unfold Sem.run at h
    split at h
    · exact ih _ _ _ _ h
    · have k1 := ih _ _ _ _ h
      exact Nat.le_trans (Nat.le_succ _) k1
  | sys c k ih =>
    intro w v w' h
    have k1 := ih _ _ _ _ h
    exact Nat.le_trans (sys_drawn w c) k1
  | program k ih => intro w v w' h; exact ih _ _ _ _ h
  | mark m k ih => intro w v w' h; exact ih _ _ _ h
  | halt _ => intro w v w' h; cases h

end Go.Proofs.YteoodmilcpmmpaaGreat
