/-
  A store over a bool: what else stands in memory reads as it did.
-/
import Derived.Test.YtegmddgbdjlidaaBegin
namespace Go.Proofs.Ytegmddgbdjlidaa
open Go.RowKit

theorem ne_bool {w : World} {a p : Addr} {u : Value} {v : Bool} (ha : w.cell? a = some u) (hp : w.cell? p = some (.bool v)) (hu : ∀ v, u ≠ .bool v) : a ≠ p := by
  rintro rfl
  rw [ha] at hp
  exact hu v (Option.some.inj hp)
theorem cell_turn {w : World} {b o pb po : Nat} {u z : Value} {v : Bool} (ha : w.cell? ⟨b, o, none⟩ = some u) (hp : w.cell? ⟨pb, po, none⟩ = some (.bool v)) (hu : ∀ v, u ≠ .bool v) : (w.setCell ⟨pb, po, none⟩ z).cell? ⟨b, o, none⟩ = some u :=
  cell_set_other (ne_bool ha hp hu) ha
theorem RdL.nb {α : Type} {C : Codec α} {w : World} {S : Nat → Prop} (hC : ∀ {x cs}, C.rd w S x cs → ∀ u ∈ cs, ∀ v, u ≠ Value.bool v) : ∀ {xs : List α} {cells : List Value}, RdL C w S xs cells → ∀ u ∈ cells, ∀ v, u ≠ Value.bool v
  | [], cells, h, u, hu, v => by rw [show cells = [] from h] at hu; cases hu
  | x :: xs, cells, h, u, hu, v => by
    obtain ⟨a, b, rfl, ha, hb⟩ := h
    rcases List.mem_append.1 hu with hu | hu
    · exact hC ha u hu v
    · exact RdL.nb hC hb u hu v
theorem RdL.turn {α : Type} {C : Codec α} {w w' : World} {S : Nat → Prop} (hC : ∀ {x cs}, C.rd w S x cs → C.rd w' S x cs) : ∀ {xs : List α} {cells : List Value}, RdL C w S xs cells → RdL C w' S xs cells
  | [], _, h => h
  | _ :: _, _, h => by
    obtain ⟨a, b, rfl, ha, hb⟩ := h
    exact ⟨a, b, rfl, hC ha, RdL.turn hC hb⟩
theorem RS.turn {α : Type} {C : Codec α} {w : World} {S : Nat → Prop} {A : Option Addr} {xs : List α} {pb po : Nat} {z : Value} {v : Bool} (h : RS C w S A xs) (hp : w.cell? ⟨pb, po, none⟩ = some (.bool v))
    (hn : ∀ {x cs}, C.rd w S x cs → ∀ u ∈ cs, ∀ v, u ≠ Value.bool v) (ht : ∀ {x cs}, C.rd w S x cs → C.rd (w.setCell ⟨pb, po, none⟩ z) S x cs) : RS C (w.setCell ⟨pb, po, none⟩ z) S A xs := by
  obtain ⟨cells, hr, hs⟩ := h
  refine ⟨cells, hr.turn ht, fun hne => ?_⟩
  obtain ⟨b, off, e, hS, ha⟩ := hs hne
  exact ⟨b, off, e, hS, fun j u hu => ⟨cell_turn (ha j u hu).1 hp (hr.nb hn u (List.mem_of_getElem? hu)), by rw [World.frozen?_setCell]; exact (ha j u hu).2⟩⟩
theorem RS.turn_span {w : World} {S : Nat → Prop} {A : Option Addr} {xs : List Span} {pb po : Nat} {z : Value} {v : Bool} (h : RS cSpan w S A xs) (hp : w.cell? ⟨pb, po, none⟩ = some (.bool v)) : RS cSpan (w.setCell ⟨pb, po, none⟩ z) S A xs :=
  h.turn hp (fun h u hu v => by rw [h.2] at hu; simp at hu; rcases hu with rfl | rfl <;> simp) fun h => h
theorem RS.turn_times {w : World} {S : Nat → Prop} {A : Option Addr} {xs : List Times} {pb po : Nat} {z : Value} {v : Bool} (h : RS cTimes w S A xs) (hp : w.cell? ⟨pb, po, none⟩ = some (.bool v)) : RS cTimes (w.setCell ⟨pb, po, none⟩ z) S A xs :=
  h.turn hp (fun h u hu v => by obtain ⟨_, A, c, _, _, e, _⟩ := h; rw [e] at hu; simp at hu; rcases hu with rfl | rfl <;> simp) fun h => by
    obtain ⟨h0, A, c, h1, h2, e, hr⟩ := h
    exact ⟨h0, A, c, h1, h2, e, hr.turn_span hp⟩
theorem fresh_set {lo : Nat} {w : World} {p : Addr} {z : Value} : ∀ b, Fresh lo w b → Fresh lo (w.setCell p z) b := fun b h => ⟨h.1, by simpa [World.setCell] using h.2⟩
theorem R.turn_times {lo : Nat} {w : World} {A : Option Addr} {xs : List Times} {pb po : Nat} {z : Value} {v : Bool} (h : R cTimes lo w A xs) (hp : w.cell? ⟨pb, po, none⟩ = some (.bool v)) : R cTimes lo (w.setCell ⟨pb, po, none⟩ z) A xs :=
  (RS.turn_times (z := z) h hp).up fresh_set

theorem RdL.bools {w : World} {S : Nat → Prop} : ∀ {l : List Bool} {cells : List Value}, RdL cBool w S l cells → cells = l.map Value.bool
  | [], _, h => h
  | x :: l, _, h => by
    obtain ⟨a, b, rfl, ha, hb⟩ := h
    rw [show a = [Value.bool x] from ha, RdL.bools hb]
    rfl
theorem RdL.ofBools {w : World} {S : Nat → Prop} : ∀ (l : List Bool), RdL cBool w S l (l.map Value.bool)
  | [] => rfl
  | x :: l => ⟨[.bool x], l.map Value.bool, rfl, rfl, RdL.ofBools l⟩
/-- One of a row of bools is written. -/
theorem R.putBool {lo : Nat} {w : World} {b off k : Nat} {l : List Bool} {v : Bool} (h : R cBool lo w (some ⟨b, off, none⟩) l) (hk : k < l.length) : R cBool lo (w.setCell ⟨b, off + k, none⟩ (.bool v)) (some ⟨b, off, none⟩) (l.set k v) := by
  obtain ⟨cells, hr, hs⟩ := h
  obtain rfl := hr.bools
  obtain ⟨b', off', e, hS, ha⟩ := hs (by intro e; rw [List.map_eq_nil_iff] at e; subst e; simp at hk)
  injection e with e
  injection e with e1 e2 _
  subst e1 e2
  refine ⟨(l.set k v).map Value.bool, RdL.ofBools _, fun _ => ⟨b, off, rfl, fresh_set _ hS, fun j u hu => ⟨?_, ?_⟩⟩⟩
  · rw [List.map_set] at hu
    by_cases hj : k = j
    · subst hj
      rw [List.getElem?_set_self (by simpa using hk)] at hu
      obtain rfl := Option.some.inj hu
      exact cell_set_same (ha k _ (List.getElem?_eq_getElem (by simpa using hk))).1
    · rw [List.getElem?_set_ne hj] at hu
      exact cell_set_other (fun e => hj (by injection e with _ e; omega)) (ha j u hu).1
  · rw [World.frozen?_setCell]
    by_cases hj : j < (l.map Value.bool).length
    · exact (ha j _ (List.getElem?_eq_getElem hj)).2
    · have := (List.getElem?_eq_some_iff.1 hu).1
      simp at this hj
      omega

theorem St.mark {w V : World} {B2 B3 b off gc sc k : Nat} {y : Entry} {n : Int} {S : Option Addr} (h : St w V B2 B3 y n S sc (some ⟨b, off, none⟩) gc) (hk : k < y.got.length) :
    St w (V.setCell ⟨b, off + k, none⟩ (.bool true)) B2 B3 ⟨y.id, y.ready, y.pin, y.used, y.known, y.snap, y.got.set k true⟩ n S sc (some ⟨b, off, none⟩) gc := by
  obtain ⟨g, hg⟩ : ∃ g, y.got[k]? = some g := ⟨_, List.getElem?_eq_getElem hk⟩
  obtain ⟨⟨hb, _⟩, hc, _⟩ := h.rg.bool hg
  have hl : (y.got.set k true).length = y.got.length := List.length_set
  refine ⟨?_, cell_turn h.err hc (by simp), by rw [World.frozen?_setCell]; exact h.gerr, cell_turn h.b2 hc (by simp), cell_turn h.b3 hc (by simp), h.q2, h.q3, h.bl.setCell (by show w.heap.size ≤ b; omega) _, h.ls, ⟨by show (y.got.set k true).length ≤ gc; rw [hl]; exact h.lg.1, h.lg.2⟩, h.rs.turn_times hc, h.rg.putBool hk⟩
  have := h.ent.other (E := b) (o := off + k) (by omega) (.bool true)
  intro j u hu
  refine this j u ?_
  have he : entryCells ⟨y.id, y.ready, y.pin, y.used, y.known, y.snap, y.got.set k true⟩ S sc (some ⟨b, off, none⟩) gc = entryCells y S sc (some ⟨b, off, none⟩) gc := by unfold entryCells; rw [hl]
  rw [he] at hu
  exact hu
end Go.Proofs.Ytegmddgbdjlidaa
