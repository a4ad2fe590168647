/-
  Plain: live marks sorted by their places are the live marks in order; which stamps a map of marks has. No program in sight.
-/
import Derived.Test.YtkolimhkfiebeaaHomePlain
namespace Go.Proofs.Ytkolimhkfiebeaa
open Go.RowKit

theorem live_sorted {l ys : List Op} (h : bagMay l = true) (hp : ys.Perm (markedF l)) (hs : ys.Pairwise fun a b => ¬ cmpIds (plAll b.pl) (plAll a.pl) < 0) : ys = livesF l := by
  have hmk : ∀ x ∈ ys, Mk x := fun x hx => marked_mk h x (hp.mem_iff.1 hx)
  have hid : ys.Pairwise fun a b => a.id ≠ b.id := (hp.pairwise_iff (fun {a b} (e : a.id ≠ b.id) => e.symm)).2 (List.Pairwise.filter _ (bagMay_parts h).2.1.ids)
  have hsr : SrtP ys := by
    refine List.Pairwise.imp_of_mem (fun {a b} ha hb hab => ?_) (hs.and hid)
    have e := (hmk b hb).cmp (hmk a ha)
    have e2 := (hmk a ha).anti (hmk b hb)
    have e3 : heldF a.pl b.pl ≠ 0 := fun e => hab.2 ((hmk a ha).zero (hmk b hb) e)
    have e4 := hab.1
    rw [← e] at e4
    omega
  exact SrtP.ext hmk hsr (lives_ok h).1 fun x => (hp.mem_iff).trans ((lives_ok h).2 x).symm

/-! ### Marks by their stamps -/

/-- Does a mark of some bear a stamp? -/
def hasMark (l : List Op) (s : Id) : Bool := l.any fun x => decide (x.kind = 2) && decide (x.id = s)

theorem hasMark_take {l : List Op} {k : Nat} {x : Op} (h : l[k]? = some x) (s : Id) : hasMark (l.take (k + 1)) s = (hasMark (l.take k) s || (decide (x.kind = 2) && decide (x.id = s))) := by
  unfold hasMark
  rw [take_snoc h, List.any_append]
  simp

theorem ended_take {l : List Op} {k : Nat} {x : Op} (h : l[k]? = some x) (s : Id) : endedF (l.take (k + 1)) s = (endedF (l.take k) s || (decide (x.kind = 4) && decide (placeFin x.pl = s))) := by
  unfold endedF
  rw [take_snoc h, List.any_append]
  simp

/-- What a map of marks has that are not joined. -/
def openMark (l : List Op) (s : Id) : Bool := hasMark l s && !endedF l s

theorem open_mark {l : List Op} (h : Srt l) {x : Op} (hx : x ∈ l) : openMark l x.id = markOf l x := by
  unfold openMark markOf
  congr 1
  rw [Bool.eq_iff_iff, decide_eq_true_eq]
  unfold hasMark
  rw [List.any_eq_true]
  constructor
  · rintro ⟨y, hy, e⟩
    rw [Bool.and_eq_true, decide_eq_true_eq, decide_eq_true_eq] at e
    rw [← srt_one h hy hx e.2]
    exact e.1
  · intro hk
    exact ⟨x, hx, by rw [decide_eq_true hk, decide_eq_true rfl]; rfl⟩

theorem marked_take {l : List Op} {k : Nat} {x : Op} (h : l[k]? = some x) (p : Op → Bool) : (l.take (k + 1)).filter p = if p x then (l.take k).filter p ++ [x] else (l.take k).filter p := by
  rw [take_snoc h, List.filter_append]
  cases hp : p x <;> simp [hp]
end Go.Proofs.Ytkolimhkfiebeaa
