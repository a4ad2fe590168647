/-
  Plain laws of FetchAll: what an entry is while chunks come.
-/
import Derived.Test.YtegmddgbdjlidaaPlain22
import Derived.Test.YtegmddgbdjlidaaTook
namespace Go.Proofs.Ytegmddgbdjlidaa
open Go.RowKit

/-- How many are false. -/
def missing : List Bool → Nat
  | [] => 0
  | b :: l => if b then missing l else missing l + 1
theorem missing_left (l : List Bool) : ∀ k, (leftFrom k l).length = missing l := by
  induction l with
  | nil => intro k; rfl
  | cons b l ih =>
    intro k
    cases b
    · simp [leftFrom, missing, ih]
    · simp [leftFrom, missing, ih]
theorem missing_someNot (l : List Bool) : someNot l = decide (0 < missing l) := by
  induction l with
  | nil => rfl
  | cons b l ih =>
    unfold someNot at *
    cases b
    · simp [missing]
    · simp [missing, ih]
theorem someNot_at {l : List Bool} {j : Nat} (h : l[j]? = some false) : someNot l = true := by
  unfold someNot
  rw [List.any_eq_true]
  exact ⟨false, List.mem_of_getElem? h, rfl⟩
theorem someNot_none {l : List Bool} (h : ∀ j, j < l.length → l[j]? = some true) : someNot l = false := by
  unfold someNot
  rw [List.any_eq_false]
  intro b hb
  obtain ⟨j, hj⟩ := List.getElem?_of_mem hb
  have := h j (List.getElem?_eq_some_iff.1 hj).1
  rw [hj] at this
  cases this
  simp

/-- The entry beside the row of what came. -/
def Along (x : Entry) (c : List Times) (got : List Bool) (y : Entry) : Prop :=
  clockIdsErr c = 0 ∧ got.length = (chunksOf c).toNat ∧ entryMay y = true ∧ y.ok ∧
    ((someNot got = true ∧ y = ⟨x.id, false, x.pin, x.used, true, c, got⟩) ∨ (someNot got = false ∧ y = ⟨x.id, true, x.pin, x.used, false, [], []⟩))
theorem along_done {x : Entry} {c : List Times} {got : List Bool} (hok : x.ok) (he : clockIdsErr c = 0) (hl : got.length = (chunksOf c).toNat) (hh : entryHead x = true) :
    Along x c got (setE 0 ⟨x.id, false, x.pin, x.used, true, c, got⟩) := by
  obtain ⟨hcm, hcl⟩ := idsErr_may he
  obtain ⟨hch, hc0⟩ := chunksOf_many he
  obtain ⟨o1, o2⟩ := hok
  unfold setE
  rw [if_pos rfl]
  cases hs : someNot got
  · rw [if_pos (by rfl)]
    refine ⟨he, hl, ?_, ⟨o1, o2⟩, .inr ⟨hs, rfl⟩⟩
    unfold entryMay
    rw [Bool.and_eq_true]
    exact ⟨hh, rfl⟩
  · rw [if_neg (by simp)]
    refine ⟨he, hl, ?_, ⟨o1, o2⟩, .inl ⟨hs, rfl⟩⟩
    unfold entryMay
    rw [Bool.and_eq_true]
    refine ⟨hh, ?_⟩
    unfold entryTail
    simp only [if_true, hcm, Bool.not_false, Bool.true_and, Bool.and_eq_true, decide_eq_true_eq]
    exact ⟨hcl, by omega⟩
theorem head_of_may {x : Entry} (h : entryMay x = true) : entryHead x = true := by
  unfold entryMay at h
  rw [Bool.and_eq_true] at h
  exact h.1
theorem along_start {x : Entry} {c : List Times} (h : beginN x c = 0) (hk : x.known = false) (hx : x.ok) : Along x c (List.replicate (chunksOf c).toNat false) (beginE x c) := by
  obtain ⟨hm, he, hr⟩ := begin_zero h
  have hE : beginE x c = setE 0 ⟨x.id, false, x.pin, x.used, true, c, List.replicate (chunksOf c).toNat false⟩ := by
    unfold beginE
    rw [if_pos h, hk, hr]
    rfl
  rw [hE]
  exact along_done hx he List.length_replicate (head_of_may hm)
theorem along_head {x y : Entry} {c : List Times} {got : List Bool} (h : Along x c got y) : entryHead x = true := by
  obtain ⟨_, _, hm, _, ⟨_, rfl⟩ | ⟨_, rfl⟩⟩ := h
  · have := head_of_may hm
    exact this
  · have := head_of_may hm
    exact this
theorem along_miss {x y : Entry} {c : List Times} {got : List Bool} {k : Int} (h : Along x c got y) (hb : cutErr c k ≠ 0 ∨ got[k.toNat]? = some true) : tookN y k (cutIds c k) = 6 := by
  obtain ⟨he, hl, hm, _, hy⟩ := h
  have hw : wants y k (cutIds c k) = false := by
    unfold wants
    rcases hb with hb | hb
    · have hk : k < 0 ∨ chunksOf c ≤ k := by
        unfold cutErr at hb
        rw [if_pos he] at hb
        by_cases hk : k < 0 ∨ chunksOf c ≤ k
        · exact hk
        · rw [if_neg hk] at hb
          exact absurd rfl hb
      rcases hk with hk | hk
      · rw [decide_eq_false (by omega)]; rfl
      · have hlen : ¬ (k < (y.got.length : Int)) := by
          obtain ⟨hch, hc0⟩ := chunksOf_many he
          rcases hy with ⟨_, rfl⟩ | ⟨_, rfl⟩
          · show ¬ (k < (got.length : Int))
            omega
          · show ¬ (k < (0 : Int))
            omega
        rw [decide_eq_false hlen]
        simp
    · rcases hy with ⟨_, rfl⟩ | ⟨_, rfl⟩
      · show (decide (0 ≤ k) && (decide (k < (got.length : Int)) && (!(got[k.toNat]?.getD true) && _))) = false
        rw [hb]
        simp
      · show (decide (0 ≤ k) && (decide (k < (0 : Int)) && _)) = false
        by_cases hk : 0 ≤ k
        · rw [decide_eq_false (show ¬ k < 0 by omega)]
          simp
        · rw [decide_eq_false hk]
          rfl
  unfold tookN
  rw [hm, hw]
  rfl
theorem along_hit {x y : Entry} {c : List Times} {got : List Bool} {k : Int} (hx : x.ok) (h : Along x c got y) (h0 : 0 ≤ k) (hb : got[k.toNat]? = some false) :
    tookN y k (cutIds c k) = 0 ∧ Along x c (got.set k.toNat true) (tookE y k (cutIds c k)) := by
  have hh := along_head h
  obtain ⟨he, hl, hm, _, ⟨_, rfl⟩ | ⟨hs, _⟩⟩ := h
  · have hlt : k.toNat < got.length := (List.getElem?_eq_some_iff.1 hb).1
    have hw : wants ⟨x.id, false, x.pin, x.used, true, c, got⟩ k (cutIds c k) = true := by
      show (decide (0 ≤ k) && (decide (k < (got.length : Int)) && (!(got[k.toNat]?.getD true) && same (cutIds c k) (cutIds c k)))) = true
      rw [decide_eq_true h0, decide_eq_true (by omega), hb]
      unfold same
      simp
    have hN : tookN ⟨x.id, false, x.pin, x.used, true, c, got⟩ k (cutIds c k) = 0 := by unfold tookN; rw [hm, hw]; rfl
    refine ⟨hN, ?_⟩
    unfold tookE
    rw [if_pos hN]
    exact along_done hx he (by rw [List.length_set]; exact hl) hh
  · rw [someNot_at hb] at hs
    cases hs
theorem along_left {x y : Entry} {c : List Times} {got : List Bool} (h : Along x c got y) : (leftOf y).length = missing got ∧ y.ready = decide (missing got = 0) := by
  obtain ⟨_, _, hm, _, ⟨hs, rfl⟩ | ⟨hs, rfl⟩⟩ := h
  · rw [missing_someNot] at hs
    refine ⟨?_, ?_⟩
    · unfold leftOf
      rw [hm, if_pos rfl]
      exact missing_left got 0
    · have := of_decide_eq_true hs
      exact (decide_eq_false (by omega)).symm
  · rw [missing_someNot] at hs
    have := of_decide_eq_false hs
    refine ⟨?_, ?_⟩
    · unfold leftOf
      rw [hm, if_pos rfl]
      show (0 : Nat) = _
      omega
    · exact (decide_eq_true (by omega)).symm
end Go.Proofs.Ytegmddgbdjlidaa
