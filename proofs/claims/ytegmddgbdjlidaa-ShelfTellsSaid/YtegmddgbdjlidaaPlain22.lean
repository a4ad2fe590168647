/-
  Plain laws of layer 22: what an entry is that began.
-/
import Derived.Test.YtegmddgbdjlidaaBegin
namespace Go.Proofs.Ytegmddgbdjlidaa
open Go.RowKit

theorem idsErr_may {c : List Times} (h : clockIdsErr c = 0) : clockMay c = true ∧ clockMany c ≤ 1024 := by
  unfold clockIdsErr at h
  cases hm : clockMay c
  · rw [hm] at h; simp at h
  · rw [hm] at h
    refine ⟨rfl, ?_⟩
    rw [if_pos rfl] at h
    by_cases hb : clockMany c ≤ 1024
    · exact hb
    · rw [if_neg hb] at h; simp at h
theorem chunksOf_many {c : List Times} (h : clockIdsErr c = 0) : chunksOf c = (clockMany c + 7) / 8 ∧ 0 ≤ chunksOf c := by
  obtain ⟨hm, hb⟩ := idsErr_may h
  have hall := clockFrom_all _ (show clockFrom (-1) c = true from hm)
  have hlen := clockAll_length c hall
  have he : clockIds c = clockAll c := by unfold clockIds; rw [hm, if_pos rfl, if_pos hb]
  unfold chunksOf
  rw [he]
  omega
theorem begin_zero {x : Entry} {a : List Times} (h : beginN x a = 0) : entryMay x = true ∧ clockIdsErr a = 0 ∧ x.ready = false := by
  unfold beginN at h
  cases hm : entryMay x
  · rw [hm] at h; simp at h
  · rw [hm, if_pos rfl] at h
    by_cases he : clockIdsErr a = 0
    · rw [if_pos he] at h
      cases hr : x.ready
      · exact ⟨rfl, he, rfl⟩
      · rw [hr] at h; simp at h
    · rw [if_neg he] at h
      exact absurd h he
/-- What an entry is that began. -/
theorem begun {x : Entry} {a : List Times} (h : beginN x a = 0) (hx : x.ok) :
    entryMay (beginE x a) = true ∧ (beginE x a).ok ∧ (beginE x a).id = x.id ∧ (beginE x a).pin = x.pin ∧ (beginE x a).used = x.used ∧
      (((beginE x a).ready = true ∧ (beginE x a).snap = []) ∨ ((beginE x a).ready = false ∧ (beginE x a).known = true ∧ (beginE x a).snap = a ∧ setE 0 (beginE x a) = beginE x a)) := by
  obtain ⟨hm, he, hr⟩ := begin_zero h
  obtain ⟨hcm, hcl⟩ := idsErr_may he
  obtain ⟨hch, hc0⟩ := chunksOf_many he
  have hhead : entryHead x = true := by
    unfold entryMay at hm
    rw [Bool.and_eq_true] at hm
    exact hm.1
  have hE : beginE x a = setE 0 (if x.known && same x.snap a then x else ⟨x.id, x.ready, x.pin, x.used, true, a, List.replicate (chunksOf a).toNat false⟩) := by unfold beginE; rw [if_pos h]
  rw [hE]
  clear hE
  have hb : ∃ base : Entry, (if x.known && same x.snap a then x else ⟨x.id, x.ready, x.pin, x.used, true, a, List.replicate (chunksOf a).toNat false⟩) = base ∧ base.id = x.id ∧ base.pin = x.pin ∧ base.used = x.used ∧ base.ready = false ∧ base.known = true ∧ base.snap = a ∧ entryMay base = true := by
    by_cases hq : (x.known && same x.snap a) = true
    · rw [if_pos hq]
      rw [Bool.and_eq_true] at hq
      obtain ⟨hk, hs⟩ := hq
      exact ⟨x, rfl, rfl, rfl, rfl, hr, hk, by unfold same at hs; simpa using hs, hm⟩
    · rw [if_neg hq]
      refine ⟨_, rfl, rfl, rfl, rfl, hr, rfl, rfl, ?_⟩
      unfold entryMay
      rw [Bool.and_eq_true]
      refine ⟨hhead, ?_⟩
      unfold entryTail
      simp only [if_true, hr, hcm, List.length_replicate, Bool.not_false, Bool.true_and, Bool.and_eq_true, decide_eq_true_eq]
      exact ⟨hcl, by omega⟩
  obtain ⟨base, hbe, h1, h2, h3, h4, h5, h6, h7⟩ := hb
  rw [hbe]
  clear hbe
  have hok : base.ok := by
    obtain ⟨a1, a2⟩ := hx
    exact ⟨by rw [h1]; exact a1, by rw [h3]; exact a2⟩
  unfold setE
  rw [if_pos rfl]
  by_cases hd : (base.known && !someNot base.got) = true
  · rw [if_pos hd]
    refine ⟨?_, hok, h1, h2, h3, .inl ⟨rfl, rfl⟩⟩
    unfold entryMay
    rw [Bool.and_eq_true]
    refine ⟨?_, rfl⟩
    have hh : entryHead base = true := by
      unfold entryMay at h7
      rw [Bool.and_eq_true] at h7
      exact h7.1
    exact hh
  · rw [if_neg hd]
    exact ⟨h7, hok, h1, h2, h3, .inr ⟨h4, h5, h6, by rw [if_pos rfl, if_neg hd]⟩⟩
theorem again_ready {x : Entry} {a : List Times} (h : beginN x a = 0) (hx : x.ok) (hr : (beginE x a).ready = true) : beginN (beginE x a) a = 6 ∧ (beginE x a).snap = [] := by
  obtain ⟨hm, he, _⟩ := begin_zero h
  obtain ⟨b1, _, _, _, _, ⟨_, b2⟩ | ⟨b2, _⟩⟩ := begun h hx
  · refine ⟨?_, b2⟩
    unfold beginN
    rw [b1, if_pos rfl, if_pos he, hr, if_pos rfl]
  · rw [hr] at b2; cases b2
theorem again_same {x : Entry} {a : List Times} (h : beginN x a = 0) (hx : x.ok) (hr : (beginE x a).ready = false) : beginN (beginE x a) a = 0 ∧ beginE (beginE x a) a = beginE x a ∧ (beginE x a).snap = a := by
  obtain ⟨hm, he, _⟩ := begin_zero h
  obtain ⟨b1, _, _, _, _, ⟨b2, _⟩ | ⟨_, b3, b4, b5⟩⟩ := begun h hx
  · rw [hr] at b2; cases b2
  · have h0 : beginN (beginE x a) a = 0 := by
      unfold beginN
      rw [b1, if_pos rfl, if_pos he, hr]
      rfl
    refine ⟨h0, ?_, b4⟩
    generalize beginE x a = y at *
    unfold beginE
    rw [if_pos h0, b3, show same y.snap a = true by unfold same; simpa using b4]
    exact b5
theorem again_other {y : Entry} {b : List Times} (h : beginN y b = 0) (hy : y.ok) : (beginE y b).ready = true ∨ (beginE y b).snap = b := by
  obtain ⟨_, _, _, _, _, ⟨b2, _⟩ | ⟨_, _, b4, _⟩⟩ := begun h hy
  · exact .inl b2
  · exact .inr b4
end Go.Proofs.Ytegmddgbdjlidaa
