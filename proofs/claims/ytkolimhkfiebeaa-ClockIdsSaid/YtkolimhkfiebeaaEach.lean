/-
  The walk of clock.each: replica by replica, whatever is done.
-/
import Derived.Test.YtkolimhkfiebeaaSetOps
import Derived.Test.YtkolimhkfiebeaaHas
namespace Go.Proofs.Ytkolimhkfiebeaa
open Go.RowKit

/-- The blocks from base on stay. -/
def Abv (base : Nat) (w w' : World) : Prop := w.heap.size ≤ w'.heap.size ∧ ∀ k, base ≤ k → k < w.heap.size → w'.heap[k]? = w.heap[k]?

theorem Bl.abv {base : Nat} {w w' : World} (h : Bl w w') : Abv base w w' := ⟨h.size, fun k _ hk => h.block k hk⟩

theorem Abv.trans {base : Nat} {a b c : World} (h : Abv base a b) (k : Abv base b c) : Abv base a c := ⟨Nat.le_trans h.1 k.1, fun i h0 hi => (k.2 i h0 (Nat.lt_of_lt_of_le hi h.1)).trans (h.2 i h0 hi)⟩

theorem Abv.keeps {base : Nat} {w w' : World} {S : Nat → Prop} (h : Abv base w w') (hS : ∀ b, S b → base ≤ b ∧ b < w.heap.size) : Keeps S w w' := fun b hb => h.2 b (hS b hb).1 (hS b hb).2

theorem Own.abv {α : Type} {C : Codec α} {e : TypeId} {base lo : Nat} {w w' : World} {v : Value} {xs : List α} (h : Own C e lo w v xs) (ha : Abv base w w') (hb : base ≤ lo) : Own C e lo w' v xs := by
  have hlt := fun b => h.lt (b := b)
  obtain ⟨cells, ⟨h1, ho⟩, hr⟩ := h
  refine ⟨cells, ⟨h1, ?_⟩, hr.keep (ha.keeps fun b k => ⟨Nat.le_trans hb k.1.1, k.1.2⟩) fun b k => ⟨⟨k.1.1, Nat.lt_of_lt_of_le k.1.2 ha.1⟩, k.2⟩⟩
  rcases ho with ho | ⟨g, cap, cur, rfl, h2, h3, h4⟩
  · exact .inl ho
  · refine .inr ⟨g, cap, cur, rfl, h2, ?_, h4⟩
    rw [ha.2 g (Nat.le_trans hb h2) (Array.getElem?_eq_some_iff.1 h3).1]
    exact h3

theorem MapAt.abv {base : Nat} {w w' : World} {b n : Nat} {f : Int → Value} (h : MapAt w b n f) (ha : Abv base w w') (hb : base ≤ b) : MapAt w' b n f := by
  have hlt := h.lt
  obtain ⟨D, ⟨es, ck, h1, h2⟩, h3⟩ := h
  exact ⟨D, ⟨es, ck, (ha.2 b hb hlt).trans h1, h2⟩, h3⟩

/-- A new block with one element's cells, as a source. -/
theorem Own.src2 {α : Type} {C : Codec α} {w w1 : World} {x : α} {xs : List α} {cs : List Value} {t e : TypeId} {v : Value} {base : Nat} (ho : Own C e base w v xs) (hbase : base ≤ w.heap.size) (h : C.rd w1 (Fresh w.heap.size w1) x cs) :
    ∃ news, RdL C (w1.alloc (.cells cs.toArray t)) (fun b => (base ≤ b ∧ b < (w1.alloc (.cells cs.toArray t)).heap.size) ∧ v.ownBlock ≠ some b) [x] news ∧ (∀ ad, some (⟨w1.heap.size, 0, none⟩ : Addr) = some ad → ∀ (j : Nat) (u : Value), news[j]? = some u → (w1.alloc (.cells cs.toArray t)).cell? (ad.add j) = some u) ∧ (some (⟨w1.heap.size, 0, none⟩ : Addr) = none → [x] = []) := by
  refine ⟨cs, RdL.one1 (C.keep (fun b hb => Below.heap_alloc w1 _ b hb.2) (fun b h => ⟨⟨Nat.le_trans hbase h.1, by have := h.2; rw [World.size_alloc]; omega⟩, fun e => ?_⟩) h), fun ad e j u hu => ?_, fun e => by cases e⟩
  · have := ho.lt e
    have := h.1
    omega
  cases e
  have hadd : (⟨w1.heap.size, 0, none⟩ : Addr).add j = ⟨w1.heap.size, j, none⟩ := by
    unfold Addr.add
    split
    · rename_i h0; subst h0; rfl
    · simp
  rw [hadd, cell_of_row _ w1.heap.size j cs.toArray t (0, 0) (heap_alloc_new w1 _)]
  simpa using hu

theorem own_not_map {α : Type} {C : Codec α} {e : TypeId} {lo b n : Nat} {w : World} {v : Value} {xs : List α} {f : Int → Value} (h : Own C e lo w v xs) (hm : MapAt w b n f) : some b ≠ v.ownBlock := by
  obtain ⟨cells, ⟨_, ho⟩, _⟩ := h
  obtain ⟨D, ⟨es, ck, h1, _⟩, _⟩ := hm
  rcases ho with ⟨rfl, _⟩ | ⟨g, cap, cur, rfl, _, h3, _⟩
  · intro e; cases e
  · intro e
    cases e
    rw [h3] at h1
    cases h1

theorem MapAt.grown {w w' : World} {b n : Nat} {f : Int → Value} {row : Option Nat} (h : MapAt w b n f) (hg : w.grownBy w' row) (hne : some b ≠ row) : MapAt w' b n f :=
  let ⟨D, h1, h2⟩ := h
  ⟨D, h1.kept hg hne, h2⟩

/-- The clock that comes of a list of spans for each replica. -/
def eachL (Ls : Nat → List Span) : Nat → List Times
  | 0 => []
  | k + 1 => eachL Ls k ++ if (Ls k).length = 0 then [] else [⟨k, Ls k⟩]

/-- The first error. -/
def eachN (Ns : Nat → Int) : Nat → Int
  | 0 => 0
  | k + 1 => if eachN Ns k = 0 then Ns k else eachN Ns k

theorem eachN_stop {Ns : Nat → Int} {k : Nat} (h : eachN Ns k = 0) (hk : Ns k ≠ 0) : ∀ m, k < m → eachN Ns m = Ns k
  | 0, hm => by omega
  | m + 1, hm => by
    unfold eachN
    by_cases e : m = k
    · subst e; rw [if_pos h]
    · rw [eachN_stop h hk m (by omega), if_neg hk]

def outL (Ls : Nat → List Span) (Ns : Nat → Int) : List Times := if eachN Ns 8 = 0 then eachL Ls 8 else []

theorem eachL_len (Ls : Nat → List Span) : ∀ k, (eachL Ls k).length ≤ k
  | 0 => Nat.le_refl _
  | k + 1 => by
    unfold eachL
    have := eachL_len Ls k
    split <;> simp <;> omega

/-- What clock.each hands back. -/
def EachP (Q : Nat → World → Prop) (L : List Times) (N : Int) (w : World) (e : Ending) (w' : World) : Prop := ∃ A c, e = .returned (.tuple #[.slice A L.length c, .int .i64 N]) ∧ L.length ≤ c ∧ c ≤ maxLen ∧ R cTimes w.heap.size w' A L ∧ ∃ r, Q r w'

set_option maxRecDepth 100000 in
set_option maxHeartbeats 4000000 in
theorem clockEach (Q : Nat → World → Prop) (Ls : Nat → List Span) (Ns : Nat → Int) (wf : FuncId) (ps : Array Value) (hwe : ∀ args w, (callFunc wf args).run Try.prog w = .ok (.enter wf args) w)
    (A B : Option Addr) (c d : Nat) (a b : List Times) (w : World) (hl : a.length ≤ 140737488355328) (hm : b.length ≤ 140737488355328) (hA : R cTimes 0 w A a) (hB : R cTimes 0 w B b)
    (hma : clockMay a = true) (hmb : clockMay b = true)
    (hQ : ∀ r W W', Below w.heap.size W W' → Q r W → Q r W') (h0 : Q 0 w)
    (hdo : ∀ (r : Nat) (fm fn : Int → Value) (W : World), r < 8 → TabF w a fm → TabF w b fn → w.heap.size ≤ W.heap.size → Q r W →
      Calls Try.prog wf (#[fm r, fn r] ++ ps) W fun e W' => ∃ A c, e = .returned (.tuple #[.slice A (Ls r).length c, .int .i64 (Ns r)]) ∧ (Ls r).length ≤ c ∧ c ≤ maxLen ∧ R cSpan W.heap.size W' A (Ls r) ∧ Abv w.heap.size W W' ∧ Q (r + 1) W') :
    Calls Try.prog 70 #[.slice A a.length c, .slice B b.length d, .func (.func wf) #[] ps] w (EachP Q (outL Ls Ns) (eachN Ns 8) w) := by
  obtain ⟨i0, hi, hz0, hz1, hz2⟩ := info_parts Try.infoTimes
  have hc1 := fun V (hb : Bl w V) => clockCheck A c a V (by unfold maxLen; omega) (hA.bl hb)
  have hc2 := fun V (hb : Bl w V) => clockCheck B d b V (by unfold maxLen; omega) (hB.bl hb)
  rw [hma, okOr_true] at hc1
  rw [hmb, okOr_true] at hc2
  replace hc1 := hide hc1
  replace hc2 := hide hc2
  clear hma hmb
  have ht1 := hide fun V (hb : Bl w V) => clockTableW A c a w V hb hl hA
  have ht2 := hide fun V (hb : Bl w V) => clockTableW B d b w V hb hm hB
  replace hQ := hide hQ
  replace hdo := hide hdo
  replace h0 := hide h0
  obtain ⟨LL, hLL⟩ : ∃ LL, LL = outL Ls Ns := ⟨_, rfl⟩
  obtain ⟨NN, hNN⟩ : ∃ NN, NN = eachN Ns 8 := ⟨_, rfl⟩
  rw [← hLL, ← hNN]
  replace hLL := hide hLL
  replace hNN := hide hNN
  go_enter Try.func70, Try.ntmps70
  go_wp2_with fail
  refine (hc1.out _ (Bl.refl _)).mono ?_
  rintro e w1 ⟨rfl, hb1⟩
  go_wp2_with fail
  refine (hc2.out _ hb1).mono ?_
  rintro e w2 ⟨rfl, hb2⟩
  have hb02 := hb1.trans hb2
  go_wp2_with fail
  refine (ht1.out _ hb02).mono ?_
  rintro e w3 ⟨bm, fm, rfl, hmm, htm, hb3, hbm⟩
  have hb03 := hb02.trans hb3
  go_wp2_with fail
  refine (ht2.out _ hb03).mono ?_
  rintro e w4 ⟨bn, fn, rfl, hmn, htn, hb4, hbn⟩
  have hb04 := hb03.trans hb4
  replace hmm := hmm.bl hb4
  have hlm : w.heap.size ≤ bm := Nat.le_trans hb02.size hbm
  have hln : w.heap.size ≤ bn := Nat.le_trans hb03.size hbn
  replace htm := hide htm
  replace htn := hide htn
  have hq0 := hQ.out 0 w w4 hb04 h0.out
  have hs4 := hb04.size
  clear hb1 hb2 hb3 hb4 hb02 hb03 hbm hbn
  go_wp2_with fail
  go_loopw [6, 25] (fun v i wr => w.heap.size ≤ wr.heap.size ∧ ∃ k : Nat, k ≤ 8 ∧ i = .int .u8 k ∧ Q k wr ∧ MapAt wr bm a.length fm ∧ MapAt wr bn b.length fn ∧ Own cTimes 96 w.heap.size wr v (eachL Ls k) ∧ eachN Ns k = 0) (fun _ i _ => 8 - (intOf i).toNat)
  case atStart => exact ⟨hs4, 0, Nat.zero_le _, rfl, hq0, hmm, hmn, Own.nil, rfl⟩
  case round =>
    clear hmm hmn hq0 hs4
    obtain ⟨hsz, k, hk, rfl, hq, hmm, hmn, hown, hn0⟩ := hrel
    by_cases hlt : k < 8
    · have hki : (k : Int) < 8 := by omega
      have g1 := hmm.lookup (r := k) (by omega) (by omega) 129 (by kernel_rfl)
      have g2 := hmn.lookup (r := k) (by omega) (by omega) 129 (by kernel_rfl)
      have hcall := hide (hdo.out k fm fn wr hlt htm.out htn.out hsz hq)
      generalize hfm : fm k = va at g1 hcall
      generalize hfn : fn k = vb at g2 hcall
      clear hfm hfn
      have hel := hide (show eachL Ls (k + 1) = eachL Ls k ++ if (Ls k).length = 0 then [] else [⟨k, Ls k⟩] from rfl)
      have hen := hide (show eachN Ns (k + 1) = Ns k by rw [eachN, if_pos hn0])
      have hes := hide (fun (h : Ns k ≠ 0) => eachN_stop hn0 h 8 hlt)
      have hFl := eachL_len Ls k
      generalize eachL Ls k = F at hown hel hFl
      generalize Ls k = S at hcall hel
      generalize Ns k = E at hcall hen hes
      clear hn0
      go_wp2_with fail
      refine hcall.out.mono ?_
      rintro e W1 ⟨A1, c1, rfl, h1, h2, hR1, hab, hq1⟩
      have hown1 := hown.abv hab (Nat.le_refl _)
      have hmm1 := hmm.abv hab hlm
      have hmn1 := hmn.abv hab hln
      have hsz1 : w.heap.size ≤ W1.heap.size := Nat.le_trans hsz hab.1
      have h1' := h1
      have h2' := h2
      unfold maxLen at h2
      by_cases hE : E = 0
      · subst hE
        by_cases hS : S.length = 0
        · have hSi : ¬ (0 : Int) < (S.length : Int) := by omega
          go_wp2_with fail
          go_roundw
          case rel => exact ⟨hsz1, k + 1, by omega, by go_num, hq1, hmm1, hmn1, by rw [hel.out, if_pos hS, List.append_nil]; exact hown1, hen.out⟩
          case measure => simp [intOf]; omega
        · have hSi : (0 : Int) < (S.length : Int) := by omega
          have hsrc := hide (Own.src2 (C := cTimes) (w1 := W1) (t := 96) (cs := [.int .u8 k, .slice A1 S.length c1]) (x := ⟨k, S⟩) hown hsz ⟨⟨by dsimp only; omega, by dsimp only; omega⟩, A1, c1, h1', h2', rfl, hR1⟩)
          have hown2 := hown1.bl ((Bl.refl W1).alloc (.cells #[.int .u8 k, .slice A1 S.length c1] 96))
          have qa1 : F.length + [(⟨k, S⟩ : Times)].length ≤ maxLen := by rw [List.length_singleton]; unfold maxLen; omega
          have qa2 : (F.length + [(⟨k, S⟩ : Times)].length) * 32 ≤ 140737488355328 := by rw [List.length_singleton]; omega
          have qa3 : w.heap.size ≤ (W1.alloc (.cells #[.int .u8 k, .slice A1 S.length c1] 96)).heap.size := by rw [World.size_alloc]; omega
          replace hown2 := hide hown2
          go_wp2_with (at_builtin; refine Hid.out ?_)
          refine hide ?_
          refine wpList_append_any2 (C := cTimes) (xs := F) (ys := [⟨k, S⟩]) rfl (.tmp 45) (.tmp 49) _ rfl 96 i0 _ 32 Try.underlying22 hi hz0 hz1 hz2 rfl u6 w.heap.size rfl hown2.out (some ⟨W1.heap.size, 0, none⟩) 1 1 rfl rfl hsrc.out qa1 qa2 qa3 ?_
          intro v9 w9 hown9 hg9 hf9
          have hmm9 := (hmm1.bl ((Bl.refl W1).alloc (.cells #[.int .u8 k, .slice A1 S.length c1] 96))).grown hg9 (own_not_map hown2.out (hmm1.bl ((Bl.refl W1).alloc _)))
          have hmn9 := (hmn1.bl ((Bl.refl W1).alloc (.cells #[.int .u8 k, .slice A1 S.length c1] 96))).grown hg9 (own_not_map hown2.out (hmn1.bl ((Bl.refl W1).alloc _)))
          have hB9 : Below w.heap.size W1 w9 := ((Below.refl _ _).alloc hsz1 _).grown hg9 qa3 (fun j hj => (hown2.out.lt hj).1)
          have hq9 := hQ.out _ _ _ hB9 hq1
          have hsz9 : w.heap.size ≤ w9.heap.size := Nat.le_trans hsz1 hB9.size
          clear hown hown1 hown2 hsrc qa1 qa2 qa3 hg9 hf9 hB9 hmm1 hmn1 hq1
          go_wp2
          go_roundw
          case rel => exact ⟨hsz9, k + 1, by omega, by go_num, hq9, hmm9, hmn9, by rw [hel.out, if_neg hS]; exact hown9, hen.out⟩
          case measure => simp [intOf]; omega
      · have e1 := hNN.out.trans (hes.out hE)
        have e2 := hLL.out
        rw [outL, ← hNN.out, e1, if_neg hE] at e2
        clear hLL hNN
        subst e1 e2
        go_wp2_with fail
        go_ret2
        exact ⟨none, 0, rfl, Nat.le_refl _, Nat.zero_le _, R.nil, _, hq1⟩
    · have hk8 : k = 8 := by omega
      subst hk8
      have e1 := hNN.out.trans hn0
      have e2 := hLL.out
      rw [outL, ← hNN.out, e1, if_pos rfl] at e2
      rw [← e2] at hown
      clear hLL hNN
      subst e1
      clear e2
      obtain ⟨A', c', rfl, hr, q1, q2⟩ := hown.reads
      go_wp2_with fail
      go_ret2
      exact ⟨A', c', rfl, q1, q2, hr, _, hq⟩
end Go.Proofs.Ytkolimhkfiebeaa
