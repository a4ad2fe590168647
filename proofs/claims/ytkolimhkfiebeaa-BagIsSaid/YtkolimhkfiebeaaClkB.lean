/-
  The walk of clock.each: replica by replica, whatever is done.
  The walks of clock.Join, clock.Less, clock.one, clock.Add.
  The walks of the references of layer 8: put, Both, Left, One, told, Join, Less, Add.
  The walks of the references of layer 8: One, told, Join, Less, Add; they answer as the program does.
  A map of slices that a call owns; a slice's last span written; what clock.Of's closure makes of times.
  slices.Sort and slices.Compact at numbers: nothing but the row itself is written.
  Plain: clocks, replica by replica; the clock of some stamps.
-/
import Derived.Test.YtkolimhkfiebeaaSetB
import Derived.Test.YtkolimhkfiebeaaHas
import Derived.Test.YtkolimhkfiebeaaRefSets
import Derived.Test.YtkolimhkfiebeaaRefIn
namespace Go.Proofs.Ytkolimhkfiebeaa
open Go.RowKit

/-- The blocks from base on stay. -/
def Abv (base : Nat) (w w' : World) : Prop := w.heap.size ≤ w'.heap.size ∧ ∀ k, base ≤ k → k < w.heap.size → w'.heap[k]? = w.heap[k]?

theorem Bl.abv {base : Nat} {w w' : World} (h : Bl w w') : Abv base w w' := ⟨h.size, fun k _ hk => h.block k hk⟩

theorem Abv.trans {base : Nat} {a b c : World} (h : Abv base a b) (k : Abv base b c) : Abv base a c := ⟨Nat.le_trans h.1 k.1, fun i h0 hi => (k.2 i h0 (Nat.lt_of_lt_of_le hi h.1)).trans (h.2 i h0 hi)⟩

theorem Abv.keeps {base : Nat} {w w' : World} {S : Nat → Prop} (h : Abv base w w') (hS : ∀ b, S b → base ≤ b ∧ b < w.heap.size) : Keeps S w w' := fun b hb => h.2 b (hS b hb).1 (hS b hb).2

theorem Own.abv {α : Type} {C : Codec α} {e : TypeId} {base lo : Nat} {w w' : World} {v : Value} {xs : List α} (h : Own C e lo w v xs) (ha : Abv base w w') (hb : base ≤ lo) : Own C e lo w' v xs := by
  have hlt := fun b => h.lt (b := b)
  obtain ⟨cells, ⟨h1, ho⟩, hr⟩ := h
  refine ⟨cells, ⟨h1, ?_⟩, hr.keep (ha.keeps fun b k => ⟨Nat.le_trans hb k.1.1, k.1.2⟩) fun b k => ⟨⟨k.1.1, Nat.lt_of_lt_of_le k.1.2 ha.1⟩, k.2⟩⟩
  rcases ho with ho | ⟨g, cap, cur, rfl, h2, h3, h4⟩
  · exact .inl ho
  · refine .inr ⟨g, cap, cur, rfl, h2, ?_, h4⟩
    rw [ha.2 g (Nat.le_trans hb h2) (Array.getElem?_eq_some_iff.1 h3).1]
    exact h3

theorem MapAt.abv {base : Nat} {w w' : World} {b n : Nat} {f : Int → Value} (h : MapAt w b n f) (ha : Abv base w w') (hb : base ≤ b) : MapAt w' b n f := by
  have hlt := h.lt
  obtain ⟨D, ⟨es, ck, h1, h2⟩, h3⟩ := h
  exact ⟨D, ⟨es, ck, (ha.2 b hb hlt).trans h1, h2⟩, h3⟩

/-- A new block with one element's cells, as a source. -/
theorem Own.src2 {α : Type} {C : Codec α} {w w1 : World} {x : α} {xs : List α} {cs : List Value} {t e : TypeId} {v : Value} {base : Nat} (ho : Own C e base w v xs) (hbase : base ≤ w.heap.size) (h : C.rd w1 (Fresh w.heap.size w1) x cs) :
    ∃ news, RdL C (w1.alloc (.cells cs.toArray t)) (fun b => (base ≤ b ∧ b < (w1.alloc (.cells cs.toArray t)).heap.size) ∧ v.ownBlock ≠ some b) [x] news ∧ (∀ ad, some (⟨w1.heap.size, 0, none⟩ : Addr) = some ad → ∀ (j : Nat) (u : Value), news[j]? = some u → (w1.alloc (.cells cs.toArray t)).cell? (ad.add j) = some u) ∧ (some (⟨w1.heap.size, 0, none⟩ : Addr) = none → [x] = []) := by
  refine ⟨cs, RdL.one1 (C.keep (fun b hb => Below.heap_alloc w1 _ b hb.2) (fun b h => ⟨⟨Nat.le_trans hbase h.1, by have := h.2; rw [World.size_alloc]; omega⟩, fun e => ?_⟩) h), fun ad e j u hu => ?_, fun e => by cases e⟩
  · have := ho.lt e
    have := h.1
    omega
  cases e
  have hadd : (⟨w1.heap.size, 0, none⟩ : Addr).add j = ⟨w1.heap.size, j, none⟩ := by
    unfold Addr.add
    split
    · rename_i h0; subst h0; rfl
    · simp
  rw [hadd, cell_of_row _ w1.heap.size j cs.toArray t (0, 0) (heap_alloc_new w1 _)]
  simpa using hu

theorem own_not_map {α : Type} {C : Codec α} {e : TypeId} {lo b n : Nat} {w : World} {v : Value} {xs : List α} {f : Int → Value} (h : Own C e lo w v xs) (hm : MapAt w b n f) : some b ≠ v.ownBlock := by
  obtain ⟨cells, ⟨_, ho⟩, _⟩ := h
  obtain ⟨D, ⟨es, ck, h1, _⟩, _⟩ := hm
  rcases ho with ⟨rfl, _⟩ | ⟨g, cap, cur, rfl, _, h3, _⟩
  · intro e; cases e
  · intro e
    cases e
    rw [h3] at h1
    cases h1

theorem MapAt.grown {w w' : World} {b n : Nat} {f : Int → Value} {row : Option Nat} (h : MapAt w b n f) (hg : w.grownBy w' row) (hne : some b ≠ row) : MapAt w' b n f :=
  let ⟨D, h1, h2⟩ := h
  ⟨D, h1.kept hg hne, h2⟩

/-- The clock that comes of a list of spans for each replica. -/
def eachL (Ls : Nat → List Span) : Nat → List Times
  | 0 => []
  | k + 1 => eachL Ls k ++ if (Ls k).length = 0 then [] else [⟨k, Ls k⟩]

/-- The first error. -/
def eachN (Ns : Nat → Int) : Nat → Int
  | 0 => 0
  | k + 1 => if eachN Ns k = 0 then Ns k else eachN Ns k

theorem eachN_stop {Ns : Nat → Int} {k : Nat} (h : eachN Ns k = 0) (hk : Ns k ≠ 0) : ∀ m, k < m → eachN Ns m = Ns k
  | 0, hm => by omega
  | m + 1, hm => by
    unfold eachN
    by_cases e : m = k
    · subst e; rw [if_pos h]
    · rw [eachN_stop h hk m (by omega), if_neg hk]

def outL (Ls : Nat → List Span) (Ns : Nat → Int) : List Times := if eachN Ns 8 = 0 then eachL Ls 8 else []

theorem eachL_len (Ls : Nat → List Span) : ∀ k, (eachL Ls k).length ≤ k
  | 0 => Nat.le_refl _
  | k + 1 => by
    unfold eachL
    have := eachL_len Ls k
    split <;> simp <;> omega

/-- What clock.each hands back. -/
def EachP (Q : Nat → World → Prop) (L : List Times) (N : Int) (w : World) (e : Ending) (w' : World) : Prop := ∃ A c, e = .returned (.tuple #[.slice A L.length c, .int .i64 N]) ∧ L.length ≤ c ∧ c ≤ maxLen ∧ R cTimes w.heap.size w' A L ∧ ∃ r, Q r w'

set_option maxRecDepth 100000 in
set_option maxHeartbeats 4000000 in
theorem clockEach (Q : Nat → World → Prop) (Ls : Nat → List Span) (Ns : Nat → Int) (wf : FuncId) (ps : Array Value) (hwe : ∀ args w, (callFunc wf args).run Try.prog w = .ok (.enter wf args) w)
    (A B : Option Addr) (c d : Nat) (a b : List Times) (w : World) (hl : a.length ≤ 140737488355328) (hm : b.length ≤ 140737488355328) (hA : R cTimes 0 w A a) (hB : R cTimes 0 w B b)
    (hma : clockMay a = true) (hmb : clockMay b = true)
    (hQ : ∀ r W W', Below w.heap.size W W' → Q r W → Q r W') (h0 : Q 0 w)
    (hdo : ∀ (r : Nat) (fm fn : Int → Value) (W : World), r < 8 → TabF w a fm → TabF w b fn → w.heap.size ≤ W.heap.size → Q r W →
      Calls Try.prog wf (#[fm r, fn r] ++ ps) W fun e W' => ∃ A c, e = .returned (.tuple #[.slice A (Ls r).length c, .int .i64 (Ns r)]) ∧ (Ls r).length ≤ c ∧ c ≤ maxLen ∧ R cSpan W.heap.size W' A (Ls r) ∧ Abv w.heap.size W W' ∧ Q (r + 1) W') :
    Calls Try.prog 70 #[.slice A a.length c, .slice B b.length d, .func (.func wf) #[] ps] w (EachP Q (outL Ls Ns) (eachN Ns 8) w) := by
  obtain ⟨i0, hi, hz0, hz1, hz2⟩ := info_parts Try.infoTimes
  have hc1 := fun V (hb : Bl w V) => clockCheck A c a V (by unfold maxLen; omega) (hA.bl hb)
  have hc2 := fun V (hb : Bl w V) => clockCheck B d b V (by unfold maxLen; omega) (hB.bl hb)
  rw [hma, okOr_true] at hc1
  rw [hmb, okOr_true] at hc2
  replace hc1 := hide hc1
  replace hc2 := hide hc2
  clear hma hmb
  have ht1 := hide fun V (hb : Bl w V) => clockTableW A c a w V hb hl hA
  have ht2 := hide fun V (hb : Bl w V) => clockTableW B d b w V hb hm hB
  replace hQ := hide hQ
  replace hdo := hide hdo
  replace h0 := hide h0
  obtain ⟨LL, hLL⟩ : ∃ LL, LL = outL Ls Ns := ⟨_, rfl⟩
  obtain ⟨NN, hNN⟩ : ∃ NN, NN = eachN Ns 8 := ⟨_, rfl⟩
  rw [← hLL, ← hNN]
  replace hLL := hide hLL
  replace hNN := hide hNN
  go_enter Try.func70, Try.ntmps70
  go_wp2_with fail
  refine (hc1.out _ (Bl.refl _)).mono ?_
  rintro e w1 ⟨rfl, hb1⟩
  go_wp2_with fail
  refine (hc2.out _ hb1).mono ?_
  rintro e w2 ⟨rfl, hb2⟩
  have hb02 := hb1.trans hb2
  go_wp2_with fail
  refine (ht1.out _ hb02).mono ?_
  rintro e w3 ⟨bm, fm, rfl, hmm, htm, hb3, hbm⟩
  have hb03 := hb02.trans hb3
  go_wp2_with fail
  refine (ht2.out _ hb03).mono ?_
  rintro e w4 ⟨bn, fn, rfl, hmn, htn, hb4, hbn⟩
  have hb04 := hb03.trans hb4
  replace hmm := hmm.bl hb4
  have hlm : w.heap.size ≤ bm := Nat.le_trans hb02.size hbm
  have hln : w.heap.size ≤ bn := Nat.le_trans hb03.size hbn
  replace htm := hide htm
  replace htn := hide htn
  have hq0 := hQ.out 0 w w4 hb04 h0.out
  have hs4 := hb04.size
  clear hb1 hb2 hb3 hb4 hb02 hb03 hbm hbn
  go_wp2_with fail
  go_loopw [6, 25] (fun v i wr => w.heap.size ≤ wr.heap.size ∧ ∃ k : Nat, k ≤ 8 ∧ i = .int .u8 k ∧ Q k wr ∧ MapAt wr bm a.length fm ∧ MapAt wr bn b.length fn ∧ Own cTimes 96 w.heap.size wr v (eachL Ls k) ∧ eachN Ns k = 0) (fun _ i _ => 8 - (intOf i).toNat)
  case atStart => exact ⟨hs4, 0, Nat.zero_le _, rfl, hq0, hmm, hmn, Own.nil, rfl⟩
  case round =>
    clear hmm hmn hq0 hs4
    obtain ⟨hsz, k, hk, rfl, hq, hmm, hmn, hown, hn0⟩ := hrel
    by_cases hlt : k < 8
    · have hki : (k : Int) < 8 := by omega
      have g1 := hmm.lookup (r := k) (by omega) (by omega) 129 (by kernel_rfl)
      have g2 := hmn.lookup (r := k) (by omega) (by omega) 129 (by kernel_rfl)
      have hcall := hide (hdo.out k fm fn wr hlt htm.out htn.out hsz hq)
      generalize hfm : fm k = va at g1 hcall
      generalize hfn : fn k = vb at g2 hcall
      clear hfm hfn
      have hel := hide (show eachL Ls (k + 1) = eachL Ls k ++ if (Ls k).length = 0 then [] else [⟨k, Ls k⟩] from rfl)
      have hen := hide (show eachN Ns (k + 1) = Ns k by rw [eachN, if_pos hn0])
      have hes := hide (fun (h : Ns k ≠ 0) => eachN_stop hn0 h 8 hlt)
      have hFl := eachL_len Ls k
      generalize eachL Ls k = F at hown hel hFl
      generalize Ls k = S at hcall hel
      generalize Ns k = E at hcall hen hes
      clear hn0
      go_wp2_with fail
      refine hcall.out.mono ?_
      rintro e W1 ⟨A1, c1, rfl, h1, h2, hR1, hab, hq1⟩
      have hown1 := hown.abv hab (Nat.le_refl _)
      have hmm1 := hmm.abv hab hlm
      have hmn1 := hmn.abv hab hln
      have hsz1 : w.heap.size ≤ W1.heap.size := Nat.le_trans hsz hab.1
      have h1' := h1
      have h2' := h2
      unfold maxLen at h2
      by_cases hE : E = 0
      · subst hE
        by_cases hS : S.length = 0
        · have hSi : ¬ (0 : Int) < (S.length : Int) := by omega
          go_wp2_with fail
          go_roundw
          case rel => exact ⟨hsz1, k + 1, by omega, by go_num, hq1, hmm1, hmn1, by rw [hel.out, if_pos hS, List.append_nil]; exact hown1, hen.out⟩
          case measure => simp [intOf]; omega
        · have hSi : (0 : Int) < (S.length : Int) := by omega
          have hsrc := hide (Own.src2 (C := cTimes) (w1 := W1) (t := 96) (cs := [.int .u8 k, .slice A1 S.length c1]) (x := ⟨k, S⟩) hown hsz ⟨⟨by dsimp only; omega, by dsimp only; omega⟩, A1, c1, h1', h2', rfl, hR1⟩)
          have hown2 := hown1.bl ((Bl.refl W1).alloc (.cells #[.int .u8 k, .slice A1 S.length c1] 96))
          have qa1 : F.length + [(⟨k, S⟩ : Times)].length ≤ maxLen := by rw [List.length_singleton]; unfold maxLen; omega
          have qa2 : (F.length + [(⟨k, S⟩ : Times)].length) * 32 ≤ 140737488355328 := by rw [List.length_singleton]; omega
          have qa3 : w.heap.size ≤ (W1.alloc (.cells #[.int .u8 k, .slice A1 S.length c1] 96)).heap.size := by rw [World.size_alloc]; omega
          replace hown2 := hide hown2
          go_wp2_with (at_builtin; refine Hid.out ?_)
          refine hide ?_
          refine wpList_append_any2 (C := cTimes) (xs := F) (ys := [⟨k, S⟩]) rfl (.tmp 45) (.tmp 49) _ rfl 96 i0 _ 32 Try.underlying22 hi hz0 hz1 hz2 rfl u6 w.heap.size rfl hown2.out (some ⟨W1.heap.size, 0, none⟩) 1 1 rfl rfl hsrc.out qa1 qa2 qa3 ?_
          intro v9 w9 hown9 hg9 hf9
          have hmm9 := (hmm1.bl ((Bl.refl W1).alloc (.cells #[.int .u8 k, .slice A1 S.length c1] 96))).grown hg9 (own_not_map hown2.out (hmm1.bl ((Bl.refl W1).alloc _)))
          have hmn9 := (hmn1.bl ((Bl.refl W1).alloc (.cells #[.int .u8 k, .slice A1 S.length c1] 96))).grown hg9 (own_not_map hown2.out (hmn1.bl ((Bl.refl W1).alloc _)))
          have hB9 : Below w.heap.size W1 w9 := ((Below.refl _ _).alloc hsz1 _).grown hg9 qa3 (fun j hj => (hown2.out.lt hj).1)
          have hq9 := hQ.out _ _ _ hB9 hq1
          have hsz9 : w.heap.size ≤ w9.heap.size := Nat.le_trans hsz1 hB9.size
          clear hown hown1 hown2 hsrc qa1 qa2 qa3 hg9 hf9 hB9 hmm1 hmn1 hq1
          go_wp2
          go_roundw
          case rel => exact ⟨hsz9, k + 1, by omega, by go_num, hq9, hmm9, hmn9, by rw [hel.out, if_neg hS]; exact hown9, hen.out⟩
          case measure => simp [intOf]; omega
      · have e1 := hNN.out.trans (hes.out hE)
        have e2 := hLL.out
        rw [outL, ← hNN.out, e1, if_neg hE] at e2
        clear hLL hNN
        subst e1 e2
        go_wp2_with fail
        go_ret2
        exact ⟨none, 0, rfl, Nat.le_refl _, Nat.zero_le _, R.nil, _, hq1⟩
    · have hk8 : k = 8 := by omega
      subst hk8
      have e1 := hNN.out.trans hn0
      have e2 := hLL.out
      rw [outL, ← hNN.out, e1, if_pos rfl] at e2
      rw [← e2] at hown
      clear hLL hNN
      subst e1
      clear e2
      obtain ⟨A', c', rfl, hr, q1, q2⟩ := hown.reads
      go_wp2_with fail
      go_ret2
      exact ⟨A', c', rfl, q1, q2, hr, _, hq⟩
end Go.Proofs.Ytkolimhkfiebeaa

namespace Go.Proofs.Ytkolimhkfiebeaa
open Go.RowKit

def cSetL (want : Bool → Bool → Bool) (a b : List Times) : List Times :=
  if clockMay a && clockMay b then outL (fun r => setL want (tabOf a r) (tabOf b r)) (fun r => setN want (tabOf a r) (tabOf b r)) else []

def cSetN (want : Bool → Bool → Bool) (a b : List Times) : Int :=
  if clockMay a && clockMay b then eachN (fun r => setN want (tabOf a r) (tabOf b r)) 8 else 8

set_option maxRecDepth 100000 in
set_option maxHeartbeats 1000000 in
theorem clockEach_bad (wf : FuncId) (ps : Array Value) (A B : Option Addr) (c d : Nat) (a b : List Times) (w : World) (hl : a.length ≤ 140737488355328) (hm : b.length ≤ 140737488355328) (hA : R cTimes 0 w A a) (hB : R cTimes 0 w B b)
    (hbad : (clockMay a && clockMay b) = false) :
    Calls Try.prog 70 #[.slice A a.length c, .slice B b.length d, .func (.func wf) #[] ps] w (New2 cTimes [] 8 w) := by
  have hc1 := fun V (hb : Bl w V) => clockCheck A c a V (by unfold maxLen; omega) (hA.bl hb)
  have hc2 := fun V (hb : Bl w V) => clockCheck B d b V (by unfold maxLen; omega) (hB.bl hb)
  cases hma : clockMay a
  · rw [hma, okOr_false] at hc1
    replace hc1 := hide hc1
    clear hma hbad
    go_enter Try.func70, Try.ntmps70
    go_wp2_with fail
    refine (hc1.out _ (Bl.refl _)).mono ?_
    rintro e w1 ⟨rfl, hb1⟩
    go_wp2_with fail
    go_ret2
    exact ⟨none, 0, rfl, Nat.le_refl _, Nat.zero_le _, R.nil, hb1⟩
  · rw [hma, Bool.true_and] at hbad
    rw [hma, okOr_true] at hc1
    rw [hbad, okOr_false] at hc2
    replace hc1 := hide hc1
    replace hc2 := hide hc2
    clear hma hbad
    go_enter Try.func70, Try.ntmps70
    go_wp2_with fail
    refine (hc1.out _ (Bl.refl _)).mono ?_
    rintro e w1 ⟨rfl, hb1⟩
    go_wp2_with fail
    refine (hc2.out _ hb1).mono ?_
    rintro e w2 ⟨rfl, hb2⟩
    go_wp2_with fail
    go_ret2
    exact ⟨none, 0, rfl, Nat.le_refl _, Nat.zero_le _, R.nil, hb1.trans hb2⟩

theorem clockSet (wf : FuncId) (want : Bool → Bool → Bool) (hwe : ∀ args w, (callFunc wf args).run Try.prog w = .ok (.enter wf args) w)
    (hset : ∀ (A B : Option Addr) (c d : Nat) (a b : List Span) (w : World), a.length ≤ maxLen → b.length ≤ maxLen → R cSpan 0 w A a → R cSpan 0 w B b → Calls Try.prog wf #[.slice A a.length c, .slice B b.length d] w (New2 cSpan (setL want a b) (setN want a b) w))
    (A B : Option Addr) (c d : Nat) (a b : List Times) (w : World) (hl : a.length ≤ 140737488355328) (hm : b.length ≤ 140737488355328) (hA : R cTimes 0 w A a) (hB : R cTimes 0 w B b) :
    Calls Try.prog 70 #[.slice A a.length c, .slice B b.length d, .func (.func wf) #[] #[]] w (New2 cTimes (cSetL want a b) (cSetN want a b) w) := by
  unfold cSetL cSetN
  cases h : clockMay a && clockMay b
  · exact clockEach_bad wf #[] A B c d a b w hl hm hA hB h
  · rw [Bool.and_eq_true] at h
    refine (clockEach (fun _ W => Bl w W) (fun r => setL want (tabOf a r) (tabOf b r)) (fun r => setN want (tabOf a r) (tabOf b r)) wf #[] hwe A B c d a b w hl hm hA hB h.1 h.2 (fun r W W' h1 h2 => h2.step h1) (Bl.refl _) ?_).mono ?_
    · intro r fm fn W hr hta htb hsz hq
      obtain ⟨A1, c1, e1, p1, p2, hR1⟩ := hta r
      obtain ⟨B1, d1, e2, q1, q2, hR2⟩ := htb r
      rw [e1, e2, Array.append_empty]
      refine (hset A1 B1 c1 d1 (tabOf a r) (tabOf b r) W (Nat.le_trans p1 p2) (Nat.le_trans q1 q2) (hR1.bl hq) (hR2.bl hq)).mono ?_
      rintro e W' ⟨X, x, he, h1, h2, h3, h4⟩
      exact ⟨X, x, he, h1, h2, h3, h4.abv, hq.trans h4⟩
    · rintro e w' ⟨X, x, he, h1, h2, h3, _, h4⟩
      exact ⟨X, x, he, h1, h2, h3, h4⟩

theorem clockJoin (A B : Option Addr) (c d : Nat) (a b : List Times) (w : World) (hl : a.length ≤ 140737488355328) (hm : b.length ≤ 140737488355328) (hA : R cTimes 0 w A a) (hB : R cTimes 0 w B b) :
    Calls Try.prog 16 #[.slice A a.length c, .slice B b.length d] w (New2 cTimes (cSetL orB a b) (cSetN orB a b) w) := by
  have hs := clockSet 71 orB (enters_of Try.func71 (by kernel_rfl) rfl) (fun A B c d a b w h1 h2 h3 h4 => spanJoin A B c d a b w h1 h2 h3 h4) A B c d a b w hl hm hA hB
  generalize cSetL orB a b = L at *
  generalize cSetN orB a b = N at *
  replace hs := hide hs
  go_enter Try.func16, Try.ntmps16
  go_wp2_with fail
  refine hs.out.mono ?_
  rintro e w1 ⟨A1, c1, rfl, h1, h2, h3, h4⟩
  go_wp2
  go_ret2
  exact ⟨A1, c1, rfl, h1, h2, h3, h4⟩

theorem clockLess (A B : Option Addr) (c d : Nat) (a b : List Times) (w : World) (hl : a.length ≤ 140737488355328) (hm : b.length ≤ 140737488355328) (hA : R cTimes 0 w A a) (hB : R cTimes 0 w B b) :
    Calls Try.prog 17 #[.slice A a.length c, .slice B b.length d] w (New2 cTimes (cSetL lessB a b) (cSetN lessB a b) w) := by
  have hs := clockSet 72 lessB (enters_of Try.func72 (by kernel_rfl) rfl) (fun A B c d a b w h1 h2 h3 h4 => spanLess A B c d a b w h1 h2 h3 h4) A B c d a b w hl hm hA hB
  generalize cSetL lessB a b = L at *
  generalize cSetN lessB a b = N at *
  replace hs := hide hs
  go_enter Try.func17, Try.ntmps17
  go_wp2_with fail
  refine hs.out.mono ?_
  rintro e w1 ⟨A1, c1, rfl, h1, h2, h3, h4⟩
  go_wp2
  go_ret2
  exact ⟨A1, c1, rfl, h1, h2, h3, h4⟩

/-- The clock of a stamp. -/
def oneT (x : Id) : List Times := [⟨x.r, [⟨x.t, x.t⟩]⟩]

theorem R.new1 {α : Type} {C : Codec α} {lo : Nat} {w : World} {x : α} {cs : List Value} {t : TypeId} (h : C.rd w (Fresh lo w) x cs) (hlo : lo ≤ w.heap.size) :
    R C lo (w.alloc (.cells cs.toArray t)) (some ⟨w.heap.size, 0, none⟩) [x] := by
  refine ⟨cs, RdL.one1 (C.keep (fun b hb => Below.heap_alloc w _ b hb.2) (fun b hb => ⟨hb.1, by have := hb.2; rw [World.size_alloc]; omega⟩) h), fun _ => ⟨w.heap.size, 0, rfl, ⟨hlo, by rw [World.size_alloc]; omega⟩, fun j u hu => ⟨?_, ?_⟩⟩⟩
  · rw [Nat.zero_add, cell_of_row _ w.heap.size j cs.toArray t (0, 0) (heap_alloc_new w _)]
    simpa using hu
  · rw [Nat.zero_add]
    exact frozen_new w _ t j

theorem R.oneT {w : World} {lo : Nat} (x : Id) (hx : x.ok) (hlo : lo ≤ w.heap.size) (t s : TypeId) :
    R cTimes lo ((w.alloc (.cells #[.int .u32 x.t, .int .u32 x.t] s)).alloc (.cells #[.int .u8 x.r, .slice (some ⟨w.heap.size, 0, none⟩) 1 1] t)) (some ⟨w.heap.size + 1, 0, none⟩) (oneT x) := by
  obtain ⟨h1, h2, h3, h4⟩ := hx
  have hs : R cSpan lo (w.alloc (.cells #[.int .u32 x.t, .int .u32 x.t] s)) (some ⟨w.heap.size, 0, none⟩) [⟨x.t, x.t⟩] := R.new1 (C := cSpan) (cs := [.int .u32 x.t, .int .u32 x.t]) ⟨⟨h1, h2, h1, h2⟩, rfl⟩ hlo
  have h := R.new1 (C := cTimes) (t := t) (x := ⟨x.r, [⟨x.t, x.t⟩]⟩) (cs := [.int .u8 x.r, .slice (some ⟨w.heap.size, 0, none⟩) 1 1]) ⟨⟨h3, h4⟩, _, 1, Nat.le_refl _, by decide, rfl, hs⟩ (by rw [World.size_alloc]; omega)
  rw [World.size_alloc] at h
  exact h

set_option maxRecDepth 100000 in
theorem clockOne (x : Id) (w : World) (hx : x.ok) :
    Calls Try.prog 123 #[.agg #[.int .u32 x.t, .int .u8 x.r]] w fun e w' => ∃ A c, e = .returned (.slice A (oneT x).length c) ∧ (oneT x).length ≤ c ∧ c ≤ maxLen ∧ R cTimes w.heap.size w' A (oneT x) ∧ Bl w w' := by
  have h := R.oneT (w := w.alloc (.cells #[.int .u32 x.t, .int .u8 x.r] 36)) (lo := w.heap.size) x hx (by rw [World.size_alloc]; omega) 96 93
  rw [World.size_alloc w] at h
  replace h := hide h
  have hb : Bl w (((w.alloc (.cells #[.int .u32 x.t, .int .u8 x.r] 36)).alloc (.cells #[.int .u32 x.t, .int .u32 x.t] 93)).alloc (.cells #[.int .u8 x.r, .slice (some ⟨w.heap.size + 1, 0, none⟩) 1 1] 96)) := (((Bl.refl w).alloc _).alloc _).alloc _
  go_enter Try.func123, Try.ntmps123
  go_wp2
  go_ret
  exact ⟨_, 1, rfl, Nat.le_refl _, by decide, h.out, hb⟩

set_option maxRecDepth 100000 in
theorem clockAdd (A : Option Addr) (c : Nat) (a : List Times) (x : Id) (w : World) (hl : a.length ≤ 140737488355328) (hx : x.ok) (hA : R cTimes 0 w A a) :
    Calls Try.prog 67 #[.slice A a.length c, .agg #[.int .u32 x.t, .int .u8 x.r]] w (New2 cTimes (cSetL orB a (oneT x)) (cSetN orB a (oneT x)) w) := by
  have h1 := hide fun V => clockOne x V hx
  have h2 := fun B d V (hb : Bl w V) (hB : R cTimes 0 V B (oneT x)) => clockJoin A B c d a (oneT x) V hl (by simp [oneT]) (hA.bl hb) hB
  generalize oneT x = O at *
  generalize cSetL orB a O = L at *
  generalize cSetN orB a O = N at *
  replace h2 := hide h2
  go_enter Try.func67, Try.ntmps67
  go_wp2_with fail
  refine (h1.out _).mono ?_
  rintro e w1 ⟨B, d, rfl, p1, p2, hB, hb1⟩
  have hb01 := ((Bl.refl w).alloc _).trans hb1
  go_wp2_with fail
  refine (h2.out B d _ hb01 hB.zero).mono ?_
  rintro e w2 ⟨A1, c1, rfl, h1, h2, h3, h4⟩
  go_wp2
  go_ret2
  exact ⟨A1, c1, rfl, h1, h2, h3.more hb01.size, hb01.trans h4⟩
end Go.Proofs.Ytkolimhkfiebeaa

namespace Go.Proofs.Ytkolimhkfiebeaa
open Go.RowKit

def plusT (F : List Times) (k : Int) (S : List Span) : List Times := F ++ if S.length = 0 then [] else [⟨k, S⟩]

set_option maxRecDepth 100000 in
set_option maxHeartbeats 1000000 in
theorem refPut08 (base : Nat) (v : Value) (F : List Times) (k : Int) (S : List Span) (A1 : Option Addr) (c1 : Nat) (W w : World) (hk : 0 ≤ k ∧ k < 256) (hF : F.length ≤ 8) (hW : Own cTimes 96 base W v F) (ho : Own cTimes 96 base w v F) (hbase : base ≤ W.heap.size) (hWw : W.heap.size ≤ w.heap.size)
    (h1 : S.length ≤ c1) (h2 : c1 ≤ maxLen) (hS : R cSpan W.heap.size w A1 S) :
    Calls Try.prog 180 #[v, .int .u8 k, .slice A1 S.length c1] w fun e w' => ∃ v', e = .returned (.tuple #[v', .bool (decide (S.length ≤ 1024))]) ∧ Own cTimes 96 base w' v' (plusT F k S) ∧ Below base w w' := by
  obtain ⟨i0, hi, hz0, hz1, hz2⟩ := info_parts Try.infoTimes
  have hsz1 : base ≤ w.heap.size := Nat.le_trans hbase hWw
  have hdec : ((S.length : Int) ≤ 1024) = (S.length ≤ 1024) := propext (by omega)
  by_cases hS0 : S.length = 0
  · have hSi : ¬ (0 : Int) < (S.length : Int) := by omega
    have hp : plusT F k S = F := by unfold plusT; rw [if_pos hS0, List.append_nil]
    rw [hp]
    clear hp hS0 hdec
    have hdd : (decide ((S.length : Int) ≤ 1024)) = decide (S.length ≤ 1024) := by congr 1; exact propext (by omega)
    go_enter Try.func180, Try.ntmps180
    go_wp2_with fail
    go_ret2
    exact ⟨v, by first | rfl | (rw [hdd]), ho, Below.refl _ _⟩
  · have hSi : (0 : Int) < (S.length : Int) := by omega
    have hp : plusT F k S = F ++ [⟨k, S⟩] := by unfold plusT; rw [if_neg hS0]
    rw [hp]
    clear hp hdec
    have hdd : (decide ((S.length : Int) ≤ 1024)) = decide (S.length ≤ 1024) := by congr 1; exact propext (by omega)
    have hsrc := hide (Own.src2 (C := cTimes) (w1 := w) (t := 96) (cs := [.int .u8 k, .slice A1 S.length c1]) (x := ⟨k, S⟩) hW hbase ⟨hk, A1, c1, h1, h2, rfl, hS⟩)
    have hown2 := ho.bl ((Bl.refl w).alloc (.cells #[.int .u8 k, .slice A1 S.length c1] 96))
    have qa1 : F.length + [(⟨k, S⟩ : Times)].length ≤ maxLen := by rw [List.length_singleton]; unfold maxLen; omega
    have qa2 : (F.length + [(⟨k, S⟩ : Times)].length) * 32 ≤ 140737488355328 := by rw [List.length_singleton]; omega
    have qa3 : base ≤ (w.alloc (.cells #[.int .u8 k, .slice A1 S.length c1] 96)).heap.size := by rw [World.size_alloc]; omega
    replace hown2 := hide hown2
    go_enter Try.func180, Try.ntmps180
    go_wp2_with (at_builtin; refine Hid.out ?_)
    refine hide ?_
    refine wpList_append_any2 (C := cTimes) (xs := F) (ys := [⟨k, S⟩]) rfl (.tmp 11) (.tmp 15) _ rfl 96 i0 _ 32 Try.underlying22 hi hz0 hz1 hz2 rfl v base rfl hown2.out (some ⟨w.heap.size, 0, none⟩) 1 1 rfl rfl hsrc.out qa1 qa2 qa3 ?_
    intro v9 w9 hown9 hg9 hf9
    have hB9 : Below base w w9 := ((Below.refl _ _).alloc hsz1 _).grown hg9 qa3 (fun j hj => (hown2.out.lt hj).1)
    clear hown2 hsrc qa1 qa2 qa3 hg9 hf9
    go_wp2_with fail
    go_ret2
    exact ⟨v9, by first | rfl | (rw [hdd]), hown9, hB9⟩

/-- Has no replica too many? -/
def eachOk (Ls : Nat → List Span) : Nat → Bool
  | 0 => true
  | k + 1 => eachOk Ls k && decide ((Ls k).length ≤ 1024)

def NewB (l : List Times) (b : Bool) (w : World) (e : Ending) (w' : World) : Prop := ∃ A c, e = .returned (.tuple #[.slice A l.length c, .bool b]) ∧ l.length ≤ c ∧ c ≤ maxLen ∧ R cTimes w.heap.size w' A l ∧ Bl w w'

/-- What each replica's spans must be, for Both and Left. -/
def EachFit (a b : List Times) : Prop := ∀ r : Int, 0 ≤ r → r < 8 → (firstOf a r).length ≤ 1048576 ∧ spansFrom 1 (firstOf a r) = true ∧ ∀ y ∈ firstOf b r, okS y

theorem fit_may {a b : List Times} (ha : clockMay a = true) (hb : clockMay b = true) : EachFit a b := fun r _ _ => by
  obtain ⟨h1, h2⟩ := may_from (first_may ha r)
  exact ⟨by omega, h1, from_ok (may_from (first_may hb r)).1⟩

set_option maxRecDepth 100000 in
set_option maxHeartbeats 4000000 in
theorem refBoth08 (A B : Option Addr) (c d : Nat) (a b : List Times) (w : World) (hl : a.length ≤ maxLen) (hm : b.length ≤ maxLen) (hfit : EachFit a b) (hA : R cTimes 0 w A a) (hB : R cTimes 0 w B b) :
    Calls Try.prog 147 #[.slice A a.length c, .slice B b.length d] w (NewB (eachL (fun r => bothF (firstOf a r) (firstOf b r)) 8) (eachOk (fun r => bothF (firstOf a r) (firstOf b r)) 8) w) := by
  have hsa := hide fun r => refSpans08 A c a r w hl hA
  have hsb := hide fun r => refSpans08 B d b r w hm hB
  have hbo := hide fun (k : Nat) (hk : k < 8) X x Y y V (h1 : (firstOf b k).length ≤ maxLen) (hX : R cSpan 0 V X (firstOf a k)) (hY : R cSpan 0 V Y (firstOf b k)) => refBoth07 X Y x y (firstOf a k) (firstOf b k) V (hfit k (by omega) (by omega)).1 h1 (hfit k (by omega) (by omega)).2.1 (hfit k (by omega) (by omega)).2.2 hX hY
  obtain ⟨Ls, hLs⟩ : ∃ Ls : Nat → List Span, Ls = fun (r : Nat) => bothF (firstOf a r) (firstOf b r) := ⟨_, rfl⟩
  rw [← hLs]
  have hbo' : Hid (∀ (k : Nat) (hk : k < 8) X x Y y V (h1 : (firstOf b k).length ≤ maxLen) (hX : R cSpan 0 V X (firstOf a k)) (hY : R cSpan 0 V Y (firstOf b k)), Calls Try.prog 181 #[.slice X (firstOf a k).length x, .slice Y (firstOf b k).length y] V (New cSpan (Ls k) V)) := by
    rw [hLs]
    exact hbo
  clear hbo hLs hfit
  go_enter Try.func147, Try.ntmps147
  go_wp2_with fail
  go_loopw [6, 7, 8] (fun v6 v7 v8 wr => Bl w wr ∧ ∃ k : Nat, k ≤ 8 ∧ v8 = .int .u8 k ∧ Own cTimes 96 w.heap.size wr v6 (eachL Ls k) ∧ v7 = .bool (eachOk Ls k)) (fun _ _ v8 _ => 8 - (intOf v8).toNat)
  case atStart => exact ⟨Bl.refl _, 0, Nat.zero_le _, rfl, Own.nil, rfl⟩
  case round =>
    obtain ⟨hbl, k, hk, rfl, hown, rfl⟩ := hrel
    by_cases hlt : k < 8
    · have hki : (k : Int) < 8 := by omega
      obtain ⟨X, x, hx1, hx2, hXr, hxc⟩ := hsa.out k
      obtain ⟨Y, y, hy1, hy2, hYr, hyc⟩ := hsb.out k
      have hcb := hbo'.out k hlt
      have hel := hide (show eachL Ls (k + 1) = plusT (eachL Ls k) k (Ls k) from rfl)
      have heo := hide (show eachOk Ls (k + 1) = (eachOk Ls k && decide ((Ls k).length ≤ 1024)) from rfl)
      have hFl := eachL_len Ls k
      replace hxc := hide hxc
      replace hyc := hide hyc
      generalize firstOf a k = Xs at *
      generalize firstOf b k = Ys at *
      generalize eachL Ls k = F at *
      generalize eachOk Ls k = q at *
      generalize Ls k = S at *
      replace hcb := hide hcb
      go_wp2_with fail
      refine (hxc.out _ hbl).mono ?_
      rintro e w1 ⟨rfl, hb1⟩
      have hb01 := hbl.trans hb1
      go_wp2_with fail
      refine (hyc.out _ hb01).mono ?_
      rintro e w2 ⟨rfl, hb2⟩
      have hb02 := hb01.trans hb2
      go_wp2_with fail
      refine (hcb.out X x Y y _ (Nat.le_trans hy1 hy2) (hXr.bl hb02) (hYr.bl hb02)).mono ?_
      rintro e w3 ⟨A3, c3, rfl, h31, h32, hS, hb3⟩
      have hb03 := hb02.trans hb3
      go_wp2_with fail
      refine (refPut08 w.heap.size u6 F k S A3 c3 w2 w3 (by omega) (by omega) (hown.bl (hb1.trans hb2)) (hown.bl ((hb1.trans hb2).trans hb3)) hb02.size hb3.size h31 h32 hS).mono ?_
      rintro e w4 ⟨v4, rfl, hown4, hB4⟩
      have hb04 := hb03.step hB4
      cases q
      all_goals
        go_wp2_with fail
        go_roundw
        case rel => exact ⟨hb04, k + 1, by omega, by go_num, by rw [hel.out]; exact hown4, by rw [heo.out]; rfl⟩
        case measure => simp [intOf]; omega
    · have hk8 : k = 8 := by omega
      subst hk8
      generalize eachL Ls 8 = F at *
      generalize eachOk Ls 8 = q at *
      obtain ⟨A', c', rfl, hr, q1, q2⟩ := hown.reads
      go_wp2_with fail
      go_ret2
      exact ⟨A', c', rfl, q1, q2, hr, hbl⟩

end Go.Proofs.Ytkolimhkfiebeaa


namespace Go.Proofs.Ytkolimhkfiebeaa
open Go.RowKit

/-! ### Plain -/

/-- Two clocks, replica by replica, as the references say. -/
def rcL (f : List Span → List Span → List Span) (a b : List Times) : List Times :=
  if clockMay a && clockMay b then (if eachOk (fun r => f (firstOf a r) (firstOf b r)) 8 then eachL (fun r => f (firstOf a r) (firstOf b r)) 8 else []) else []

def rcN (f : List Span → List Span → List Span) (a b : List Times) : Int :=
  if clockMay a && clockMay b then okOr 4 (eachOk (fun r => f (firstOf a r) (firstOf b r)) 8) else 8

theorem each_told {Ls Fs : Nat → List Span} {Ns : Nat → Int} (h : ∀ r, Ls r = toldL (Fs r) ∧ Ns r = toldN (Fs r)) : ∀ k, (eachOk Fs k = true ∧ eachN Ns k = 0 ∧ eachL Ls k = eachL Fs k) ∨ (eachOk Fs k = false ∧ eachN Ns k = 4)
  | 0 => .inl ⟨rfl, rfl, rfl⟩
  | k + 1 => by
    obtain ⟨h1, h2⟩ := h k
    unfold eachOk eachN eachL
    rcases each_told h k with ⟨e1, e2, e3⟩ | ⟨e1, e2⟩
    · rw [e1, e2, e3, h1, h2]
      unfold toldL toldN
      by_cases hl : 1024 < (Fs k).length
      · right
        simp [hl]
      · left
        simp [hl]
        omega
    · right
      rw [e1, e2]
      simp

theorem cset_eq (want : Bool → Bool → Bool) (f : List Span → List Span → List Span) (hf : ∀ x y, spansMay x = true → spansMay y = true → setL want x y = toldL (f x y) ∧ setN want x y = toldN (f x y)) (a b : List Times) : cSetL want a b = rcL f a b ∧ cSetN want a b = rcN f a b := by
  unfold cSetL cSetN rcL rcN outL
  cases h : clockMay a && clockMay b
  · exact ⟨rfl, rfl⟩
  · rw [Bool.and_eq_true] at h
    have hh : ∀ r : Nat, setL want (tabOf a r) (tabOf b r) = toldL (f (firstOf a r) (firstOf b r)) ∧ setN want (tabOf a r) (tabOf b r) = toldN (f (firstOf a r) (firstOf b r)) := fun r => by
      rw [tab_first h.1, tab_first h.2]
      exact hf _ _ (first_may h.1 r) (first_may h.2 r)
    rcases each_told hh 8 with ⟨e1, e2, e3⟩ | ⟨e1, e2⟩
    · rw [e1, e2, e3]; exact ⟨rfl, rfl⟩
    · rw [e1, e2]; exact ⟨rfl, rfl⟩

theorem cjoin_eq (a b : List Times) : cSetL orB a b = rcL bothF a b ∧ cSetN orB a b = rcN bothF a b :=
  cset_eq orB bothF (fun x y hx hy => by
    have h := join_eq x y
    rw [h.1, h.2]
    unfold rJoinL rJoinN
    rw [hx, hy]
    exact ⟨rfl, rfl⟩) a b

theorem cless_eq (a b : List Times) : cSetL lessB a b = rcL leftF a b ∧ cSetN lessB a b = rcN leftF a b :=
  cset_eq lessB leftF (fun x y hx hy => by
    have h := less_eq7 x y
    rw [h.1, h.2]
    unfold rLessL7 rLessN7
    rw [hx, hy]
    exact ⟨rfl, rfl⟩) a b

theorem one_may {x : Id} (hx : x.ok) : clockMay (oneT x) = idMay x := by
  unfold clockMay oneT clockFrom clockFrom idMay
  rw [may_one]
  unfold okX
  have := hx.2.2.1
  simp
  by_cases h1 : 1 ≤ x.t <;> by_cases h2 : x.t ≤ 1073741824 <;> by_cases h3 : x.r < 8 <;> simp [h1, h2, h3] <;> omega

/-! ### Walks -/

set_option maxRecDepth 100000 in
theorem refOne08 (x : Id) (w : World) (hx : x.ok) :
    Calls Try.prog 148 #[.agg #[.int .u32 x.t, .int .u8 x.r]] w fun e w' => ∃ A c, e = .returned (.slice A (oneT x).length c) ∧ (oneT x).length ≤ c ∧ c ≤ maxLen ∧ R cTimes w.heap.size w' A (oneT x) ∧ Bl w w' := by
  have h := R.oneT (w := w.alloc (.cells #[.int .u32 x.t, .int .u8 x.r] 36)) (lo := w.heap.size) x hx (by rw [World.size_alloc]; omega) 96 93
  rw [World.size_alloc w] at h
  replace h := hide h
  have hb : Bl w (((w.alloc (.cells #[.int .u32 x.t, .int .u8 x.r] 36)).alloc (.cells #[.int .u32 x.t, .int .u32 x.t] 93)).alloc (.cells #[.int .u8 x.r, .slice (some ⟨w.heap.size + 1, 0, none⟩) 1 1] 96)) := (((Bl.refl w).alloc _).alloc _).alloc _
  go_enter Try.func148, Try.ntmps148
  go_wp2
  go_ret
  exact ⟨_, 1, rfl, Nat.le_refl _, by decide, h.out, hb⟩

/-- What is behind the check: told of what was made. -/
def RcP (f : List Span → List Span → List Span) (a b : List Times) (w : World) (e : Ending) (w' : World) : Prop := New2 cTimes (rcL f a b) (rcN f a b) w e w'

theorem rc_bad {f : List Span → List Span → List Span} {a b : List Times} (h : (clockMay a && clockMay b) = false) : rcL f a b = [] ∧ rcN f a b = 8 := by
  unfold rcL rcN
  rw [h]
  exact ⟨rfl, rfl⟩

theorem rc_good {f : List Span → List Span → List Span} {a b : List Times} (h : (clockMay a && clockMay b) = true) : rcL f a b = (if eachOk (fun r => f (firstOf a r) (firstOf b r)) 8 then eachL (fun r => f (firstOf a r) (firstOf b r)) 8 else []) ∧ rcN f a b = okOr 4 (eachOk (fun r => f (firstOf a r) (firstOf b r)) 8) := by
  unfold rcL rcN
  rw [h]
  exact ⟨rfl, rfl⟩

end Go.Proofs.Ytkolimhkfiebeaa


namespace Go.Proofs.Ytkolimhkfiebeaa
open Go.RowKit

/-! ### Plain -/

/-- One time more, behind. -/
def runStep (s : List Span) (t : Int) : List Span := match s.getLast? with
  | some x => if x.t + 1 = t then s.dropLast ++ [⟨x.f, t⟩] else s ++ [⟨t, t⟩]
  | none => s ++ [⟨t, t⟩]

def runsOf (l : List Int) : List Span := l.foldl runStep []

def timesOf (r : Int) (l : List Id) : List Int := (l.filter fun x => decide (x.r = r)).map (·.t)

theorem runs_snoc {l : List Int} {k : Nat} {t : Int} (h : l[k]? = some t) : runsOf (l.take (k + 1)) = runStep (runsOf (l.take k)) t := by
  unfold runsOf
  rw [take_snoc h, List.foldl_append]
  rfl

theorem times_snoc {l : List Id} {k : Nat} {x : Id} (h : l[k]? = some x) (r : Int) : timesOf r (l.take (k + 1)) = if r = x.r then timesOf r (l.take k) ++ [x.t] else timesOf r (l.take k) := by
  unfold timesOf
  rw [take_snoc h, List.filter_append, List.map_append]
  by_cases e : r = x.r
  · rw [if_pos e]
    simp [e]
  · have e2 : ¬ x.r = r := fun h => e h.symm
    rw [if_neg e]
    simp [e2]

theorem runStep_nil (t : Int) : runStep [] t = [⟨t, t⟩] := rfl

theorem runStep_snoc (s : List Span) (x : Span) (t : Int) : runStep (s ++ [x]) t = if x.t + 1 = t then s ++ [⟨x.f, t⟩] else s ++ [x] ++ [⟨t, t⟩] := by
  unfold runStep
  rw [List.getLast?_append]
  simp

/-! ### What is owned -/

section

variable {α : Type} {C : Codec α} {e : TypeId} {lo : Nat} {w w' : World} {v : Value} {xs : List α}

theorem Own.formG (h : Own C e lo w v xs) : (v = .slice none 0 0 ∧ xs = []) ∨ ∃ g cap, v = .slice (some ⟨g, 0, none⟩) xs.length cap ∧ lo ≤ g ∧ g < w.heap.size ∧ xs.length ≤ cap ∧ cap ≤ maxLen := by
  obtain ⟨cells, ⟨hcl, hnl | ⟨g, cap, cur, hv, hbg, hgc, hnc, hcm, hsz, htk⟩⟩, hr⟩ := h
  · exact .inl ⟨hnl.1, List.eq_nil_of_length_eq_zero hnl.2⟩
  · exact .inr ⟨g, cap, hv, hbg, (Array.getElem?_eq_some_iff.1 hgc).1, hnc, hcm⟩

/-- Whatever else grows. -/
theorem Own.grown {row : Option Nat} (h : Own C e lo w v xs) (hflat : ∀ {w S x cs}, C.rd w S x cs → ∀ w' S', C.rd w' S' x cs) (hg : w.grownBy w' row) (hne : ∀ b, v.ownBlock = some b → row ≠ some b) : Own C e lo w' v xs := by
  obtain ⟨cells, ho, hr⟩ := h
  refine ⟨cells, ho.kept hg ?_, ?_⟩
  · cases hv : v.ownBlock with
    | none => exact .inl rfl
    | some b => exact .inr fun e' => hne b hv e'.symm
  · revert hr
    generalize (fun b => (lo ≤ b ∧ b < w.heap.size) ∧ v.ownBlock ≠ some b) = S
    generalize (fun b => (lo ≤ b ∧ b < w'.heap.size) ∧ v.ownBlock ≠ some b) = S'
    clear ho
    induction xs generalizing cells with
    | nil => exact id
    | cons x xs ih => exact fun ⟨a, b, e1, ha, hb⟩ => ⟨a, b, e1, hflat ha _ _, ih _ hb⟩

end

theorem flatU : ∀ {w : World} {S : Nat → Prop} {x : Int} {cs : List Value}, cU32.rd w S x cs → ∀ (w' : World) (S' : Nat → Prop), cU32.rd w' S' x cs := fun h _ _ => h

/-- A slice's last span is written. -/
theorem Own.setLast {e : TypeId} {lo g : Nat} {W : World} {v : Value} {xs : List Span} {x : Span} {t : Int} (h : Own cSpan e lo W v (xs ++ [x])) (hv : v.ownBlock = some g) (ht : 0 ≤ t ∧ t < 4294967296) :
    Own cSpan e lo (W.setCell ⟨g, xs.length * 2 + 1, none⟩ (.int .u32 t)) v (xs ++ [⟨x.f, t⟩]) := by
  obtain ⟨cells, ⟨hcl, ho⟩, hr⟩ := h
  rcases ho with ⟨rfl, _⟩ | ⟨g', cap, cur, rfl, hbg, hgc, hnc, hcm, hsz, htk⟩
  · cases hv
  · obtain rfl : g' = g := by simpa [Value.ownBlock] using hv
    obtain ⟨ca, co, rfl, hra, hro⟩ := hr.split
    obtain ⟨cx, cn, rfl, ⟨hxo, rfl⟩, hnil⟩ := hro
    obtain rfl : cn = [] := hnil
    have hcal : ca.length = xs.length * 2 := hra.length
    refine ⟨ca ++ [.int .u32 x.f, .int .u32 t], ⟨by simp [hcal, cSpan]; omega, .inr ⟨g', cap, cur.setIfInBounds (xs.length * 2 + 1) (.int .u32 t), ?_, hbg, ?_, ?_, hcm, ?_, ?_⟩⟩, ?_⟩
    · simp
    · exact heap_setCell_same W g' _ cur e _ hgc
    · simpa using hnc
    · simpa using hsz
    · rw [Array.toList_setIfInBounds, List.take_set]
      have : (xs ++ [(⟨x.f, t⟩ : Span)]).length = (xs ++ [x]).length := by simp
      rw [this, htk, List.append_nil, ← hcal, List.set_append_right _ _ (by omega)]
      simp
    · have h1 := rdl_span (w' := W.setCell ⟨g', xs.length * 2 + 1, none⟩ (.int .u32 t)) (S' := fun b => (lo ≤ b ∧ b < (W.setCell ⟨g', xs.length * 2 + 1, none⟩ (.int .u32 t)).heap.size) ∧ (Value.slice (some ⟨g', 0, none⟩) (xs ++ [x]).length cap).ownBlock ≠ some b) hra
      exact h1.append (RdL.one1 (C := cSpan) (x := ⟨x.f, t⟩) ⟨⟨hxo.1, hxo.2.1, ht.1, ht.2⟩, rfl⟩)

/-- A map of slices of numbers, each one's own. -/
structure OwnT (lo : Nat) (w : World) (bm n : Nat) (f : Int → Value) (ls : Int → List Int) : Prop where
  map : MapAt w bm n f
  row : ∀ r, Own cU32 31 lo w (f r) (ls r)
  sep : ∀ r s b, r ≠ s → (f r).ownBlock = some b → (f s).ownBlock ≠ some b

theorem OwnT.bl {lo : Nat} {w w' : World} {bm n : Nat} {f : Int → Value} {ls : Int → List Int} (h : OwnT lo w bm n f ls) (hb : Bl w w') : OwnT lo w' bm n f ls := ⟨h.map.bl hb, fun r => (h.row r).bl hb, h.sep⟩

theorem OwnT.made (lo : Nat) (w : World) : OwnT lo (w.alloc (.map #[] 0)) w.heap.size 0 (fun _ => .slice none 0 0) (fun _ => []) := ⟨MapAt.made w, fun _ => Own.nil, fun _ _ _ _ h => by cases h⟩

theorem MapAt.lookupU {w : World} {b n : Nat} {f : Int → Value} {r : Int} (h : MapAt w b n f) (h0 : 0 ≤ r) (h1 : r < 256) (t : TypeId) (ht : Try.prog.underlying t = some (.map 5 124)) :
    (Instr.lookup t (.map (some b)) (.int .u8 r) false).run Try.prog w = .ok (f r) w := by
  obtain ⟨D, hD, hf⟩ := h
  obtain ⟨v, ps, hrun, hv⟩ := hD.lookup key8 ht (z := .slice none 0 0) (zd := .held (.slice none 0 0)) (zp := []) (by kernel_rfl) rfl (key8_of h0 h1)
  rw [hf r h0 h1] at hv
  unfold exactElem at hv
  simp only [Option.some.injEq, Prod.mk.injEq, DataW.held.injEq] at hv
  rw [hrun, hv.1]

theorem MapAt.putU {w : World} {b n : Nat} {f : Int → Value} {r : Int} {v : Value} (h : MapAt w b n f) (h0 : 0 ≤ r) (h1 : r < 256) (hn : n < maxLen) (t : TypeId) (ht : Try.prog.underlying t = some (.map 5 124)) :
    ∃ w', (Instr.mapUpdate t (.map (some b)) (.int .u8 r) v).run Try.prog w = .ok () w' ∧ MapAt w' b (n + 1) (fun q => if q = r then v else f q) ∧ w.grownBy w' (some b) := by
  obtain ⟨D, hD, hf⟩ := h
  obtain ⟨w', hrun, hD', hg⟩ := hD.update key8 ht hn (key8_of h0 h1) (val := v) (d := .held v) (ps := []) rfl
  refine ⟨w', hrun, ⟨_, hD', fun q q0 q1 => ?_⟩, hg⟩
  show _ = DataW.held (if q = r then v else f q)
  by_cases hq : q = r
  · subst hq
    rw [if_pos rfl]
    exact Maps.atKey_put_same hD.isMap (by trivial) _ _
  · rw [if_neg hq, Maps.atKey_put_other (by intro e; injection e with _ e; exact hq e)]
    exact hf q q0 q1

/-- A number is appended to one of the slices, and what comes is put. -/
theorem OwnT.step {lo bm n : Nat} {w w9 w10 : World} {tmp : Obj} {f : Int → Value} {ls : Int → List Int} {r : Int} {v : Value} {xs : List Int} (h : OwnT lo w bm n f ls) (hv : Own cU32 31 lo w9 v xs) (hg : (w.alloc tmp).grownBy w9 (f r).ownBlock) (hf : Far (w.alloc tmp) (f r) w9 v)
    (hm : MapAt w10 bm (n + 1) (fun q => if q = r then v else f q)) (hg2 : w9.grownBy w10 (some bm)) (hm9 : MapAt w9 bm n f) : OwnT lo w10 bm (n + 1) (fun q => if q = r then v else f q) (fun q => if q = r then xs else ls q) := by
  have hb : Bl w (w.alloc tmp) := (Bl.refl _).alloc _
  have hnm : ∀ {u : Value} {ys : List Int}, Own cU32 31 lo w9 u ys → ∀ b, u.ownBlock = some b → (some bm : Option Nat) ≠ some b := fun {u ys} ho b hb' e => own_not_map ho hm9 (e.trans hb'.symm)
  have hrow : ∀ q, q ≠ r → Own cU32 31 lo w9 (f q) (ls q) := fun q hq => ((h.row q).bl hb).grown flatU hg fun b h1 => h.sep q r b hq h1
  refine ⟨hm, fun q => ?_, fun q s b hqs h1 => ?_⟩
  · by_cases e : q = r
    · subst e
      simp only [if_true]
      exact hv.grown flatU hg2 (hnm hv)
    · simp only [if_neg e]
      exact (hrow q e).grown flatU hg2 (hnm (hrow q e))
  · by_cases e : q = r
    · subst e
      simp only [if_true] at h1
      simp only [if_neg fun h : s = q => hqs h.symm]
      intro h2
      have hlt := ((h.row s).lt h2).2
      exact (hf.2 b (by rw [World.size_alloc]; omega) (h.sep s q b (fun h => hqs h.symm) h2)).2 h1
    · simp only [if_neg e] at h1
      by_cases e2 : s = r
      · subst e2
        simp only [if_true]
        have hlt := ((h.row q).lt h1).2
        exact (hf.2 b (by rw [World.size_alloc]; omega) (h.sep q s b e h1)).2
      · simp only [if_neg e2]
        exact h.sep q s b hqs h1
end Go.Proofs.Ytkolimhkfiebeaa

namespace Go.Proofs.Ytkolimhkfiebeaa
open Go.RowKit

theorem grown_putRow {α : Type} [Inhabited α] {enc : α → Value} {w : World} {blk off n : Nat} {d : Array α} {os : Array Obj} : w.grownBy (Sort.grow (Sort.putRow enc (Sort.ahead w n) blk off d) os) (some blk) := by
  refine ⟨rfl, rfl, rfl, by simp, fun k hk hne => ?_⟩
  rw [Sort.heap_grow_old _ _ (by simp; omega)]
  show (w.heap.modify blk _)[k]? = _
  rw [Array.getElem?_modify, if_neg (fun e => hne (by rw [e]))]

theorem grown_refl (w : World) (row : Option Nat) : w.grownBy w row := ⟨rfl, rfl, rfl, Nat.le_refl _, fun _ _ _ => rfl⟩

theorem sortU2 (base : Nat) (A : Option Addr) (c : Nat) (l : List Int) (w : World) (hl : l.length ≤ 1099511627776) (hA : R cU32 base w A l) :
    Calls Try.prog 93 #[.slice A l.length c] w fun e w' => e = .returned (.tuple #[]) ∧ R cU32 base w' A (srt l) ∧ w.grownBy w' (Value.slice A l.length c).ownBlock := by
  by_cases h0 : l = []
  · subst h0
    refine (Sort_u32_nil A c w).mono ?_
    rintro e w' ⟨rfl, rfl⟩
    exact ⟨rfl, by rw [show srt [] = [] by unfold srt; simp]; exact R.nil, grown_refl _ _⟩
  · obtain ⟨b, off, rfl, hb1, hb2⟩ := hA.addr (List.length_pos_iff.2 h0)
    have hok := hA.oksU
    refine (slices_Sort_u32 b off c l w hA.holdsU hb2 (by omega)).mono ?_
    rintro e w' ⟨rfl, n, os, rfl⟩
    refine ⟨rfl, ?_, grown_putRow⟩
    have hsz : (srt l).toArray.size = l.toArray.size := by simp [srt_len]
    have hH := Sort.holds_grow (Value.int .u32) (Sort.putRow (Value.int .u32) (Sort.ahead w n) b off (srt l).toArray) os b off (srt l).toArray (by simp; exact hb2) (Sort.holds_putRow _ _ b off l.toArray _ (Sort.holds_ahead _ _ n _ _ _ hA.holdsU) hsz)
    refine R.ofU ⟨hb1, by simp; omega⟩ (fun x hx => hok x (srt_mem.1 hx)) fun j x hx => ?_
    have hj : j < (srt l).length := (List.getElem?_eq_some_iff.1 hx).1
    have := hH j (by simpa using hj)
    rw [show (srt l).toArray[j]! = x by simp [hj]; exact (List.getElem?_eq_some_iff.1 hx).2] at this
    exact this

theorem cmp_nil : cmp [] = [] := List.eq_nil_of_length_eq_zero (Nat.le_zero.1 (cmp_le []))

theorem cmpU2 (base : Nat) (A : Option Addr) (c : Nat) (l : List Int) (w : World) (hl : l.length ≤ 1099511627776) (hc : l.length ≤ c) (hA : R cU32 base w A l) :
    Calls Try.prog 94 #[.slice A l.length c] w fun e w' => e = .returned (.slice A (cmp l).length c) ∧ R cU32 base w' A (cmp l) ∧ w.grownBy w' (Value.slice A l.length c).ownBlock := by
  by_cases h0 : l = []
  · subst h0
    refine (cmpU_nil A c w).mono ?_
    rintro e w' ⟨rfl, rfl⟩
    rw [cmp_nil]
    exact ⟨rfl, R.nil, grown_refl _ _⟩
  obtain ⟨b, off, rfl, hb1, hb2⟩ := hA.addr (List.length_pos_iff.2 h0)
  have hok := hA.oksU
  have h := compactU b off c l.toArray w hA.holdsU (by simp; omega) (by simpa using hc)
  rw [show l.toArray.size = l.length by simp] at h
  refine h.mono ?_
  rintro e w' ⟨rfl, q, rfl⟩
  have hcl := cmp_le l
  have hcm : cmp l = Lib.compactUpTo l.toArray l.length := by unfold cmp; simp
  rw [← hcm]
  have hB := grown_putRow (enc := Value.int .u32) (w := w) (blk := b) (off := off) (n := q) (d := (cmp l ++ List.replicate (l.length - (cmp l).length) 0).toArray) (os := #[])
  rw [Sort.grow_empty] at hB
  refine ⟨rfl, ?_, hB⟩
  have hH := Sort.holds_putRow (Value.int .u32) (Sort.ahead w q) b off l.toArray (cmp l ++ List.replicate (l.length - (cmp l).length) 0).toArray (Sort.holds_ahead _ _ q _ _ _ hA.holdsU) (by simp; omega)
  refine R.ofU ⟨hb1, by simp; omega⟩ (fun x hx => hok x (cmp_mem1 hx)) fun j x hx => ?_
  have hj : j < (cmp l).length := (List.getElem?_eq_some_iff.1 hx).1
  have := hH j (by simp; omega)
  have hxe : (cmp l ++ List.replicate (l.length - (cmp l).length) 0).toArray[j]! = x := by
    rw [getElem!_pos _ _ (by simp; omega)]
    simp only [List.getElem_toArray]
    rw [List.getElem_append_left hj]
    exact (List.getElem?_eq_some_iff.1 hx).2
  rw [hxe] at this
  exact this

/-- How the world stands as clock.Of's closure goes on: r is the round, the slices from q on are as they were. -/
structure OfQ (w0 w : World) (bm box rb n : Nat) (f : Int → Value) (ls : Int → List Int) (r q : Nat) (W : World) : Prop where
  size : w.heap.size ≤ W.heap.size
  old : Below w0.heap.size w0 W
  cbox : W.cell? ⟨box, 0, none⟩ = some (.map (some bm))
  crb : W.cell? ⟨rb, 0, none⟩ = some (.int .u8 r)
  frb : W.frozen? ⟨rb, 0, none⟩ = false
  map : MapAt W bm n f
  row : ∀ s : Int, (q : Int) ≤ s → s < 8 → Own cU32 31 (box + 1) W (f s) (ls s)

/-- Where what the closure uses lies. -/
structure OfWhere (w0 w : World) (bm box rb : Nat) (f : Int → Value) (ls : Int → List Int) : Prop where
  low : w0.heap.size ≤ bm
  hbm : bm < box
  hbox : box < rb
  hrb : rb < w.heap.size
  sep : ∀ r s b, r ≠ s → (f r).ownBlock = some b → (f s).ownBlock ≠ some b
  high : ∀ s b, (f s).ownBlock = some b → box < b ∧ b < rb
  len : ∀ s, (ls s).length ≤ 1024
  tm : ∀ s, ∀ t ∈ ls s, 0 ≤ t ∧ t ≤ 1073741824

theorem own_flat {lo : Nat} {W W' : World} {v : Value} {xs : List Int} (h : Own cU32 31 lo W v xs) (hg : ∀ b, v.ownBlock = some b → W'.heap[b]? = W.heap[b]?) : Own cU32 31 lo W' v xs := by
  obtain ⟨cells, ⟨c1, co⟩, hr⟩ := h
  obtain ⟨rfl, hk⟩ := rdl_u32_inv hr
  refine ⟨xs.map (Value.int .u32), ⟨c1, ?_⟩, rdl_u32 _ hk⟩
  rcases co with co | ⟨g, cap, cur, rfl, g1, g2, g3⟩
  · exact .inl co
  · exact .inr ⟨g, cap, cur, rfl, g1, (hg g rfl).trans g2, g3⟩

theorem MapAt.flat {W W' : World} {b n : Nat} {f : Int → Value} (h : MapAt W b n f) (hg : W'.heap[b]? = W.heap[b]?) : MapAt W' b n f := by
  obtain ⟨D, ⟨es, ck, m1, m2⟩, m3⟩ := h
  exact ⟨D, ⟨es, ck, hg.trans m1, m2⟩, m3⟩

theorem OfQ.still {w0 w W W' : World} {bm box rb n r q : Nat} {f : Int → Value} {ls : Int → List Int} (hw : OfWhere w0 w bm box rb f ls) (hb : Below w.heap.size W W') (h : OfQ w0 w bm box rb n f ls r q W) : OfQ w0 w bm box rb n f ls r q W' := by
  have hbx : box < w.heap.size := Nat.lt_trans hw.hbox hw.hrb
  have hbm : bm < w.heap.size := Nat.lt_trans hw.hbm hbx
  exact ⟨Nat.le_trans h.size hb.size, h.old.trans (hb.mono (by have := hw.low; omega)), (hb.cell (p := ⟨box, 0, none⟩) hbx).trans h.cbox, (hb.cell (p := ⟨rb, 0, none⟩) hw.hrb).trans h.crb, (hb.frozen (p := ⟨rb, 0, none⟩) hw.hrb).trans h.frb, h.map.flat (hb.block bm hbm),
    fun s s0 s1 => own_flat (h.row s s0 s1) fun b hb' => hb.block b (by have := (hw.high s b hb').2; have := hw.hrb; omega)⟩

/-- One slice is written over. -/
theorem OfQ.written {w0 w W W' : World} {bm box rb n r q : Nat} {f : Int → Value} {ls : Int → List Int} (hw : OfWhere w0 w bm box rb f ls) (h : OfQ w0 w bm box rb n f ls r q W) (hq : q ≤ r + 1) (hg : W.grownBy W' (f r).ownBlock) : OfQ w0 w bm box rb n f ls r (r + 1) W' := by
  have hbx : box < w.heap.size := Nat.lt_trans hw.hbox hw.hrb
  have hbm : bm < w.heap.size := Nat.lt_trans hw.hbm hbx
  have hsz := h.size
  have hk : ∀ k, k < w.heap.size → (k ≤ box ∨ rb ≤ k) → W'.heap[k]? = W.heap[k]? := fun k hk hor => hg.block k (by omega) fun e => by
    have := hw.high r k e.symm
    omega
  exact ⟨Nat.le_trans hsz hg.size, h.old.grown hg h.old.size (fun k e => by have := (hw.high r k e).1; have := hw.low; have := hw.hbm; omega), (World.cell?_of_block (a := ⟨box, 0, none⟩) (hk box hbx (.inl (Nat.le_refl _)))).trans h.cbox, (World.cell?_of_block (a := ⟨rb, 0, none⟩) (hk rb hw.hrb (.inr (Nat.le_refl _)))).trans h.crb,
    (World.frozen?_of_block (a := ⟨rb, 0, none⟩) (hk rb hw.hrb (.inr (Nat.le_refl _)))).trans h.frb, h.map.flat (hk bm hbm (.inl (Nat.le_of_lt hw.hbm))),
    fun s s0 s1 => own_flat (h.row s (by omega) s1) fun b hb' => hg.block b (by have := (hw.high s b hb').2; have := hw.hrb; omega) fun e => hw.sep s r b (by omega) hb' e.symm⟩

/-- The round is counted. -/
theorem OfQ.next {w0 w W : World} {bm box rb n r q : Nat} {f : Int → Value} {ls : Int → List Int} (hw : OfWhere w0 w bm box rb f ls) (h : OfQ w0 w bm box rb n f ls r q W) : OfQ w0 w bm box rb n f ls (r + 1) q (W.setCell ⟨rb, 0, none⟩ (.int .u8 ((r : Int) + 1))) := by
  have hk : ∀ k, k ≠ rb → (W.setCell ⟨rb, 0, none⟩ (.int .u8 ((r : Int) + 1))).heap[k]? = W.heap[k]? := fun k hk => Below.heap_setCell _ _ _ _ hk
  have hbr := hw.hbox
  have hbm := hw.hbm
  refine ⟨by simp [World.setCell]; exact h.size, h.old.setCell (p := ⟨rb, 0, none⟩) (by have := hw.low; show w0.heap.size ≤ rb; omega) _, (World.cell?_of_block (a := ⟨box, 0, none⟩) (hk box (by omega))).trans h.cbox, ?_, by rw [World.frozen?_setCell]; exact h.frb, h.map.flat (hk bm (by omega)), fun s s0 s1 => own_flat (h.row s s0 s1) fun b hb' => hk b (by have := (hw.high s b hb').2; omega)⟩
  have := box_set_same (u := .int .u8 ((r : Int) + 1)) h.crb
  rw [this]
  simp
end Go.Proofs.Ytkolimhkfiebeaa

namespace Go.Proofs.Ytkolimhkfiebeaa
open Go.RowKit

/-! ### A clock and its replicas' spans -/

theorem first_append (l m : List Times) (r : Int) : firstOf (l ++ m) r = match l.find? (fun x => decide (x.r = r)) with
    | some x => x.s
    | none => firstOf m r := by
  unfold firstOf
  rw [List.find?_append]
  cases l.find? (fun x => decide (x.r = r)) <;> rfl

theorem eachL_low (Ls : Nat → List Span) : ∀ k, ∀ x ∈ eachL Ls k, 0 ≤ x.r ∧ x.r < k
  | 0, x, h => by cases h
  | k + 1, x, h => by
    unfold eachL at h
    rcases List.mem_append.1 h with h | h
    · have := eachL_low Ls k x h
      omega
    · split at h
      · cases h
      · rw [List.mem_singleton] at h
        subst h
        exact ⟨by dsimp only; omega, by dsimp only; omega⟩

theorem first_each (Ls : Nat → List Span) (r : Nat) : ∀ k, firstOf (eachL Ls k) r = if r < k then Ls r else []
  | 0 => by rw [if_neg (Nat.not_lt_zero _)]; rfl
  | k + 1 => by
    have ih := first_each Ls r k
    unfold eachL
    rw [first_append]
    by_cases h : r = k
    · subst h
      rw [List.find?_eq_none.2 fun x hx => by have := eachL_low Ls r x hx; simp; omega, if_pos (Nat.lt_succ_self _)]
      by_cases h0 : (Ls r).length = 0
      · rw [if_pos h0, List.eq_nil_of_length_eq_zero h0]
        rfl
      · rw [if_neg h0]
        simp [firstOf]
    · have hf : firstOf (if (Ls k).length = 0 then [] else [⟨k, Ls k⟩]) r = [] := by
        split
        · rfl
        · have hne : ¬ (k : Int) = (r : Int) := by omega
          simp [firstOf, hne]
      rw [hf]
      unfold firstOf at ih
      by_cases hk : r < k
      · rw [if_pos hk] at ih
        rw [if_pos (by omega)]
        exact ih
      · rw [if_neg hk] at ih
        rw [if_neg (by omega)]
        exact ih

theorem from_append {l : List Times} {x : Times} : ∀ {last : Int}, clockFrom last l = true → (∀ y ∈ l, y.r < x.r) → last < x.r → x.r < 8 → 1 ≤ x.s.length → spansMay x.s = true → clockFrom last (l ++ [x]) = true := by
  induction l with
  | nil =>
    intro last _ _ h1 h2 h3 h4
    simp [clockFrom, h1, h2, h3, h4]
  | cons y l ih =>
    intro last h hl h1 h2 h3 h4
    simp only [clockFrom, Bool.and_eq_true] at h
    simp only [List.cons_append, clockFrom, Bool.and_eq_true]
    exact ⟨h.1, ih h.2 (fun z hz => hl z (List.mem_cons_of_mem _ hz)) (hl y (List.mem_cons_self ..)) h2 h3 h4⟩

theorem each_from {Ls : Nat → List Span} : ∀ k, k ≤ 8 → (∀ r, r < k → spansMay (Ls r) = true) → clockMay (eachL Ls k) = true
  | 0, _, _ => rfl
  | k + 1, hk, h => by
    have ih := each_from k (by omega) fun r hr => h r (by omega)
    unfold eachL
    by_cases h0 : (Ls k).length = 0
    · rw [if_pos h0, List.append_nil]
      exact ih
    · rw [if_neg h0]
      exact from_append ih (fun y hy => (eachL_low Ls k y hy).2) (by dsimp only; omega) (by dsimp only; omega) (by dsimp only; omega) (h k (by omega))

theorem each_may {Ls : Nat → List Span} (h : ∀ r, r < 8 → spansMay (Ls r) = true) : clockMay (eachL Ls 8) = true := each_from 8 (Nat.le_refl _) h

theorem first_none {l : List Times} {r : Int} (h : ∀ y ∈ l, y.r ≠ r) : firstOf l r = [] := by
  unfold firstOf
  rw [List.find?_eq_none.2 fun y hy => by simpa using h y hy]

theorem from_low : ∀ {l : List Times} {last : Int}, clockFrom last l = true → ∀ y ∈ l, last < y.r ∧ y.r < 8 ∧ 1 ≤ y.s.length
  | [], _, _, y, hy => by cases hy
  | x :: l, last, h, y, hy => by
    simp only [clockFrom, Bool.and_eq_true, decide_eq_true_eq] at h
    rcases List.mem_cons.1 hy with rfl | hy
    · exact ⟨h.1.1.1.1, h.1.1.1.2, h.1.1.2⟩
    · have := from_low h.2 y hy
      omega

/-- A clock from a replica on. -/
theorem each_tail : ∀ {l : List Times} {last : Int} (k : Nat), clockFrom last l = true → last < k → (∀ y ∈ l, (k : Int) ≤ y.r) → ∀ n, k + n = 8 → l = (List.range' k n).flatMap fun r : Nat => if (firstOf l r).length = 0 then [] else [⟨r, firstOf l r⟩]
  | l, last, k, h, hk, hl, 0, hn => by
    cases l with
    | nil => rfl
    | cons x l =>
      have h1 := hl x (List.mem_cons_self ..)
      have h2 := from_low h x (List.mem_cons_self ..)
      omega
  | l, last, k, h, hk, hl, n + 1, hn => by
    rw [List.range'_succ, List.flatMap_cons]
    cases l with
    | nil =>
      have ih := each_tail (l := []) (last := last) (k + 1) h (by omega) (fun y hy => by cases hy) n (by omega)
      rw [← ih]
      rfl
    | cons x l =>
      by_cases hx : x.r = k
      · have hf : firstOf (x :: l) k = x.s := by
          unfold firstOf
          rw [List.find?_cons]
          simp [hx]
        have h2 := from_low h x (List.mem_cons_self ..)
        simp only [clockFrom, Bool.and_eq_true, decide_eq_true_eq] at h
        have h3 := from_low h.2
        have ih := each_tail (l := l) (last := x.r) (k + 1) h.2 (by omega) (fun y hy => by have := (h3 y hy).1; omega) n (by omega)
        rw [hf, if_neg (by omega)]
        show x :: l = (⟨k, x.s⟩ : Times) :: _
        have e1 : x = ⟨(k : Int), x.s⟩ := by
          obtain ⟨xr, xs⟩ := x
          dsimp only at hx
          subst hx
          rfl
        refine congr (congrArg List.cons e1) ?_
        refine ih.trans (List.flatMap_congr_mem' fun r hr => ?_)
        have hrk : k + 1 ≤ r := (List.mem_range'_1.1 hr).1
        have : firstOf (x :: l) r = firstOf l r := by
          unfold firstOf
          rw [List.find?_cons]
          have : ¬ x.r = (r : Int) := by omega
          simp [this]
        rw [this]
      · have hl' : ∀ y ∈ x :: l, ((k + 1 : Nat) : Int) ≤ y.r := fun y hy => by
          have h1 := hl x (List.mem_cons_self ..)
          rcases List.mem_cons.1 hy with rfl | hy
          · omega
          · simp only [clockFrom, Bool.and_eq_true, decide_eq_true_eq] at h
            have := (from_low h.2 y hy).1
            omega
        have ih := each_tail (l := x :: l) (last := last) (k + 1) h (by omega) hl' n (by omega)
        rw [first_none fun y hy => by have := hl' y hy; omega]
        exact ih
where
  List.flatMap_congr_mem' {α β : Type} {f g : α → List β} : ∀ {l : List α}, (∀ x ∈ l, f x = g x) → l.flatMap f = l.flatMap g
    | [], _ => rfl
    | x :: l, h => by
      rw [List.flatMap_cons, List.flatMap_cons, h x (List.mem_cons_self ..), List.flatMap_congr_mem' fun y hy => h y (List.mem_cons_of_mem _ hy)]

theorem eachL_flat (Ls : Nat → List Span) : ∀ k, eachL Ls k = (List.range k).flatMap fun r : Nat => if (Ls r).length = 0 then [] else [⟨r, Ls r⟩]
  | 0 => rfl
  | k + 1 => by
    unfold eachL
    rw [eachL_flat Ls k, List.range_succ, List.flatMap_append]
    simp

/-- A clock that may be, is that of its replicas' spans. -/
theorem may_each {l : List Times} (h : clockMay l = true) : l = eachL (fun r => firstOf l r) 8 := by
  rw [eachL_flat, List.range_eq_range']
  exact each_tail (last := -1) 0 h (by omega) (fun y hy => by have := (from_low (last := -1) h y hy).1; omega) 8 rfl

theorem eachL_congr {Ls Ms : Nat → List Span} : ∀ k, (∀ r, r < k → Ls r = Ms r) → eachL Ls k = eachL Ms k
  | 0, _ => rfl
  | k + 1, h => by
    unfold eachL
    rw [eachL_congr k fun r hr => h r (by omega), h k (by omega)]

theorem clock_ext {l m : List Times} (h : clockMay l = true) (k : clockMay m = true) (e : ∀ r : Nat, r < 8 → firstOf l r = firstOf m r) : l = m := by
  rw [may_each h, may_each k]
  exact eachL_congr 8 e

/-! ### The clock of some stamps -/

def ofR (l : List Id) (r : Nat) : List Span := runsOf (cmp (srt (timesOf r l)))

def ofC (l : List Id) : List Times := eachL (ofR l) 8

def idsMay (l : List Id) : Bool := l.all idMay

theorem Can.init {x : Span} : ∀ {l : List Span} {a : Int}, Can a (l ++ [x]) → Can a l ∧ a ≤ x.f ∧ x.f ≤ x.t ∧ ∀ y ∈ l, y.t + 2 ≤ x.f
  | [], _, ⟨h1, h2, _⟩ => ⟨trivial, h1, h2, fun y hy => by cases hy⟩
  | z :: l, a, ⟨h1, h2, h3⟩ => by
    obtain ⟨k1, k2, k3, k4⟩ := Can.init h3
    refine ⟨⟨h1, h2, k1⟩, by omega, k3, fun y hy => ?_⟩
    rcases List.mem_cons.1 hy with rfl | hy
    · exact k2
    · exact k4 y hy

/-- The runs so far are these times. -/
def Runs (d : List Int) (s : List Span) : Prop := Can 1 s ∧ (∀ u, spansHave s u = decide (u ∈ d)) ∧ spansMany s = d.length

theorem many_app : ∀ (l m : List Span), spansMany (l ++ m) = spansMany l + spansMany m
  | [], m => by show _ = 0 + _; rw [Int.zero_add]; rfl
  | x :: l, m => by
    show x.t - x.f + 1 + spansMany (l ++ m) = x.t - x.f + 1 + spansMany l + spansMany m
    rw [many_app l m]
    omega

theorem Runs.step {d : List Int} {s : List Span} {t : Int} (h : Runs d s) (ht : 1 ≤ t) (hd : ∀ u ∈ d, u < t) : Runs (d ++ [t]) (runStep s t) := by
  obtain ⟨h1, h2, h3⟩ := h
  have hm : ∀ u, decide (u ∈ d ++ [t]) = (decide (u ∈ d) || decide (u = t)) := fun u => by
    rw [Bool.eq_iff_iff]
    simp
  rcases List.eq_nil_or_concat s with rfl | ⟨ys, x, rfl⟩
  · rw [runStep_nil]
    refine ⟨⟨ht, Int.le_refl _, trivial⟩, fun u => ?_, ?_⟩
    · rw [hm, ← h2, have_one, have_nil, Bool.false_or, Bool.eq_iff_iff, inX_iff, decide_eq_true_eq]
      dsimp only
      omega
    · simp only [List.length_append, List.length_singleton]
      show t - t + 1 + 0 = _
      change (0 : Int) = _ at h3
      omega
  · rw [List.concat_eq_append] at *
    obtain ⟨k1, k2, k3, k4⟩ := Can.init h1
    have hxt : x.t ∈ d := by
      have := h2 x.t
      rw [have_append, have_one, inX_iff.2 ⟨k3, Int.le_refl _⟩, Bool.or_true] at this
      exact of_decide_eq_true this.symm
    have hlt := hd _ hxt
    rw [runStep_snoc]
    by_cases e : x.t + 1 = t
    · rw [if_pos e]
      refine ⟨k1.snoc k2 (by dsimp only; omega) k4, fun u => ?_, ?_⟩
      · rw [hm, ← h2, have_append, have_append, have_one, have_one, Bool.or_assoc]
        congr 1
        rw [Bool.eq_iff_iff, inX_iff, Bool.or_eq_true, inX_iff, decide_eq_true_eq]
        dsimp only
        omega
      · rw [many_app] at h3 ⊢
        change spansMany ys + (t - x.f + 1 + 0) = _
        change spansMany ys + (x.t - x.f + 1 + 0) = _ at h3
        simp only [List.length_append, List.length_singleton]
        omega
    · rw [if_neg e]
      refine ⟨h1.snoc (by dsimp only; exact ht) (Int.le_refl _) fun y hy => ?_, fun u => ?_, ?_⟩
      · dsimp only
        rcases List.mem_append.1 hy with hy | hy
        · have := k4 y hy
          omega
        · rw [List.mem_singleton] at hy
          subst hy
          omega
      · rw [hm, ← h2, have_append (ys ++ [x]), have_one ⟨t, t⟩]
        congr 1
        rw [Bool.eq_iff_iff, inX_iff, decide_eq_true_eq]
        dsimp only
        omega
      · rw [many_app, h3]
        simp only [List.length_append, List.length_singleton]
        show _ + (t - t + 1 + 0) = _
        omega

theorem runs_from : ∀ (l d : List Int) (s : List Span), Runs d s → (d ++ l).Pairwise (· < ·) → (∀ t ∈ l, 1 ≤ t) → Runs (d ++ l) (l.foldl runStep s)
  | [], d, s, h, _, _ => by rw [List.append_nil]; exact h
  | t :: l, d, s, h, hp, h1 => by
    have hd : ∀ u ∈ d, u < t := fun u hu => (List.pairwise_append.1 hp).2.2 u hu t (List.mem_cons_self ..)
    have := runs_from l (d ++ [t]) (runStep s t) (h.step (h1 t (List.mem_cons_self ..)) hd) (by simpa using hp) fun u hu => h1 u (List.mem_cons_of_mem _ hu)
    simpa using this

theorem runs_ok {l : List Int} (hp : l.Pairwise (· < ·)) (h1 : ∀ t ∈ l, 1 ≤ t) : Runs l (runsOf l) := by
  have := runs_from l [] [] ⟨trivial, fun u => by rw [have_nil]; simp, rfl⟩ (by simpa using hp) h1
  rw [List.nil_append] at this
  exact this

theorem runStep_len (s : List Span) (t : Int) : (runStep s t).length ≤ s.length + 1 := by
  rcases List.eq_nil_or_concat s with rfl | ⟨ys, y, rfl⟩
  · simp [runStep_nil]
  · rw [List.concat_eq_append, runStep_snoc]
    split <;> simp

theorem runs_len : ∀ (l : List Int) (s : List Span), (l.foldl runStep s).length ≤ s.length + l.length
  | [], s => Nat.le_refl _
  | t :: l, s => by
    have h1 := runs_len l (runStep s t)
    have h2 := runStep_len s t
    simp only [List.foldl_cons, List.length_cons]
    omega

theorem times_mem {r : Int} {l : List Id} {u : Int} : u ∈ timesOf r l ↔ ∃ x ∈ l, x.r = r ∧ x.t = u := by
  unfold timesOf
  simp [and_assoc]

theorem timesOf_len (r : Int) (l : List Id) : (timesOf r l).length ≤ l.length := by
  unfold timesOf
  rw [List.length_map]
  exact List.length_filter_le _ _

structure OfOk (l : List Id) (r : Nat) : Prop where
  can : Can 1 (ofR l r)
  has : ∀ u, spansHave (ofR l r) u = decide (u ∈ timesOf r l)
  top : ∀ x ∈ ofR l r, x.t ≤ 1073741824
  len : (ofR l r).length ≤ l.length
  many : spansMany (ofR l r) ≤ (timesOf r l).length

theorem ofR_ok {l : List Id} (h : idsMay l = true) (r : Nat) : OfOk l r := by
  have hall : ∀ x ∈ l, idMay x = true := fun x hx => List.all_eq_true.1 h x hx
  obtain ⟨p1, p2⟩ := cmp_srt (timesOf r l)
  have hle : (cmp (srt (timesOf r l))).length ≤ (timesOf r l).length := by
    have := cmp_le (srt (timesOf r l))
    rw [srt_len] at this
    exact this
  have hin : ∀ t ∈ cmp (srt (timesOf r l)), 1 ≤ t ∧ t ≤ 1073741824 := fun t ht => by
    obtain ⟨x, hx, _, rfl⟩ := times_mem.1 ((p2 t).1 ht)
    have := hall x hx
    unfold idMay at this
    simp only [Bool.and_eq_true, decide_eq_true_eq] at this
    omega
  obtain ⟨k1, k2, k3⟩ := runs_ok p1 fun t ht => (hin t ht).1
  refine ⟨k1, fun u => ?_, fun x hx => ?_, ?_, ?_⟩
  · unfold ofR
    rw [k2]
    exact decide_eq_decide.2 (p2 u)
  · have hm := k1.mem hx
    have e := have_iff.2 ⟨x, hx, hm.2, Int.le_refl _⟩
    rw [show spansHave (ofR l r) x.t = decide (x.t ∈ cmp (srt (timesOf r l))) from k2 x.t] at e
    exact (hin _ (of_decide_eq_true e)).2
  · have h1 := runs_len (cmp (srt (timesOf r l))) []
    have h2 := timesOf_len r l
    unfold ofR runsOf
    simp only [List.length_nil] at h1
    omega
  · unfold ofR
    rw [k3]
    omega

theorem OfOk.may {l : List Id} {r : Nat} (h : OfOk l r) (hl : l.length ≤ 1024) : spansMay (ofR l r) = true := may_of h.can h.top (Nat.le_trans h.len hl)

theorem ofC_may {l : List Id} (h : idsMay l = true) (hl : l.length ≤ 1024) : clockMay (ofC l) = true := each_may fun r _ => (ofR_ok h r).may hl

theorem first_ofC (l : List Id) (r : Nat) (hr : r < 8) : firstOf (ofC l) r = ofR l r := by
  unfold ofC
  rw [first_each, if_pos hr]

/-- One stamp more. -/
theorem ofR_snoc {l : List Id} {x : Id} (h : idsMay (l ++ [x]) = true) (r : Nat) : bothF (ofR l r) (firstOf (oneT x) r) = ofR (l ++ [x]) r := by
  have hl : idsMay l = true := by
    unfold idsMay at h ⊢
    rw [List.all_append, Bool.and_eq_true] at h
    exact h.1
  have hx : idMay x = true := by
    unfold idsMay at h
    rw [List.all_append, Bool.and_eq_true] at h
    simpa using h.2
  have k1 := ofR_ok hl r
  have k2 := ofR_ok h r
  unfold idMay at hx
  simp only [Bool.and_eq_true, decide_eq_true_eq] at hx
  have hone : Can 1 (firstOf (oneT x) r) ∧ ∀ u, spansHave (firstOf (oneT x) r) u = (decide (x.r = r) && decide (u = x.t)) := by
    unfold firstOf oneT
    rw [List.find?_cons]
    by_cases e : x.r = r
    · simp only [e, decide_true]
      refine ⟨⟨hx.1.1, Int.le_refl _, trivial⟩, fun u => ?_⟩
      rw [have_one, Bool.true_and, Bool.eq_iff_iff, inX_iff, decide_eq_true_eq]
      dsimp only
      omega
    · simp only [e, decide_false, List.find?_nil]
      exact ⟨trivial, fun u => by rw [have_nil, Bool.false_and]⟩
  obtain ⟨b1, b2⟩ := both_ok k1.can hone.1 (Int.le_refl _)
  refine b1.ext k2.can fun u => ?_
  rw [b2, k1.has, hone.2, k2.has, Bool.eq_iff_iff]
  simp only [Bool.or_eq_true, Bool.and_eq_true, decide_eq_true_eq, times_mem, List.mem_append, List.mem_singleton]
  constructor
  · rintro (⟨y, hy, e⟩ | ⟨e1, e2⟩)
    · exact ⟨y, .inl hy, e⟩
    · exact ⟨x, .inr rfl, e1, e2.symm⟩
  · rintro ⟨y, hy | rfl, e1, e2⟩
    · exact .inl ⟨y, hy, e1, e2⟩
    · exact .inr ⟨e1, e2.symm⟩
end Go.Proofs.Ytkolimhkfiebeaa
