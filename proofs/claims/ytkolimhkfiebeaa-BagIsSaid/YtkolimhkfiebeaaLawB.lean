/-
  The walks of law 7's own functions: of, adds, alive.
  Law 8's inner functions by, of, alive.
  Law 8's inner functions by, alive; contracts at literals.
-/
import Derived.Test.YtkolimhkfiebeaaRefSets
import Derived.Test.YtkolimhkfiebeaaOfC
import Derived.Deep.RegionLaw
namespace Go.Proofs.Ytkolimhkfiebeaa
open Go.RowKit

/-- Spans, out of a list of their ends. -/
def pairs : List Int → List Span
  | a :: b :: l => ⟨a, b⟩ :: pairs l
  | _ => []

theorem pairs_len : ∀ (n : Nat) (us : List Int), us.length ≤ 2 * n → (pairs us).length ≤ n
  | 0, [], _ => Nat.le_refl _
  | _ + 1, [], _ => Nat.zero_le _
  | _ + 1, [_], _ => Nat.zero_le _
  | n + 1, _ :: _ :: l, h => by
    have := pairs_len n l (by simp at h; omega)
    simp only [pairs, List.length_cons]
    omega

theorem pairs_step : ∀ (k : Nat) (us : List Int) (a b : Int), us[2 * k]? = some a → us[2 * k + 1]? = some b → pairs (us.take (2 * k + 2)) = pairs (us.take (2 * k)) ++ [⟨a, b⟩]
  | 0, x :: y :: l, a, b, h1, h2 => by
    simp at h1 h2
    subst h1 h2
    rfl
  | k + 1, x :: y :: l, a, b, h1, h2 => by
    have := pairs_step k l a b (by simpa [Nat.mul_add] using h1) (by simpa [Nat.mul_add] using h2)
    simp only [Nat.mul_add, Nat.mul_one, List.take_succ_cons, pairs, List.cons_append]
    rw [this]
  | 0, [], _, _, h, _ => by simp at h
  | 0, [_], _, _, _, h => by simp at h
  | _ + 1, [], _, _, h, _ => by simp at h
  | _ + 1, [_], _, _, h, _ => by simp [Nat.mul_add] at h

theorem same07 (l : List Span) {A B : Option Addr} {c d : Nat} {w : World} (hl : l.length ≤ maxLen) (hA : R cSpan 0 w A l) (hB : R cSpan 0 w B l) :
    Calls Try.prog 108 #[.slice A l.length c, .slice B l.length d] w fun e w' => e = .returned (.bool true) ∧ Bl w w' := by
  have h := refSame07 A B c d l l w hl hl hA hB
  rw [show same l l = true by unfold same; simp] at h
  exact h

/-- A row of numbers, just made. -/
theorem R.lit (us : List Int) (hok : ∀ x ∈ us, u32ok x) (w : World) (t : TypeId) : R cU32 0 (w.alloc (.cells (us.map (Value.int .u32)).toArray t)) (some ⟨w.heap.size, 0, none⟩) us := by
  refine ⟨us.map (Value.int .u32), rdl_u32 us hok, fun _ => ⟨w.heap.size, 0, rfl, ⟨Nat.zero_le _, by rw [World.size_alloc]; omega⟩, fun j u hu => ⟨?_, ?_⟩⟩⟩
  · rw [Nat.zero_add, cell_of_row _ w.heap.size j _ t (0, 0) (heap_alloc_new w _)]
    simpa using hu
  · rw [Nat.zero_add]
    exact frozen_new w _ t j

def NewK (l : List Span) (m : Nat) (w : World) (e : Ending) (w' : World) : Prop := ∃ A c, e = .returned (.slice A m c) ∧ m ≤ c ∧ c ≤ maxLen ∧ R cSpan w.heap.size w' A l ∧ Bl w w'

theorem u32ok_all {us : List Int} (h : us.all (fun x => decide (0 ≤ x) && decide (x < 4294967296)) = true) : ∀ x ∈ us, u32ok x := fun x hx => by
  have := List.all_eq_true.1 h x hx
  simp at this
  exact this

end Go.Proofs.Ytkolimhkfiebeaa


namespace Go.Proofs.Ytkolimhkfiebeaa
open Go.RowKit

/-- What a call that hands back a replica's times says. -/
def NewT (r : Int) (l : List Span) (n : Nat) (w : World) (e : Ending) (w' : World) : Prop := ∃ B d, e = .returned (.agg #[.int .u8 r, .slice B n d]) ∧ n ≤ d ∧ d ≤ maxLen ∧ R cSpan w.heap.size w' B l ∧ Bl w w'

/-- What stands after spans were appended, and what stands when they are stored. -/
theorem of8_arm {w wr : World} {r : Int} {v : Value} {O : Obj} {F : List Span} (hbl : Bl w wr) (h0 : At wr w.heap.size 0 [.int .u8 0, .slice none 0 0]) (h1 : At wr (w.heap.size + 1) 0 [.int .u8 r, v]) (hown : Own cSpan 93 (w.heap.size + 2) wr v F) :
    ∀ v2 w2, (wr.alloc O).drew.grownBy w2 v.ownBlock → w2.cell? ⟨w.heap.size + 1, 1, none⟩ = some v ∧ (w2.cell? ⟨w.heap.size + 1, 1, none⟩).isSome = true ∧ w2.frozen? ⟨w.heap.size + 1, 1, none⟩ = false ∧ Bl w (w2.setCell ⟨w.heap.size + 1, 1, none⟩ v2) ∧
      At (w2.setCell ⟨w.heap.size + 1, 1, none⟩ v2) w.heap.size 0 [.int .u8 0, .slice none 0 0] ∧ At (w2.setCell ⟨w.heap.size + 1, 1, none⟩ v2) (w.heap.size + 1) 0 [.int .u8 r, v2] := by
  intro v2 w2 hg
  have hB : Bl wr (wr.alloc O).drew := ((Bl.refl wr).alloc O).drew
  have hz1 : w.heap.size + 1 < wr.heap.size := h1.lt (by simp)
  have hlow : ∀ k, k < w.heap.size + 2 → w2.heap[k]? = wr.heap[k]? := fun k hk => (hg.block k (Nat.lt_of_lt_of_le (by omega) hB.size) fun e => by have := (hown.lt e.symm).1; omega).trans (hB.block k (by omega))
  have a0 : At w2 w.heap.size 0 [.int .u8 0, .slice none 0 0] := h0.keep (hlow _ (by omega))
  have a1 : At w2 (w.heap.size + 1) 0 [.int .u8 r, v] := h1.keep (hlow _ (by omega))
  refine ⟨(a1 1 _ rfl).1, by rw [(a1 1 _ rfl).1]; rfl, (a1 1 _ rfl).2, Bl.setCell (p := ⟨w.heap.size + 1, 1, none⟩) (Below.grown ((hbl.alloc O).drew) hg (hbl.alloc O).drew.size fun j e => by have := (hown.lt e).1; omega) (Nat.le_succ _) _, fun j u hu => ⟨?_, ?_⟩, fun j u hu => ⟨?_, ?_⟩⟩
  · exact box_set_other (by intro e; injection e with e _; omega) (a0 j u hu).1
  · rw [World.frozen?_setCell]
    exact (a0 j u hu).2
  · rcases j with _ | _ | j
    · exact box_set_other (by intro e; injection e with _ e; simp at e) (by cases hu; exact (a1 0 _ rfl).1)
    · cases hu
      exact box_set_same (a1 1 _ rfl).1
    · simp at hu
  · rw [World.frozen?_setCell]
    rcases j with _ | _ | j
    · exact (a1 0 _ rfl).2
    · exact (a1 1 _ rfl).2
    · simp at hu

set_option maxRecDepth 100000 in
set_option maxHeartbeats 1000000 in
theorem lawOf08 (r : Int) (A : Option Addr) (c n : Nat) (us : List Int) (w : World) (hn : us.length = 2 * n) (hl : us.length ≤ 1048576) (hA : R cU32 0 w A us) :
    Calls Try.prog 68 #[.int .u8 r, .slice A us.length c] w (NewT r (pairs us) (pairs us).length w) := by
  obtain ⟨i0, hi, hz0, hz1, hz2⟩ := info_parts Try.infoSpan
  have hln := hide hn
  clear hn
  go_enter Try.func68, Try.ntmps68
  go_wp2
  go_loopw [6] (fun i wr => Bl w wr ∧ w.heap.size + 2 ≤ wr.heap.size ∧ ∃ (j k : Nat) (v : Value), j = 2 * k ∧ k ≤ n ∧ i = .int .i64 j ∧ At wr w.heap.size 0 [.int .u8 0, .slice none 0 0] ∧ At wr (w.heap.size + 1) 0 [.int .u8 r, v] ∧ Own cSpan 93 (w.heap.size + 2) wr v (pairs (us.take (2 * k)))) (fun i _ => us.length - (intOf i).toNat)
  case atStart =>
    have h1 := (At.new w [.int .u8 0, .slice none 0 0] 96).bl ((Bl.refl _).alloc (.cells #[.int .u8 r, .slice none 0 0] 96)) (by decide)
    have h2 := At.new (w.alloc (.cells #[.int .u8 0, .slice none 0 0] 96)) [.int .u8 r, .slice none 0 0] 96
    rw [World.size_alloc w] at h2
    exact ⟨((Bl.refl _).alloc _).alloc _, by rw [World.size_alloc, World.size_alloc]; exact Nat.le_refl _, 0, 0, _, rfl, Nat.zero_le _, rfl, h1, h2, Own.nil⟩
  case round =>
    obtain ⟨hbl, hsz, j, k, v, hj, hk, rfl, hat0, hat1, hown⟩ := hrel
    have hnn := hln.out
    by_cases hlt : k < n
    · have hR := hA.bl hbl
      obtain ⟨b, off, rfl, _, hbw⟩ := hA.addr (by omega)
      have hb : b < wr.heap.size := Nat.lt_of_lt_of_le hbw hbl.size
      obtain ⟨x, hx⟩ := get_lt (show 2 * k < us.length by omega)
      obtain ⟨y, hy⟩ := get_lt (show 2 * k + 1 < us.length by omega)
      have hst := hide (pairs_step k us x y hx hy)
      rw [← hj] at hx hy
      obtain ⟨_, ⟨x0, x1⟩, c0, _⟩ := hR.u32 hx
      obtain ⟨_, ⟨y0, y1⟩, c1, _⟩ := hR.u32 hy
      have hFl := pairs_len k (us.take (2 * k)) (by rw [List.length_take]; omega)
      clear hx hy
      generalize pairs (us.take (2 * k)) = F at hown hst hFl
      have hki : (j : Int) + 1 < (us.length : Int) := by omega
      have hj1 : (j : Int) < (us.length : Int) := by omega
      have hj4 : (j : Int) + 1 < 9223372036854775808 := by omega
      have e1 : IntKind.i64.wrap ((j : Int) + 1) = (j : Int) + 1 := IntWalk.i64_in _ (by omega)
      have e2 : ((j : Int) + 1).toNat = j + 1 := by omega
      have e3 : (0 : Int) ≤ (j : Int) + 1 := by omega
      have hsrc := hide (hown.src (t := 93) (cs := [Value.int IntKind.u32 x, Value.int IntKind.u32 y]) (x := ⟨x, y⟩) (Bl.refl _) hsz ⟨⟨x0, x1, y0, y1⟩, rfl⟩)
      have qa0 : F.length ≤ 1048576 := by omega
      have qa1 : F.length + [(⟨x, y⟩ : Span)].length ≤ maxLen := by rw [List.length_singleton]; unfold maxLen; omega
      have qa2 : (F.length + [(⟨x, y⟩ : Span)].length) * 8 ≤ 140737488355328 := by rw [List.length_singleton]; omega
      have hsz' : w.heap.size + 2 ≤ wr.heap.size := hsz
      clear hnn
      replace hj := hide hj
      have b1 := (hat1 1 _ rfl).1
      have b2 := ((hat1.bl ((Bl.refl wr).alloc (.cells #[Value.int IntKind.u32 x, Value.int IntKind.u32 y] 93)) (by simp)) 1 _ rfl).1
      have arm := hide (of8_arm (O := .cells #[Value.int IntKind.u32 x, Value.int IntKind.u32 y] 93) hbl hat0 hat1 hown)
      clear hat0 hat1
      go_wp2
      go_region_law ((refine step_append_any2 (C := cSpan) (xs := F) (ys := [⟨x, y⟩]) rfl (.tmp 17) (.tmp 28) _ rfl 93 i0 _ 8 Try.underlying94 hi hz0 hz1 hz2 rfl _ (w.heap.size + 2) rfl (hown.bl ((Bl.refl _).alloc _).drew) (some ⟨wr.heap.size, 0, none⟩) 1 _ rfl rfl hsrc.out qa1 qa2 (by simp; omega) ?_; intro v2 w2 hown2 hg2 _; obtain ⟨A2, c2, rfl, -, -, -⟩ := hown2.reads; obtain ⟨k0, k1, kf, hbl2, hf1, hf2⟩ := arm.out (.slice A2 (F ++ [(⟨x, y⟩ : Span)]).length c2) w2 hg2))
      all_goals
        have hlen : (F ++ [(⟨x, y⟩ : Span)]).length = F.length + 1 := by simp
        have hown3 := hown2.setLow (X := w.heap.size + 1) (o := 1) (by omega) (.slice A2 (F ++ [(⟨x, y⟩ : Span)]).length c2)
        have hsz2 : w.heap.size + 2 ≤ (w2.setCell ⟨w.heap.size + 1, 1, none⟩ (.slice A2 (F ++ [(⟨x, y⟩ : Span)]).length c2)).heap.size := Nat.le_trans (Nat.le_trans hsz ((Bl.refl wr).alloc (.cells #[Value.int IntKind.u32 x, Value.int IntKind.u32 y] 93)).drew.size) (Nat.le_trans hg2.size (by simp [World.setCell]))
        rw [hlen] at hown3 hbl2 hf1 hf2 hsz2
        replace hown3 := hide hown3
        replace hf1 := hide hf1
        replace hf2 := hide hf2
        clear hown2 k0 k1 kf hg2 hlen
        go_wp2
        go_roundw
        case rel => exact ⟨hbl2, hsz2, j + 2, k + 1, _, by have := hj.out; omega, by omega, by go_num, hf1.out, hf2.out, by rw [show 2 * (k + 1) = 2 * k + 2 by omega, hst.out]; exact hown3.out⟩
        case measure => simp [intOf]; omega
    · have hki : ¬ (j : Int) + 1 < (us.length : Int) := by omega
      have e1 : IntKind.i64.wrap ((j : Int) + 1) = (j : Int) + 1 := IntWalk.i64_in _ (by omega)
      rw [List.take_of_length_le (by omega)] at hown
      clear hnn hj
      obtain ⟨A', c', rfl, hr, h1, h2⟩ := hown.reads
      have b0 := (hat1 0 _ rfl).1
      have b1 := (hat1 1 _ rfl).1
      have s0 := (hat0 0 _ rfl).1
      have s1 := (hat0 1 _ rfl).1
      have t0 := (hat0 0 _ rfl).2
      have t1 := (hat0 1 _ rfl).2
      have hown3 := (hown.setLow (X := w.heap.size) (o := 0) (by omega) (.int .u8 r)).setLow (X := w.heap.size) (o := 1) (by omega) (.slice A' (pairs us).length c')
      obtain ⟨A3, c3, e3, hr3, -, -⟩ := hown3.reads
      injection e3 with e3 _ e4
      subst e3 e4
      have hb3 := (hbl.setCell (p := ⟨w.heap.size, 0, none⟩) (Nat.le_refl _) (.int .u8 r)).setCell (p := ⟨w.heap.size, 1, none⟩) (Nat.le_refl _) (.slice A' (pairs us).length c')
      have q0 : (wr.setCell ⟨w.heap.size, 0, none⟩ (.int .u8 r)).cell? ⟨w.heap.size, 0, none⟩ = some (.int .u8 r) := box_set_same s0
      have q1 : ((wr.setCell ⟨w.heap.size, 0, none⟩ (.int .u8 r)).setCell ⟨w.heap.size, 1, none⟩ (.slice A' (pairs us).length c')).cell? ⟨w.heap.size, 1, none⟩ = some (.slice A' (pairs us).length c') := box_set_same (box_set_other (by intro e; injection e with _ e; simp at e) s1)
      have hfin := hide (And.intro h1 (And.intro h2 (And.intro (hr3.more (Nat.le_add_right _ _)) hb3)))
      clear hown hown3 hr hr3 hb3 h1 h2
      go_wp2
      exact bodyPost_ret (v := .agg #[.int .u8 r, .slice A' (pairs us).length c']) (by simp [results, Try.results68, go_sem, q0, q1]) rfl ⟨A', c', rfl, hfin.out.1, hfin.out.2.1, hfin.out.2.2.1, hfin.out.2.2.2⟩
end Go.Proofs.Ytkolimhkfiebeaa

namespace Go.Proofs.Ytkolimhkfiebeaa
open Go.RowKit

theorem lawBy08 (t r : Int) (w : World) :
    Calls Try.prog 66 #[.int .u32 t, .int .u8 r] w fun e w' => e = .returned (.agg #[.int .u32 t, .int .u8 r]) ∧ Bl w w' := by
  go_enter Try.func66, Try.ntmps66
  go_wp2
  exact bodyPost_ret (v := .agg #[.int .u32 t, .int .u8 r]) (by simp [results, Try.results66, go_sem]) rfl ⟨rfl, (Bl.refl w).alloc _⟩

/-! ### Literals -/

theorem R.newL {α : Type} {C : Codec α} {lo : Nat} {w : World} {xs : List α} {cells : List Value} {t : TypeId} (h : RdL C w (Fresh lo w) xs cells) (hlo : lo ≤ w.heap.size) :
    R C lo (w.alloc (.cells cells.toArray t)) (some ⟨w.heap.size, 0, none⟩) xs := by
  refine ⟨cells, h.keep (fun b hb => Below.heap_alloc w _ b hb.2) (fun b hb => ⟨hb.1, by have := hb.2; rw [World.size_alloc]; omega⟩), fun _ => ⟨w.heap.size, 0, rfl, ⟨hlo, by rw [World.size_alloc]; omega⟩, fun j u hu => ⟨?_, ?_⟩⟩⟩
  · rw [Nat.zero_add, cell_of_row _ w.heap.size j _ t (0, 0) (heap_alloc_new w _)]
    simpa using hu
  · rw [Nat.zero_add]
    exact frozen_new w _ t j

theorem R.times1 {w : World} {r : Int} {l : List Span} {B : Option Addr} {n d : Nat} (t : TypeId) (hr : 0 ≤ r ∧ r < 256) (hn : n = l.length) (h1 : n ≤ d) (h2 : d ≤ maxLen) (h : R cSpan 0 w B l) :
    R cTimes 0 (w.alloc (.cells #[.int .u8 r, .slice B n d] t)) (some ⟨w.heap.size, 0, none⟩) [⟨r, l⟩] := by
  subst hn
  exact R.newL (C := cTimes) (cells := [.int .u8 r, .slice B l.length d]) ⟨[.int .u8 r, .slice B l.length d], [], rfl, ⟨hr, B, d, h1, h2, rfl, h⟩, rfl⟩ (Nat.zero_le _)

theorem R.times2 {w : World} {r s : Int} {l m : List Span} {B E : Option Addr} {n d k f : Nat} (t : TypeId) (hr : 0 ≤ r ∧ r < 256) (hs : 0 ≤ s ∧ s < 256) (hn : n = l.length) (h1 : n ≤ d) (h2 : d ≤ maxLen) (h : R cSpan 0 w B l) (hk : k = m.length) (k1 : k ≤ f) (k2 : f ≤ maxLen) (g : R cSpan 0 w E m) :
    R cTimes 0 (w.alloc (.cells #[.int .u8 r, .slice B n d, .int .u8 s, .slice E k f] t)) (some ⟨w.heap.size, 0, none⟩) [⟨r, l⟩, ⟨s, m⟩] := by
  subst hn hk
  exact R.newL (C := cTimes) (cells := [.int .u8 r, .slice B l.length d, .int .u8 s, .slice E m.length f]) ⟨[.int .u8 r, .slice B l.length d], [.int .u8 s, .slice E m.length f], rfl, ⟨hr, B, d, h1, h2, rfl, h⟩, [.int .u8 s, .slice E m.length f], [], rfl, ⟨hs, E, f, k1, k2, rfl, g⟩, rfl⟩ (Nat.zero_le _)

theorem R.ids3 {w : World} (x y z : Id) (t : TypeId) (hx : x.ok) (hy : y.ok) (hz : z.ok) :
    R cId 0 (w.alloc (.cells #[.int .u32 x.t, .int .u8 x.r, .int .u32 y.t, .int .u8 y.r, .int .u32 z.t, .int .u8 z.r] t)) (some ⟨w.heap.size, 0, none⟩) [x, y, z] :=
  R.newL (C := cId) (cells := [.int .u32 x.t, .int .u8 x.r, .int .u32 y.t, .int .u8 y.r, .int .u32 z.t, .int .u8 z.r]) ⟨[_, _], _, rfl, ⟨hx, rfl⟩, [_, _], _, rfl, ⟨hy, rfl⟩, [_, _], [], rfl, ⟨hz, rfl⟩, rfl⟩ (Nat.zero_le _)

theorem of08 (r : Int) (B : Option Addr) (d n m k : Nat) (L : List Span) (us : List Int) (w : World) (hk : k = us.length) (hn : k = 2 * n) (hu : k ≤ 1048576) (hm : m = L.length) (hL : L = pairs us) (hB : R cU32 0 w B us) :
    Calls Try.prog 68 #[.int .u8 r, .slice B k d] w (NewT r L m w) := by
  subst hk hm hL
  exact lawOf08 r B d n us w hn hu hB

/-- What a call that hands back a clock and a number says, the length being known. -/
def NewC (L : List Times) (n : Nat) (N : Int) (w : World) (e : Ending) (w' : World) : Prop := ∃ A c, e = .returned (.tuple #[.slice A n c, .int .i64 N]) ∧ n ≤ c ∧ c ≤ maxLen ∧ R cTimes w.heap.size w' A L ∧ Bl w w'

theorem add08 (A : Option Addr) (c m n : Nat) (a : List Times) (t r : Int) (L : List Times) (N : Int) (w : World) (hm : m = a.length) (ha : a.length ≤ 1024) (hx : (⟨t, r⟩ : Id).ok) (hn : n = L.length) (hL : rcL bothF a (oneT ⟨t, r⟩) = L) (hN : rcN bothF a (oneT ⟨t, r⟩) = N) (hA : R cTimes 0 w A a) :
    Calls Try.prog 67 #[.slice A m c, .agg #[.int .u32 t, .int .u8 r]] w (NewC L n N w) := by
  subst hm hn
  have h := clockAdd A c a ⟨t, r⟩ w (by omega) hx hA
  rw [(cjoin_eq a (oneT ⟨t, r⟩)).1, (cjoin_eq a (oneT ⟨t, r⟩)).2, hL, hN] at h
  exact h

theorem of08c (A : Option Addr) (c m n : Nat) (l : List Id) (L : List Times) (N : Int) (w : World) (hm : m = l.length) (hl : l.length ≤ 2000) (hn : n = L.length) (hL : ofL l = L) (hN : ofN l = N) (hA : R cId 0 w A l) :
    Calls Try.prog 34 #[.slice A m c] w (NewC L n N w) := by
  subst hm hn
  have h := clockOf A c l w (by unfold maxLen; omega) hA
  rw [hL, hN] at h
  exact h

theorem same08k (n : Nat) (l : List Times) {A B : Option Addr} {c d : Nat} {w : World} (hn : n = l.length) (hl : n ≤ 1024) (hA : R cTimes 0 w A l) (hB : R cTimes 0 w B l) :
    Calls Try.prog 47 #[.slice A n c, .slice B n d] w fun e w' => e = .returned (.bool true) ∧ Bl w w' := by
  subst hn
  exact sameSelf08 l (by unfold maxLen; omega) hA hB

/-- The clock of some stamps is that which has just these. -/
theorem ofC_is {l : List Id} {c : List Times} (hl : l.length ≤ 1024) (hm : idsMay l = true) (hc : clockMay c = true) (h : ∀ r : Nat, r < 8 → ∀ u, spansHave (firstOf c r) u = decide (u ∈ timesOf r l)) : ofC l = c := by
  refine clock_ext (ofC_may hm hl) hc fun r hr => ?_
  rw [first_ofC l r hr]
  have h1 := ofR_ok hm r
  exact h1.can.ext (may_can (first_may hc r)).1 fun u => by rw [h1.has, h r hr]

theorem ofC_alive : ofC [⟨4, 1⟩, ⟨3, 1⟩, ⟨9, 0⟩] = [⟨0, [⟨9, 9⟩]⟩, ⟨1, [⟨3, 4⟩]⟩] := by
  refine ofC_is (by decide) (by decide) (by decide) fun r hr u => ?_
  match r, hr with
  | 0, _ => rw [Bool.eq_iff_iff]; simp [firstOf, timesOf, spansHave]; omega
  | 1, _ => rw [Bool.eq_iff_iff]; simp [firstOf, timesOf, spansHave]; omega
  | 2, _ => rfl
  | 3, _ => rfl
  | 4, _ => rfl
  | 5, _ => rfl
  | 6, _ => rfl
  | 7, _ => rfl

theorem ofL_alive : ofL [⟨4, 1⟩, ⟨3, 1⟩, ⟨9, 0⟩] = [⟨0, [⟨9, 9⟩]⟩, ⟨1, [⟨3, 4⟩]⟩] := ofC_alive

set_option maxRecDepth 100000 in
set_option maxHeartbeats 8000000 in
theorem lawAlive08 (w : World) : Calls Try.prog 13 #[] w fun e w' => e = .returned (.bool true) ∧ Bl w w' := by
  go_enter Try.func13, Try.ntmps13
  go_wp2_with fail
  refine (lawBy08 4 1 _).mono ?_
  rintro e w1 ⟨rfl, hb1⟩
  go_wp2_with fail
  refine (lawBy08 3 1 _).mono ?_
  rintro e w2 ⟨rfl, hb2⟩
  go_wp2_with fail
  refine (lawBy08 9 0 _).mono ?_
  rintro e w3 ⟨rfl, hb3⟩
  have hI : R cId 0 (w3.alloc (.cells #[.int .u32 4, .int .u8 1, .int .u32 3, .int .u8 1, .int .u32 9, .int .u8 0] 36)) (some ⟨w3.heap.size, 0, none⟩) [⟨4, 1⟩, ⟨3, 1⟩, ⟨9, 0⟩] := R.ids3 ⟨4, 1⟩ ⟨3, 1⟩ ⟨9, 0⟩ _ (by unfold Id.ok; decide) (by unfold Id.ok; decide) (by unfold Id.ok; decide)
  go_wp2_with fail
  refine (of08c _ 3 3 2 _ _ _ _ rfl (by decide) rfl ofL_alive rfl hI).mono ?_
  rintro e w4 ⟨X, x, rfl, X1, X2, hX, hb4⟩
  go_wp2_with fail
  refine (of08 1 (some ⟨w4.heap.size, 0, none⟩) 2 1 1 2 [⟨3, 5⟩] [3, 5] _ rfl rfl (by omega) rfl rfl (R.lit [3, 5] (u32ok_all (by decide)) w4 _)).mono ?_
  rintro e w5 ⟨A, Ad, rfl, A1, A2, hA, hb5⟩
  have hP : R cTimes 0 (w5.alloc (.cells #[.int .u8 1, .slice A 1 Ad] 96)) (some ⟨w5.heap.size, 0, none⟩) [⟨1, [⟨3, 5⟩]⟩] := R.times1 _ (by decide) rfl A1 A2 (hA.zero.bl (by repeat first | assumption | exact Bl.refl _ | refine Bl.alloc ?_ _ | refine Bl.trans ?_ (by assumption)))
  go_wp2_with fail
  refine (lawBy08 6 1 _).mono ?_
  rintro e w6 ⟨rfl, hb6⟩
  go_wp2_with fail
  refine (add08 _ 1 1 1 [⟨1, [⟨3, 5⟩]⟩] 6 1 [⟨1, [⟨3, 6⟩]⟩] 0 _ rfl (by decide) (by unfold Id.ok; decide) rfl (by decide) (by decide) (hP.bl (by repeat first | assumption | exact Bl.refl _ | refine Bl.alloc ?_ _ | refine Bl.trans ?_ (by assumption)))).mono ?_
  rintro e w7 ⟨Y, y, rfl, Y1, Y2, hY, hb7⟩
  go_wp2_with fail
  refine (of08 1 (some ⟨w7.heap.size, 0, none⟩) 2 1 1 2 [⟨3, 5⟩] [3, 5] _ rfl rfl (by omega) rfl rfl (R.lit [3, 5] (u32ok_all (by decide)) w7 _)).mono ?_
  rintro e w8 ⟨B, Bd, rfl, B1, B2, hB, hb8⟩
  have hQ : R cTimes 0 (w8.alloc (.cells #[.int .u8 1, .slice B 1 Bd] 96)) (some ⟨w8.heap.size, 0, none⟩) [⟨1, [⟨3, 5⟩]⟩] := R.times1 _ (by decide) rfl B1 B2 (hB.zero.bl (by repeat first | assumption | exact Bl.refl _ | refine Bl.alloc ?_ _ | refine Bl.trans ?_ (by assumption)))
  go_wp2_with fail
  refine (lawBy08 6 0 _).mono ?_
  rintro e w9 ⟨rfl, hb9⟩
  go_wp2_with fail
  refine (add08 _ 1 1 2 [⟨1, [⟨3, 5⟩]⟩] 6 0 [⟨0, [⟨6, 6⟩]⟩, ⟨1, [⟨3, 5⟩]⟩] 0 _ rfl (by decide) (by unfold Id.ok; decide) rfl (by decide) (by decide) (hQ.bl (by repeat first | assumption | exact Bl.refl _ | refine Bl.alloc ?_ _ | refine Bl.trans ?_ (by assumption)))).mono ?_
  rintro e w10 ⟨Z, z, rfl, Z1, Z2, hZ, hb10⟩
  go_wp2_with fail
  refine (of08 0 (some ⟨w10.heap.size, 0, none⟩) 2 1 1 2 [⟨9, 9⟩] [9, 9] _ rfl rfl (by omega) rfl rfl (R.lit [9, 9] (u32ok_all (by decide)) w10 _)).mono ?_
  rintro e w11 ⟨C, Cd, rfl, C1, C2, hC, hb11⟩
  go_wp2_with fail
  refine (of08 1 (some ⟨w11.heap.size, 0, none⟩) 2 1 1 2 [⟨3, 4⟩] [3, 4] _ rfl rfl (by omega) rfl rfl (R.lit [3, 4] (u32ok_all (by decide)) w11 _)).mono ?_
  rintro e w12 ⟨D, Dd, rfl, D1, D2, hD, hb12⟩
  have hS : R cTimes 0 (w12.alloc (.cells #[.int .u8 0, .slice C 1 Cd, .int .u8 1, .slice D 1 Dd] 96)) (some ⟨w12.heap.size, 0, none⟩) [⟨0, [⟨9, 9⟩]⟩, ⟨1, [⟨3, 4⟩]⟩] := R.times2 _ (by decide) (by decide) rfl C1 C2 (hC.zero.bl (by repeat first | assumption | exact Bl.refl _ | refine Bl.alloc ?_ _ | refine Bl.trans ?_ (by assumption))) rfl D1 D2 (hD.zero.bl (by repeat first | assumption | exact Bl.refl _ | refine Bl.alloc ?_ _ | refine Bl.trans ?_ (by assumption)))
  go_wp2_with fail
  refine (same08k 2 [⟨0, [⟨9, 9⟩]⟩, ⟨1, [⟨3, 4⟩]⟩] rfl (by decide) (hX.zero.bl (by repeat first | assumption | exact Bl.refl _ | refine Bl.alloc ?_ _ | refine Bl.trans ?_ (by assumption))) hS).mono ?_
  rintro e w13 ⟨rfl, hb13⟩
  go_wp2_with fail
  refine (of08 1 (some ⟨w13.heap.size, 0, none⟩) 2 1 1 2 [⟨3, 6⟩] [3, 6] _ rfl rfl (by omega) rfl rfl (R.lit [3, 6] (u32ok_all (by decide)) w13 _)).mono ?_
  rintro e w14 ⟨E, Ed, rfl, E1, E2, hE, hb14⟩
  have hT : R cTimes 0 (w14.alloc (.cells #[.int .u8 1, .slice E 1 Ed] 96)) (some ⟨w14.heap.size, 0, none⟩) [⟨1, [⟨3, 6⟩]⟩] := R.times1 _ (by decide) rfl E1 E2 (hE.zero.bl (by repeat first | assumption | exact Bl.refl _ | refine Bl.alloc ?_ _ | refine Bl.trans ?_ (by assumption)))
  go_wp2_with fail
  refine (same08k 1 [⟨1, [⟨3, 6⟩]⟩] rfl (by decide) (hY.zero.bl (by repeat first | assumption | exact Bl.refl _ | refine Bl.alloc ?_ _ | refine Bl.trans ?_ (by assumption))) hT).mono ?_
  rintro e w15 ⟨rfl, hb15⟩
  go_wp2_with fail
  refine (of08 0 (some ⟨w15.heap.size, 0, none⟩) 2 1 1 2 [⟨6, 6⟩] [6, 6] _ rfl rfl (by omega) rfl rfl (R.lit [6, 6] (u32ok_all (by decide)) w15 _)).mono ?_
  rintro e w16 ⟨F, Fd, rfl, F1, F2, hF, hb16⟩
  go_wp2_with fail
  refine (of08 1 (some ⟨w16.heap.size, 0, none⟩) 2 1 1 2 [⟨3, 5⟩] [3, 5] _ rfl rfl (by omega) rfl rfl (R.lit [3, 5] (u32ok_all (by decide)) w16 _)).mono ?_
  rintro e w17 ⟨H, Hd, rfl, H1, H2, hH, hb17⟩
  have hU : R cTimes 0 (w17.alloc (.cells #[.int .u8 0, .slice F 1 Fd, .int .u8 1, .slice H 1 Hd] 96)) (some ⟨w17.heap.size, 0, none⟩) [⟨0, [⟨6, 6⟩]⟩, ⟨1, [⟨3, 5⟩]⟩] := R.times2 _ (by decide) (by decide) rfl F1 F2 (hF.zero.bl (by repeat first | assumption | exact Bl.refl _ | refine Bl.alloc ?_ _ | refine Bl.trans ?_ (by assumption))) rfl H1 H2 (hH.zero.bl (by repeat first | assumption | exact Bl.refl _ | refine Bl.alloc ?_ _ | refine Bl.trans ?_ (by assumption)))
  go_wp2_with fail
  refine (same08k 2 [⟨0, [⟨6, 6⟩]⟩, ⟨1, [⟨3, 5⟩]⟩] rfl (by decide) (hZ.zero.bl (by repeat first | assumption | exact Bl.refl _ | refine Bl.alloc ?_ _ | refine Bl.trans ?_ (by assumption))) hU).mono ?_
  rintro e w18 ⟨rfl, hb18⟩
  go_wp2_with fail
  go_ret
  exact ⟨rfl, (by repeat first | assumption | exact Bl.refl _ | refine Bl.alloc ?_ _ | refine Bl.trans ?_ (by assumption))⟩
end Go.Proofs.Ytkolimhkfiebeaa
