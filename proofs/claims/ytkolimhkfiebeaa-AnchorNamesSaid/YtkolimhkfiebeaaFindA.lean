/-
  The walk of anchor.Find, and of the closure that it defers.
-/
import Derived.Test.YtkolimhkfiebeaaAnchor
import Derived.Defers
namespace Go.Proofs.Ytkolimhkfiebeaa
open Go.RowKit

/-- How the world stands within anchor.Find: its three results. -/
structure FSt (w V : World) (s : Id) (k n : Int) : Prop where
  c0 : V.cell? ⟨w.heap.size, 0, none⟩ = some (.int .u32 s.t)
  c1 : V.cell? ⟨w.heap.size, 1, none⟩ = some (.int .u8 s.r)
  g0 : V.frozen? ⟨w.heap.size, 0, none⟩ = false
  g1 : V.frozen? ⟨w.heap.size, 1, none⟩ = false
  ck : V.cell? ⟨w.heap.size + 1, 0, none⟩ = some (.int .i64 k)
  gk : V.frozen? ⟨w.heap.size + 1, 0, none⟩ = false
  cn : V.cell? ⟨w.heap.size + 1 + 1, 0, none⟩ = some (.int .i64 n)
  gn : V.frozen? ⟨w.heap.size + 1 + 1, 0, none⟩ = false
  bl : Bl w V

section

variable {w V V' : World} {s : Id} {k n : Int}

theorem FSt.go (h : FSt w V s k n) (hb : Bl V V') : FSt w V' s k n :=
  have l0 := World.block_lt_of_cell? V _ h.c0
  have l1 := World.block_lt_of_cell? V _ h.ck
  have l2 := World.block_lt_of_cell? V _ h.cn
  ⟨(hb.cell l0).trans h.c0, (hb.cell l0).trans h.c1, (hb.frozen l0).trans h.g0, (hb.frozen l0).trans h.g1, (hb.cell l1).trans h.ck, (hb.frozen l1).trans h.gk, (hb.cell l2).trans h.cn, (hb.frozen l2).trans h.gn, h.bl.trans hb⟩

theorem ne_addr {a b i j : Nat} (h : a ≠ b ∨ i ≠ j) : (⟨a, i, none⟩ : Addr) ≠ ⟨b, j, none⟩ := fun e => by
  injection e with e1 e2
  omega

theorem FSt.put (h : FSt w V s k n) (m : Int) : FSt w (V.setCell ⟨w.heap.size + 1 + 1, 0, none⟩ (.int .i64 m)) s k m :=
  ⟨box_set_other (ne_addr (by omega)) h.c0, box_set_other (ne_addr (by omega)) h.c1, by rw [World.frozen?_setCell]; exact h.g0, by rw [World.frozen?_setCell]; exact h.g1, box_set_other (ne_addr (by omega)) h.ck, by rw [World.frozen?_setCell]; exact h.gk, box_set_same h.cn, by rw [World.frozen?_setCell]; exact h.gn, h.bl.setCell (p := ⟨w.heap.size + 1 + 1, 0, none⟩) (by show w.heap.size ≤ w.heap.size + 1 + 1; omega) _⟩

theorem FSt.putK (h : FSt w V s k n) (m : Int) : FSt w (V.setCell ⟨w.heap.size + 1, 0, none⟩ (.int .i64 m)) s m n :=
  ⟨box_set_other (ne_addr (by omega)) h.c0, box_set_other (ne_addr (by omega)) h.c1, by rw [World.frozen?_setCell]; exact h.g0, by rw [World.frozen?_setCell]; exact h.g1, box_set_same h.ck, by rw [World.frozen?_setCell]; exact h.gk, box_set_other (ne_addr (by omega)) h.cn, by rw [World.frozen?_setCell]; exact h.gn, h.bl.setCell (p := ⟨w.heap.size + 1, 0, none⟩) (by show w.heap.size ≤ w.heap.size + 1; omega) _⟩

theorem FSt.putS (h : FSt w V s k n) (q : Id) : FSt w ((V.setCell ⟨w.heap.size, 0, none⟩ (.int .u32 q.t)).setCell ⟨w.heap.size, 1, none⟩ (.int .u8 q.r)) q k n :=
  ⟨box_set_other (ne_addr (by omega)) (box_set_same h.c0), box_set_same (box_set_other (ne_addr (by omega)) h.c1), by rw [World.frozen?_setCell, World.frozen?_setCell]; exact h.g0, by rw [World.frozen?_setCell, World.frozen?_setCell]; exact h.g1, box_set_other (ne_addr (by omega)) (box_set_other (ne_addr (by omega)) h.ck), by rw [World.frozen?_setCell, World.frozen?_setCell]; exact h.gk, box_set_other (ne_addr (by omega)) (box_set_other (ne_addr (by omega)) h.cn), by rw [World.frozen?_setCell, World.frozen?_setCell]; exact h.gn, (h.bl.setCell (p := ⟨w.heap.size, 0, none⟩) (Nat.le_refl _) _).setCell (p := ⟨w.heap.size, 1, none⟩) (Nat.le_refl _) _⟩

end

set_option maxRecDepth 100000 in
set_option maxHeartbeats 1000000 in
theorem find1 {w V : World} {s : Id} {k n : Int} (h : FSt w V s k n) (u : FrameMode) :
    CallsD Try.prog 118 #[.pointer (some ⟨w.heap.size + 1 + 1, 0, none⟩), .pointer (some ⟨w.heap.size, 0, none⟩), .pointer (some ⟨w.heap.size + 1, 0, none⟩)] u V fun e u' w' => u' = u ∧ e = .returned (.tuple #[]) ∧ FSt w w' (if n = 0 then s else ⟨0, 0⟩) (if n = 0 then k else 0) n := by
  have h' := hide h
  obtain ⟨c0, c1, g0, g1, ck, gk, cn, gn, bl⟩ := h
  by_cases hn : n = 0
  · rw [if_pos hn, if_pos hn]
    subst hn
    go_enter_d Try.func118, Try.ntmps118
    go_wp2
    go_end0
    exact ⟨rfl, h'.out⟩
  · rw [if_neg hn, if_neg hn]
    have hn' : (n != 0) = true := by simp [hn]
    have h3 := hide (((h'.out.putS ⟨0, 0⟩).putK 0))
    clear hn bl
    go_enter_d Try.func118, Try.ntmps118
    go_wp2_with fail
    go_end0
    exact ⟨rfl, h3.out⟩

def fndB (l : List Op) (p : List Run) : Bool := bagMay l && placeMay p

def fndS (l : List Op) (p : List Run) : Id := if fndB l p then homeF (livesF l) p else ⟨0, 0⟩

def fndK (l : List Op) (p : List Run) : Int := if fndB l p then (posP (elemsL l (homeF (livesF l) p)) p : Int) else 0

/-- What hands back a stamp, a number and an error. -/
def IdKN (s : Id) (k n : Int) (w : World) (e : Ending) (w' : World) : Prop := e = .returned (.tuple #[.agg #[.int .u32 s.t, .int .u8 s.r], .int .i64 k, .int .i64 n]) ∧ Bl w w'

theorem FSt.leaves {w V : World} {s s' : Id} {k k' n n' : Int} {fn : Func} {tmps : Array Value} (h : FSt w V s k n) (hs : s' = if n = 0 then s else ⟨0, 0⟩) (hk : k' = if n = 0 then k else 0) (hn : n' = n)
    (hres : ∀ w', FSt w w' s' k' n → (results fn tmps).run Try.prog w' = .ok (.tuple #[.agg #[.int .u32 s'.t, .int .u8 s'.r], .int .i64 k', .int .i64 n]) w') :
    Leaves Try.prog fn tmps (IdKN s' k' n' w) [{ target := .fn (.func 118) #[.pointer (some ⟨w.heap.size + 1 + 1, 0, none⟩), .pointer (some ⟨w.heap.size, 0, none⟩), .pointer (some ⟨w.heap.size + 1, 0, none⟩)], args := #[] }] .returning V := by
  subst hn
  refine leaves_cons (f := 118) (args := #[.pointer (some ⟨w.heap.size + 1 + 1, 0, none⟩), .pointer (some ⟨w.heap.size, 0, none⟩), .pointer (some ⟨w.heap.size + 1, 0, none⟩)]) (by simp) (by simp [go_sem]) ?_
  refine (find1 h .returning).mono ?_
  rintro e u' w' ⟨rfl, rfl, h'⟩
  rw [← hs, ← hk] at h'
  exact ⟨_, hres w' h', rfl, h'.bl⟩

theorem idx_mem : ∀ {l : List Id} {s : Id}, s ∈ l → 0 ≤ idxOf l s
  | [], s, h => by cases h
  | x :: l, s, h => by
    unfold idxOf
    by_cases e : x = s
    · rw [if_pos e]
      exact Int.le_refl _
    · rcases List.mem_cons.1 h with h | h
      · exact absurd h.symm e
      · have := idx_mem h
        rw [if_neg e, if_neg (by omega)]
        omega

theorem fnd_zero {l : List Op} {p : List Run} (hb : bagMay l = true) (hp : placeMay p = true) : whereN l (homeF (livesF l) p) 0 = 0 := by
  obtain ⟨i, hi⟩ := home_some hb (may_any hp)
  have h1 := idx_mem (List.mem_of_getElem? hi)
  unfold whereN
  rw [hb, if_pos rfl, if_neg (by omega)]

set_option maxRecDepth 100000 in
set_option maxHeartbeats 4000000 in
theorem anchorFind (A B : Option Addr) (c d : Nat) (l : List Op) (p : List Run) (w : World) (hl : l.length ≤ maxLen) (hp : p.length ≤ maxLen) (hA : R cOp 0 w A l) (hB : R cRun 0 w B p) :
    Calls Try.prog 57 #[.slice A l.length c, .slice B p.length d] w (IdKN (fndS l p) (fndK l p) (okOr 8 (fndB l p)) w) := by
  obtain ⟨W, hW⟩ : ∃ W, W = ((w.alloc (.cells #[Value.int IntKind.u32 0, Value.int IntKind.u8 0] 36)).alloc (.cells #[Value.int IntKind.i64 0] 3)).alloc (.cells #[Value.int IntKind.i64 0] 25) := ⟨_, rfl⟩
  have hbW : Bl w W := by rw [hW]; exact (((Bl.refl _).alloc _).alloc _).alloc _
  have st0 : FSt w W ⟨0, 0⟩ 0 0 := by
    have h0 := ((IdBox.new w ⟨0, 0⟩ 36).bl ((Bl.refl _).alloc (.cells #[Value.int IntKind.i64 0] 3))).bl ((Bl.refl _).alloc (.cells #[Value.int IntKind.i64 0] 25))
    have h1 := (At.new (w.alloc (.cells #[Value.int IntKind.u32 0, Value.int IntKind.u8 0] 36)) [Value.int IntKind.i64 0] 3).bl ((Bl.refl _).alloc (.cells #[Value.int IntKind.i64 0] 25)) (by simp) 0 _ rfl
    have h2 := At.new ((w.alloc (.cells #[Value.int IntKind.u32 0, Value.int IntKind.u8 0] 36)).alloc (.cells #[Value.int IntKind.i64 0] 3)) [Value.int IntKind.i64 0] 25 0 _ rfl
    rw [World.size_alloc w] at h1
    rw [World.size_alloc, World.size_alloc w] at h2
    rw [hW]
    exact ⟨h0.c0, h0.c1, h0.f0, h0.f1, h1.1, h1.2, h2.1, h2.2, (((Bl.refl _).alloc _).alloc _).alloc _⟩
  obtain ⟨s, hs⟩ : ∃ s, s = fndS l p := ⟨_, rfl⟩
  obtain ⟨k, hk⟩ : ∃ k, k = fndK l p := ⟨_, rfl⟩
  obtain ⟨n, hn⟩ : ∃ n, n = okOr 8 (fndB l p) := ⟨_, rfl⟩
  rw [← hs, ← hk, ← hn]
  have hck := fun V (hv : Bl w V) => bagCheck A c l V hl (hA.bl hv)
  have hpc := fun V (hv : Bl w V) => placeCheck B d p V hp (hB.bl hv)
  have hho := fun V (hv : Bl w V) => homeOf A B c d l p V hl hp (hA.bl hv) (hB.bl hv)
  have hres : ∀ (s : Id) (k n : Int) (tmps : Array Value) w', tmps[4]? = some (.pointer (some ⟨w.heap.size, 0, none⟩)) → tmps[5]? = some (.pointer (some ⟨w.heap.size + 1, 0, none⟩)) → tmps[6]? = some (.pointer (some ⟨w.heap.size + 1 + 1, 0, none⟩)) → FSt w w' s k n → (results Try.f57 tmps).run Try.prog w' = .ok (.tuple #[.agg #[.int .u32 s.t, .int .u8 s.r], .int .i64 k, .int .i64 n]) w' := by
    intro s k n tmps w' t4 t5 t6 hf
    obtain ⟨c0, c1, g0, g1, ck, gk, cn, gn, bl⟩ := hf
    simp [results, Try.results57, go_sem, t4, t5, t6, c0, c1, ck, cn]
  replace hres := hide hres
  cases hb : bagMay l
  · have e1 : fndB l p = false := by unfold fndB; rw [hb]; rfl
    rw [hb] at hck
    have es : s = ⟨0, 0⟩ := by rw [hs]; unfold fndS; rw [e1]; rfl
    have ek : k = 0 := by rw [hk]; unfold fndK; rw [e1]; rfl
    have en : n = 8 := by rw [hn, e1]; rfl
    subst es ek en
    replace hck := hide hck
    clear hs hk hn e1 hb hpc hho
    go_enter_defers Try.func57, Try.ntmps57
    go_wp2_with fail
    rw [← hW]
    clear hW
    refine (hck.out _ hbW).mono ?_
    rintro e w1 ⟨rfl, hb1⟩
    have st1 := st0.go hb1
    have st2 := st1.put 8
    rw [show okOr 8 false = 8 from rfl]
    obtain ⟨c0, c1, g0, g1, ck, gk, cn, gn, bl⟩ := st1
    go_wp2_with fail
    exact st2.leaves rfl rfl rfl fun w' hf => hres.out _ _ _ _ w' rfl rfl rfl hf
  · rw [hb] at hck
    have hl2 : l.length ≤ 1048576 := Nat.le_trans (bagMay_parts hb).1 (by omega)
    replace hck := hide hck
    cases hm : placeMay p
    · have e1 : fndB l p = false := by unfold fndB; rw [hb, hm]; rfl
      rw [hm] at hpc
      have es : s = ⟨0, 0⟩ := by rw [hs]; unfold fndS; rw [e1]; rfl
      have ek : k = 0 := by rw [hk]; unfold fndK; rw [e1]; rfl
      have en : n = 8 := by rw [hn, e1]; rfl
      subst es ek en
      replace hpc := hide hpc
      clear hs hk hn e1 hb hho hm
      go_enter_defers Try.func57, Try.ntmps57
      go_wp2_with fail
      rw [← hW]
      clear hW
      refine (hck.out _ hbW).mono ?_
      rintro e w1 ⟨rfl, hb1⟩
      have st1 := st0.go hb1
      have st2 := st1.put 0
      rw [show okOr 8 true = 0 from rfl]
      have st2' := hide st2
      have hbl2 := st2.bl
      obtain ⟨c0, c1, g0, g1, ck, gk, cn, gn, bl⟩ := st1
      clear st2
      go_wp2_with fail
      refine (hpc.out _ hbl2).mono ?_
      rintro e w2 ⟨rfl, hb2⟩
      have st3 := st2'.out.go hb2
      have st4 := st3.put 8
      rw [show okOr 8 false = 8 from rfl]
      clear c0 c1 g0 g1 ck gk cn gn bl st2' hbl2 hb2
      obtain ⟨c0, c1, g0, g1, ck, gk, cn, gn, bl⟩ := st3
      go_wp2_with fail
      exact st4.leaves rfl rfl rfl fun w' hf => hres.out _ _ _ _ w' rfl rfl rfl hf
    · have e1 : fndB l p = true := by unfold fndB; rw [hb, hm]; rfl
      rw [hm] at hpc
      have hof := fun V (hv : Bl w V) => viewOffset A B c d l (homeF (livesF l) p) p V hl2 hp (hA.bl hv) (hB.bl hv)
      have hz := fnd_zero hb hm
      have hoz : offN l (homeF (livesF l) p) p = 0 := by unfold offN; rw [if_pos hz, may_any hm]; rfl
      have hok : offK l (homeF (livesF l) p) p = k := by rw [hk]; unfold fndK offK; rw [if_pos hoz, e1, if_pos rfl]
      have es : ofS l p = s := by rw [hs]; unfold fndS ofS; rw [e1, hb, may_any hm]; rfl
      have es2 : homeF (livesF l) p = s := by rw [hs]; unfold fndS; rw [e1, if_pos rfl]
      have en : n = 0 := by rw [hn, e1]; rfl
      rw [hoz, hok, es2] at hof
      rw [es] at hho
      subst en
      replace hof := hide hof
      replace hpc := hide hpc
      replace hho := hide hho
      generalize ofN l p = N2 at hho
      clear hs hk hn e1 hb hm hz hoz hok es es2
      go_enter_defers Try.func57, Try.ntmps57
      go_wp2_with fail
      rw [← hW]
      clear hW
      refine (hck.out _ hbW).mono ?_
      rintro e w1 ⟨rfl, hb1⟩
      have st1 := st0.go hb1
      have st2 := st1.put 0
      rw [show okOr 8 true = 0 from rfl]
      have st2' := hide st2
      have hbl2 := st2.bl
      obtain ⟨c0, c1, g0, g1, ck, gk, cn, gn, bl⟩ := st1
      clear st2
      go_wp2_with fail
      refine (hpc.out _ hbl2).mono ?_
      rintro e w2 ⟨rfl, hb2⟩
      have st3 := st2'.out.go hb2
      have st4 := st3.put 0
      rw [show okOr 8 true = 0 from rfl]
      clear c0 c1 g0 g1 ck gk cn gn bl st2' hbl2 hb2 hb1
      obtain ⟨c0, c1, g0, g1, ck, gk, cn, gn, bl⟩ := st3
      have hbl4 := st4.bl
      have st4' := hide st4
      clear st4
      go_wp2_with fail
      refine (hho.out _ hbl4).mono ?_
      rintro e w3 ⟨rfl, hb3⟩
      have st5 := st4'.out.go hb3
      have st6 := st5.putS s
      clear c0 c1 g0 g1 ck gk cn gn bl st4' hbl4 hb3
      obtain ⟨c0, c1, g0, g1, ck, gk, cn, gn, bl⟩ := st5
      have hbl6 := st6.bl
      have st6' := hide st6
      clear st6
      go_wp2_with fail
      refine (hof.out _ hbl6).mono ?_
      rintro e w4 ⟨rfl, hb4⟩
      have st7 := st6'.out.go hb4
      have st8 := (st7.putK k).put 0
      clear c0 c1 g0 g1 ck gk cn gn bl st6' hbl6 hb4
      obtain ⟨c0, c1, g0, g1, ck, gk, cn, gn, bl⟩ := st7
      go_wp2_with fail
      exact st8.leaves rfl rfl rfl fun w' hf => hres.out _ _ _ _ w' rfl rfl rfl hf
end Go.Proofs.Ytkolimhkfiebeaa
