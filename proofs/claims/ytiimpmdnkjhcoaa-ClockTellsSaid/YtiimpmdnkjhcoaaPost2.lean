/-
  A row's last step, the arguments as they stood; what the rows' proofs share.
-/
import Derived.Test.YtiimpmdnkjhcoaaOpen
namespace Go.Proofs.Ytiimpmdnkjhcoaa
open Go.ChangeShapes Go.WideShapes Go.ChangeAt Go.RowKit

theorem post_bl2 {H : Type} {enc : TypeId × Value → H} {P : Program} {f : Func} {s : ChangeSpec} {W W' : World} {args : Array Value} {v : Value} {ds gs : List (DataW H)} {before pa pv : List MemPlace}
    (hW : DataW.Whole enc P f.params.toList s.vars false W args.toList ds gs before) (hb : Bl W W') (hps : before = pa ++ pv)
    (hres : ∀ (b : Nat) (sp : Nat → Bool) (hd : Bool), DataW.TrodAll enc P W' b sp hd f.resultTypes.toList (v.resultList f.resultTypes.size) (s.fn H (ds ++ gs)).results [])
    (hargs : DataW.TrodAll enc P W' 0 (fun b => decide (b < W.heap.size)) true f.params.toList args.toList (s.fn H (ds ++ gs)).args pa)
    (hvars : ∀ sp : Nat → Bool, (∀ p ∈ before, sp p.block = true) → DataW.TrodVars enc P W' sp s.vars (s.fn H (ds ++ gs)).vars pv) :
    s.post enc P f false true false false W args v W' := by
  have hbl : Below W.heap.size W W' := hb
  have hin : ∀ p ∈ before, p.block < W.heap.size := fun p hp => hW.lt p hp
  have hframe : W.keptBut W' (· ∈ before) := hbl.frame (· ∈ before)
  refine ⟨ds, gs, before, [], pa, pv, hW, hres _ _ _, hargs, hvars _ (fun p hp => decide_eq_true (hin p hp)), ?_, fun h => by cases h⟩
  refine World.keptBut_mono (fun p hp => ⟨hp, ?_⟩) hframe
  rw [hps] at hp
  exact .inr (List.mem_append.1 hp)

theorem ownKnobNone : ownKnob Try.prog.godebug = none := by kernel_rfl

theorem laidOutTry : laidOutB Try.prog = true := by kernel_rfl

theorem fits_of {H : Type} {ts : List TypeId} {ds : List (DataW H)} (h : (DataW.weightsEach Try.prog ts ds).all (· ≤ reachBytes) = true) (j : Nat) {t : TypeId} {d : DataW H} (ht : ts[j]? = some t) (hd : ds[j]? = some d) : Fits t d := fun n hn => by
  have := List.all_eq_true.1 h _ (DataW.weights_mem_each ht hd n hn)
  simpa using this

theorem times_len {n : Nat} (h : n * Try.prog.bytesOf 73 ≤ reachBytes) : n ≤ 140737488355328 := by
  rw [byT] at h
  unfold reachBytes at h
  omega

theorem read_timess : Try.prog.readableRec 37 = true ∧ 37 < Try.prog.types.size := ⟨by kernel_rfl, of_decide_eq_true (by kernel_rfl)⟩

end Go.Proofs.Ytiimpmdnkjhcoaa
