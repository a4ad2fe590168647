/-
  A row's last step where the world's elder blocks stand as they stood.
-/
import Derived.Test.YtiimpmdnkjhcoaaRows
import Derived.Test.YtiimpmdnkjhcoaaBase
import Derived.WalkKit
import Derived.ProofKit
import Derived.OpenShut
import Derived.Below
import Derived.ChangeSame
namespace Go.Proofs.Ytiimpmdnkjhcoaa
open Go.ChangeShapes Go.WideShapes Go.ChangeAt Go.RowKit

theorem post_bl {H : Type} {enc : TypeId × Value → H} {P : Program} {f : Func} {s : ChangeSpec} {W W' : World} {args : Array Value} {v : Value} {ds gs : List (DataW H)} {before pa pv : List MemPlace}
    (hW : DataW.Whole enc P f.params.toList s.vars false W args.toList ds gs before) (hb : Bl W W') (hps : before = pa ++ pv)
    (hres : ∀ (b : Nat) (sp : Nat → Bool) (hd : Bool), DataW.TrodAll enc P W' b sp hd f.resultTypes.toList (v.resultList f.resultTypes.size) (s.fn H (ds ++ gs)).results [])
    (hargs : ∀ sp : Nat → Bool, (∀ p ∈ before, sp p.block = true) → DataW.TrodAll enc P W' 0 sp true f.params.toList args.toList (s.fn H (ds ++ gs)).args pa)
    (hvars : ∀ sp : Nat → Bool, (∀ p ∈ before, sp p.block = true) → DataW.TrodVars enc P W' sp s.vars (s.fn H (ds ++ gs)).vars pv) :
    s.post enc P f false true false false W args v W' := by
  have hbl : Below W.heap.size W W' := hb
  have hin : ∀ p ∈ before, p.block < W.heap.size := fun p hp => hW.lt p hp
  have hframe : W.keptBut W' (· ∈ before) := hbl.frame (· ∈ before)
  refine ⟨ds, gs, before, [], pa, pv, hW, hres _ _ _, hargs _ (fun p hp => decide_eq_true (hin p hp)), hvars _ (fun p hp => decide_eq_true (hin p hp)), ?_, fun h => by cases h⟩
  refine World.keptBut_mono (fun p hp => ⟨hp, ?_⟩) hframe
  rw [hps] at hp
  exact .inr (List.mem_append.1 hp)
end Go.Proofs.Ytiimpmdnkjhcoaa
