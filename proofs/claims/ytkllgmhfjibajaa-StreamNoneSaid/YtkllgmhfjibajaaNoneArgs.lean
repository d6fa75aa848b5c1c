/- The walk of 'StreamNone' as the row's frame asks for it. Conditions: none. -/
import Derived.Test.YtkllgmhfjibajaaNone
import Derived.Test.YtkllgmhfjibajaaFrame
namespace Go.Proofs.Ytkllgmhfjibajaa
open Go.ChangeShapes Go.WideShapes Go.RowKit
theorem none_args {H : Type} (enc : TypeId × Value → H) (W : World) (base : Nat) (args : Array Value) (ds gs : List (DataW H)) (before : List MemPlace)
    (_ : ∀ (j : Nat) t v, Try.f5.params[j]? = some t → args[j]? = some v → Value.okWide Try.prog W .any base t v)
    (hW : DataW.Whole enc Try.prog Try.f5.params.toList Rows.streamNoneSpec.vars false W args.toList ds gs before)
    (_ : (DataW.weightsEach Try.prog (Try.f5.params.toList ++ Rows.streamNoneSpec.plain.varTypes Try.prog) (ds ++ gs)).all (· ≤ reachBytes) = true) :
    Calls Try.prog 5 args W fun e W' => e = .returned (.bool true) ∧ Below W.heap.size W W' := by
  obtain ⟨p, q, hA0, hV, rfl, hfz, hnd⟩ := hW
  have hA : DataW.TrodAll enc Try.prog W 0 (fun _ => true) true Try.f5.params.toList args.toList ds p := hA0
  rw [Try.params5] at hA
  obtain ⟨hargs, rfl, rfl⟩ := trodAll_none hA
  obtain rfl : args = #[] := by cases args; simp_all
  exact none_walk W
end Go.Proofs.Ytkllgmhfjibajaa
