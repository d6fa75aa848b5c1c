/- The three walks in the form in which the row's frame takes them. Conditions: none. -/
import Derived.Test.YtlhhipnjckogiaaErrorsWalk
import Derived.Test.YtlhhipnjckogiaaKindsWalk
import Derived.Test.YtlhhipnjckogiaaFrame
namespace Go.Proofs.Ytlhhipnjckogiaa
open Go.ChangeShapes Go.RowKit
section
variable {H : Type} (enc : TypeId × Value → H) (W : World) (base : Nat) (args : Array Value) (ds gs : List (DataW H)) (before : List MemPlace)
theorem noArgs {ts : List TypeId} {W : World} {args : Array Value} {ds gs : List (DataW H)} {before : List MemPlace} (hts : ts = []) (h : DataW.Whole enc Try.prog ts [] false W args.toList ds gs before) : args = #[] := by
  obtain ⟨p, q, hA, _⟩ := h
  subst hts
  obtain ⟨h1, _, _⟩ := trodAll_none hA
  simpa using h1
theorem errors_walk (_ : ∀ (j : Nat) t v, Try.f3.params[j]? = some t → args[j]? = some v → Value.okWide Try.prog W .any base t v)
    (hW : DataW.Whole enc Try.prog Try.f3.params.toList [] false W args.toList ds gs before) (_ : (DataW.weightsEach Try.prog (Try.f3.params.toList ++ Rows.apiErrorsSpec.plain.varTypes Try.prog) (ds ++ gs)).all (· ≤ reachBytes) = true) :
    Calls Try.prog 3 args W fun e W' => e = .returned (.bool true) ∧ Below W.heap.size W W' := by
  rw [noArgs enc (by rw [Try.params3]) hW]; exact errors_any W
theorem bounds_walk (_ : ∀ (j : Nat) t v, Try.f4.params[j]? = some t → args[j]? = some v → Value.okWide Try.prog W .any base t v)
    (hW : DataW.Whole enc Try.prog Try.f4.params.toList [] false W args.toList ds gs before) (_ : (DataW.weightsEach Try.prog (Try.f4.params.toList ++ Rows.apiBoundsSpec.plain.varTypes Try.prog) (ds ++ gs)).all (· ≤ reachBytes) = true) :
    Calls Try.prog 4 args W fun e W' => e = .returned (.bool true) ∧ Below W.heap.size W W' := by
  rw [noArgs enc (by rw [Try.params4]) hW]; exact bounds_any W
theorem kinds_walk (_ : ∀ (j : Nat) t v, Try.f5.params[j]? = some t → args[j]? = some v → Value.okWide Try.prog W .any base t v)
    (hW : DataW.Whole enc Try.prog Try.f5.params.toList [] false W args.toList ds gs before) (_ : (DataW.weightsEach Try.prog (Try.f5.params.toList ++ Rows.apiKindsSpec.plain.varTypes Try.prog) (ds ++ gs)).all (· ≤ reachBytes) = true) :
    Calls Try.prog 5 args W fun e W' => e = .returned (.bool true) ∧ Below W.heap.size W W' := by
  rw [noArgs enc (by rw [Try.params5]) hW]; exact kinds_any W
end
end Go.Proofs.Ytlhhipnjckogiaa
