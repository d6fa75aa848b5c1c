/- The walk of 'SchedPatience', for whatever is handed in. Conditions: none. -/
import Derived.Test.YtgbjhkgbjnobcaaPatience
import Derived.Test.YtgbjhkgbjnobcaaOpens
namespace Go.Proofs.Ytgbjhkgbjnobcaa
open Go.ChangeShapes Go.WideShapes Go.RowKit
theorem patience_walk {H : Type} (enc : TypeId × Value → H) (W : World) (base : Nat) (args : Array Value) (ds gs : List (DataW H)) (before : List MemPlace)
    (hval : ∀ (j : Nat) t v, Try.f4.params[j]? = some t → args[j]? = some v → Value.okWide Try.prog W .any base t v)
    (hW : DataW.Whole enc Try.prog Try.f4.params.toList Rows.schedPatienceSpec.vars false W args.toList ds gs before)
    (_ : (DataW.weightsEach Try.prog (Try.f4.params.toList ++ Rows.schedPatienceSpec.plain.varTypes Try.prog) (ds ++ gs)).all (· ≤ reachBytes) = true) :
    Calls Try.prog 4 args W fun e W' => e = .returned (.bool true) ∧ Below W.heap.size W W' := by
  obtain ⟨p, q, hA0, hV, rfl, hfz, hnd⟩ := hW
  have hA : DataW.TrodAll enc Try.prog W 0 (fun _ => true) true Try.f4.params.toList args.toList ds p := hA0
  rw [Try.params4] at hA hval
  obtain ⟨v0, vs0, d0, ds0, p0, q0, hargs, rfl, rfl, h0, r0⟩ := trodAll_cons hA
  obtain ⟨v1, vs1, d1, ds1, p1, q1, rfl, rfl, rfl, h1, r1⟩ := trodAll_cons r0
  obtain ⟨rfl, rfl, rfl⟩ := trodAll_nil r1
  obtain rfl : args = #[v0, v1] := by cases args; simp_all
  obtain ⟨A, n, cap, wk, rfl, hn, hAx⟩ := open_works (hval 0 29 v0 rfl rfl) h0
  obtain ⟨B, m, cap', pk, rfl, hm, hB⟩ := open_picks (hval 1 30 v1 rfl rfl) h1
  unfold maxLen at hn hm
  exact patience_any A B n m cap cap' wk pk W (by omega) (by omega) hAx hB
end Go.Proofs.Ytgbjhkgbjnobcaa
