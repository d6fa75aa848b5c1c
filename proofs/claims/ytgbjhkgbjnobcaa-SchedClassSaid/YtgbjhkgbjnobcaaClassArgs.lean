/- The walk of 'SchedClass', for whatever is handed in. Conditions: none. -/
import Derived.Test.YtgbjhkgbjnobcaaClassLaw
import Derived.Test.YtgbjhkgbjnobcaaOpens
namespace Go.Proofs.Ytgbjhkgbjnobcaa
open Go.ChangeShapes Go.WideShapes Go.RowKit
theorem classLaw_walk {H : Type} (enc : TypeId × Value → H) (W : World) (base : Nat) (args : Array Value) (ds gs : List (DataW H)) (before : List MemPlace)
    (hval : ∀ (j : Nat) t v, Try.f3.params[j]? = some t → args[j]? = some v → Value.okWide Try.prog W .any base t v)
    (hW : DataW.Whole enc Try.prog Try.f3.params.toList Rows.schedClassSpec.vars false W args.toList ds gs before)
    (_ : (DataW.weightsEach Try.prog (Try.f3.params.toList ++ Rows.schedClassSpec.plain.varTypes Try.prog) (ds ++ gs)).all (· ≤ reachBytes) = true) :
    Calls Try.prog 3 args W fun e W' => e = .returned (.bool true) ∧ Below W.heap.size W W' := by
  obtain ⟨p, q, hA0, hV, rfl, hfz, hnd⟩ := hW
  have hA : DataW.TrodAll enc Try.prog W 0 (fun _ => true) true Try.f3.params.toList args.toList ds p := hA0
  rw [Try.params3] at hA hval
  obtain ⟨v0, vs0, d0, ds0, p0, q0, hargs, rfl, rfl, h0, r0⟩ := trodAll_cons hA
  obtain ⟨v1, vs1, d1, ds1, p1, q1, rfl, rfl, rfl, h1, r1⟩ := trodAll_cons r0
  obtain ⟨v2, vs2, d2, ds2, p2, q2, rfl, rfl, rfl, h2, r2⟩ := trodAll_cons r1
  obtain ⟨rfl, rfl, rfl⟩ := trodAll_nil r2
  obtain rfl : args = #[v0, v1, v2] := by cases args; simp_all
  obtain ⟨c, rfl⟩ := open_classes (hval 0 24 v0 rfl rfl) h0
  obtain ⟨wk, rfl⟩ := open_work (hval 1 25 v1 rfl rfl) h1
  obtain ⟨pick, rfl, rfl, rfl, _⟩ := open_int Try.underlying3 (hval 2 3 v2 rfl rfl) h2
  exact classLaw_any c wk pick W
end Go.Proofs.Ytgbjhkgbjnobcaa
