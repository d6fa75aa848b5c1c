/- The walk of 'DedupeFolds' for whatever is handed in. Conditions: none beyond what a list bears. -/
import Derived.Test.YtmcahimapoddfaaFoldsW
import Derived.Test.YtmcahimapoddfaaApartArgs
namespace Go.Proofs.Ytmcahimapoddfaa
open Go.ChangeShapes Go.WideShapes Go.RowKit
theorem weights_rest {P : Program} {H : Type} {ts : List TypeId} {ds : List (DataW H)} {t : TypeId} {d : DataW H} (h : (DataW.weightsEach P (t :: ts) (d :: ds)).all (· ≤ reachBytes) = true) : (DataW.weightsEach P ts ds).all (· ≤ reachBytes) = true := by
  rw [List.all_eq_true] at h ⊢
  intro n hn
  exact h n (by simp only [DataW.weightsEach, List.mem_append]; exact .inr hn)

set_option maxRecDepth 100000 in
theorem folds_walk {H : Type} (enc : TypeId × Value → H) (W : World) (base : Nat) (args : Array Value) (ds gs : List (DataW H)) (before : List MemPlace)
    (hval : ∀ (j : Nat) t v, Try.f3.params[j]? = some t → args[j]? = some v → Value.okWide Try.prog W .any base t v)
    (hW : DataW.Whole enc Try.prog Try.f3.params.toList Rows.dedupeFoldsSpec.vars false W args.toList ds gs before)
    (hsz : (DataW.weightsEach Try.prog (Try.f3.params.toList ++ Rows.dedupeFoldsSpec.plain.varTypes Try.prog) (ds ++ gs)).all (· ≤ reachBytes) = true) :
    Calls Try.prog 3 args W fun e W' => e = .returned (.bool true) ∧ Below W.heap.size W W' := by
  obtain ⟨p, q, hA0, hV, rfl, hfz, hnd⟩ := hW
  have hA : DataW.TrodAll enc Try.prog W 0 (fun _ => true) true Try.f3.params.toList args.toList ds p := hA0
  rw [Try.params3] at hA hval hsz
  obtain ⟨v0, vs0, d0, ds0, p0, q0, hargs, rfl, rfl, h0, r0⟩ := trodAll_cons hA
  obtain ⟨v1, vs1, d1, ds1, p1, q1, rfl, rfl, rfl, h1, r1⟩ := trodAll_cons r0
  obtain ⟨rfl, rfl, rfl⟩ := trodAll_nil r1
  obtain rfl : args = #[v0, v1] := by cases args; simp_all
  have hw := weights_of hsz
  have hw2 := weights_of (weights_rest hsz)
  obtain ⟨ps, k0, _, l0⟩ := open_prods (hval 0 22 v0 rfl rfl) h0
  obtain ⟨rs, k1, _, l1⟩ := open_recs (hval 1 23 v1 rfl rfl) h1
  exact folds_any v0 v1 ps rs W k0 k1 (by have := l0 hw; omega) (by have := l1 hw2; omega)
end Go.Proofs.Ytmcahimapoddfaa
