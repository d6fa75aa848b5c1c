/- The walk of 'StreamHuge' for whatever is handed in. Conditions: none. -/
import Derived.Test.YtkllgmhfjibajaaHuge
import Derived.Test.YtkllgmhfjibajaaArgs
namespace Go.Proofs.Ytkllgmhfjibajaa
open Go.ChangeShapes Go.WideShapes Go.RowKit Ar
set_option maxRecDepth 100000 in
theorem huge_walk {H : Type} (enc : TypeId × Value → H) (W : World) (base : Nat) (args : Array Value) (ds gs : List (DataW H)) (before : List MemPlace)
    (hval : ∀ (j : Nat) t v, Try.f7.params[j]? = some t → args[j]? = some v → Value.okWide Try.prog W .any base t v)
    (hW : DataW.Whole enc Try.prog Try.f7.params.toList Rows.streamHugeSpec.vars false W args.toList ds gs before)
    (hsz : (DataW.weightsEach Try.prog (Try.f7.params.toList ++ Rows.streamHugeSpec.plain.varTypes Try.prog) (ds ++ gs)).all (· ≤ reachBytes) = true) :
    Calls Try.prog 7 args W fun e W' => e = .returned (.bool true) ∧ Below W.heap.size W W' := by
  obtain ⟨p, q, hA0, hV, rfl, hfz, hnd⟩ := hW
  have hA : DataW.TrodAll enc Try.prog W 0 (fun _ => true) true Try.f7.params.toList args.toList ds p := hA0
  rw [Try.params7] at hA hval hsz
  obtain ⟨v0, vs0, d0, ds0, p0, q0, hargs, rfl, rfl, h0, r0⟩ := trodAll_cons hA
  obtain ⟨v1, vs1, d1, ds1, p1, q1, rfl, rfl, rfl, h1, r1⟩ := trodAll_cons r0
  obtain ⟨v2, vs2, d2, ds2, p2, q2, rfl, rfl, rfl, h2, r2⟩ := trodAll_cons r1
  obtain ⟨v3, vs3, d3, ds3, p3, q3, rfl, rfl, rfl, h3, r3⟩ := trodAll_cons r2
  obtain ⟨rfl, rfl, rfl⟩ := trodAll_nil r3
  obtain rfl : args = #[v0, v1, v2, v3] := by cases args; simp_all
  have hw3 : ∀ n ∈ d3.weights Try.prog 49, n ≤ reachBytes := fun n hn => by
    have hm : n ∈ DataW.weightsEach Try.prog ([3, 22, 3, 49] ++ Rows.streamHugeSpec.plain.varTypes Try.prog) ([d0, d1, d2, d3] ++ gs) := DataW.weights_mem_each (ts := [3, 22, 3, 49] ++ Rows.streamHugeSpec.plain.varTypes Try.prog) (ds := [d0, d1, d2, d3] ++ gs) (j := 3) rfl rfl n hn
    exact of_decide_eq_true (List.all_eq_true.1 hsz n hm)
  obtain ⟨n, rfl⟩ := okWide_int Try.underlying3 (hval 0 3 v0 rfl rfl)
  obtain ⟨f1, hf1⟩ := h1
  obtain ⟨A1, xs1, c1, e1, a1, a2, a3, a4, a5, a6⟩ := open_bytes hf1
  obtain ⟨A1', n1', c1', rfl⟩ := okWide_slice Try.underlying22 (hval 1 22 v1 rfl rfl)
  obtain ⟨lim, rfl⟩ := okWide_int Try.underlying3 (hval 2 3 v2 rfl rfl)
  obtain ⟨f3, hf3⟩ := h3
  obtain ⟨A3, xs3, c3, e3, l1, l2, l3, l4, l5⟩ := open_ints hf3 hw3
  obtain ⟨A3', n3', c3', rfl⟩ := okWide_slice Try.underlying49 (hval 3 49 v3 rfl rfl)
  simp only [Value.cells, List.cons.injEq, and_true] at e1 e3
  rw [e1, e3]
  exact huge_any n lim A1 A3 xs1 xs3 c1 c3 W ⟨a1, a2⟩ a4 a5 l3 l5 l4
end Go.Proofs.Ytkllgmhfjibajaa
