/- The walk of 'StreamSplits' for whatever is handed in, of bulk at most 1048576. Conditions: that bound. -/
import Derived.Test.YtkllgmhfjibajaaSplitsLaw
import Derived.Test.YtkllgmhfjibajaaArgs
namespace Go.Proofs.Ytkllgmhfjibajaa
open Go.ChangeShapes Go.WideShapes Go.RowKit Ar
set_option maxRecDepth 100000 in
theorem splits_walk {H : Type} (enc : TypeId × Value → H) (W : World) (base : Nat) (args : Array Value) (ds gs : List (DataW H)) (before : List MemPlace)
    (hval : ∀ (j : Nat) t v, Try.f3.params[j]? = some t → args[j]? = some v → Value.okWide Try.prog W .any base t v)
    (hW : DataW.Whole enc Try.prog Try.f3.params.toList Rows.streamSplitsSpec.vars false W args.toList ds gs before)
    (_hsz : (DataW.weightsEach Try.prog (Try.f3.params.toList ++ Rows.streamSplitsSpec.plain.varTypes Try.prog) (ds ++ gs)).all (· ≤ reachBytes) = true)
    (hk : Rows.uptoSmall H (ds ++ gs) = true) :
    Calls Try.prog 3 args W fun e W' => e = .returned (.bool true) ∧ Below W.heap.size W W' := by
  obtain ⟨p, q, hA0, hV, rfl, hfz, hnd⟩ := hW
  have hA : DataW.TrodAll enc Try.prog W 0 (fun _ => true) true Try.f3.params.toList args.toList ds p := hA0
  rw [Try.params3] at hA hval
  obtain ⟨v0, vs0, d0, ds0, p0, q0, hargs, rfl, rfl, h0, r0⟩ := trodAll_cons hA
  obtain ⟨v1, vs1, d1, ds1, p1, q1, rfl, rfl, rfl, h1, r1⟩ := trodAll_cons r0
  obtain ⟨rfl, rfl, rfl⟩ := trodAll_nil r1
  obtain rfl : args = #[v0, v1] := by cases args; simp_all
  have hb : Rows.uptoBulkAll ([d0, d1] ++ gs) ≤ 1048576 := of_decide_eq_true hk
  simp only [List.cons_append, Rows.uptoBulkAll] at hb
  have m0 := lenD_le d0
  obtain ⟨f0, hf0⟩ := h0
  obtain ⟨A0, xs0, c0, e0, a1, a2, a3, a4, a5, a6⟩ := open_bytes hf0
  obtain ⟨A0', n0', c0', rfl⟩ := okWide_slice Try.underlying22 (hval 0 22 v0 rfl rfl)
  obtain ⟨n, rfl⟩ := okWide_int Try.underlying3 (hval 1 3 v1 rfl rfl)
  simp only [Value.cells, List.cons.injEq, and_true] at e0
  have hl : xs0.length ≤ 1048576 := by
    have a7 : xs0.length = lenD d0 := a6
    omega
  rw [e0]
  exact splits_any n A0 xs0 c0 W ⟨a1, a2⟩ a3 (Nat.le_trans hl (by decide)) a4 a5
end Go.Proofs.Ytkllgmhfjibajaa
