/- The walk of 'DedupeParts' for whatever is handed in, of bulk at most 1048576. Conditions: that bound. -/
import Derived.Test.YtmcahimapoddfaaParts
import Derived.Test.YtmcahimapoddfaaArgs
import Derived.Test.YtmcahimapoddfaaBulk
namespace Go.Proofs.Ytmcahimapoddfaa
open Go.ChangeShapes Go.WideShapes Go.RowKit

theorem lenD_le {H : Type} (d : DataW H) : lenD d ≤ Rows.uptoBulk d := by
  cases d with
  | slice e s => have := bulks.slice_le e s; show e.length ≤ _; omega
  | lit l => exact Nat.zero_le _
  | nil => exact Nat.zero_le _
  | ptr d => exact Nat.zero_le _
  | agg parts => exact Nat.zero_le _
  | iface t d => exact Nat.zero_le _
  | map entries => exact Nat.zero_le _
  | held h => exact Nat.zero_le _

set_option maxRecDepth 100000 in
theorem parts_walk {H : Type} (enc : TypeId × Value → H) (W : World) (base : Nat) (args : Array Value) (ds gs : List (DataW H)) (before : List MemPlace)
    (hval : ∀ (j : Nat) t v, Try.f4.params[j]? = some t → args[j]? = some v → Value.okWide Try.prog W .any base t v)
    (hW : DataW.Whole enc Try.prog Try.f4.params.toList Rows.dedupePartsSpec.vars false W args.toList ds gs before)
    (_ : (DataW.weightsEach Try.prog (Try.f4.params.toList ++ Rows.dedupePartsSpec.plain.varTypes Try.prog) (ds ++ gs)).all (· ≤ reachBytes) = true)
    (hk : Rows.uptoSmall H (ds ++ gs) = true) :
    Calls Try.prog 4 args W fun e W' => e = .returned (.bool true) ∧ Below W.heap.size W W' := by
  obtain ⟨p, q, hA0, hV, rfl, hfz, hnd⟩ := hW
  have hA : DataW.TrodAll enc Try.prog W 0 (fun _ => true) true Try.f4.params.toList args.toList ds p := hA0
  rw [Try.params4] at hA hval
  obtain ⟨v0, vs0, d0, ds0, p0, q0, hargs, rfl, rfl, h0, r0⟩ := trodAll_cons hA
  obtain ⟨v1, vs1, d1, ds1, p1, q1, rfl, rfl, rfl, h1, r1⟩ := trodAll_cons r0
  obtain ⟨v2, vs2, d2, ds2, p2, q2, rfl, rfl, rfl, h2, r2⟩ := trodAll_cons r1
  obtain ⟨v3, vs3, d3, ds3, p3, q3, rfl, rfl, rfl, h3, r3⟩ := trodAll_cons r2
  obtain ⟨rfl, rfl, rfl⟩ := trodAll_nil r3
  obtain rfl : args = #[v0, v1, v2, v3] := by cases args; simp_all
  have hb : Rows.uptoBulkAll ([d0, d1, d2, d3] ++ gs) ≤ 1048576 := of_decide_eq_true hk
  simp only [List.cons_append, Rows.uptoBulkAll] at hb
  obtain ⟨ps, k0, _, _⟩ := open_prods (hval 0 22 v0 rfl rfl) h0
  obtain ⟨a, k1, l1, _⟩ := open_recs (hval 1 23 v1 rfl rfl) h1
  obtain ⟨b, k2, l2, _⟩ := open_recs (hval 2 23 v2 rfl rfl) h2
  obtain ⟨bs, k3⟩ := open_bools (hval 3 34 v3 rfl rfl) h3
  have m1 := lenD_le d1
  have m2 := lenD_le d2
  exact parts_any v0 v1 v2 v3 ps a b bs W k0 k1 k2 k3 (by omega)
end Go.Proofs.Ytmcahimapoddfaa
