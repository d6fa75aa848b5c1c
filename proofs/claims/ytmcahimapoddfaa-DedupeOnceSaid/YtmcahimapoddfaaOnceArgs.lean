/- The walk of 'DedupeOnce' for whatever is handed in. Conditions: none beyond what a list bears. -/
import Derived.Test.YtmcahimapoddfaaOnceWalk
import Derived.Test.YtmcahimapoddfaaApartArgs
namespace Go.Proofs.Ytmcahimapoddfaa
open Go.ChangeShapes Go.WideShapes Go.RowKit
set_option maxRecDepth 100000 in
/-- A list of numbers, handed in. -/
theorem open_ints {H : Type} {enc : TypeId × Value → H} {base : Nat} {W : World} {v : Value} {d : DataW H} {p : List MemPlace} (hv : Value.okWide Try.prog W .any base 61 v) (h : DataW.Trod enc Try.prog W 0 (fun _ => true) true 61 v d p) : ∃ ts, IS W v ts := by
  obtain ⟨A, n, cap, rfl⟩ := okWide_slice Try.underlying61 hv
  obtain ⟨fuel, hf⟩ := h
  obtain ⟨A', n', cap', hcs, hn, hm, hnil, _, hat⟩ := open_rows Try.underlying61 cells2 (by omega) hf
  simp only [Value.cells, List.cons.injEq, Value.slice.injEq, and_true] at hcs
  obtain ⟨rfl, rfl, rfl⟩ := hcs
  rcases Nat.eq_zero_or_pos n with h0 | h0
  · subst h0
    exact ⟨[], A, cap, rfl, Nat.zero_le _, hm, fun h => absurd h (by decide)⟩
  · obtain ⟨b, o, hA, hb, hrow⟩ := hat h0
    have hch : ∀ i, i < n → ∃ x : Int, W.cell? ⟨b, o + i, none⟩ = some (.int .i64 x) := fun i hi => by
      obtain ⟨cs', m, y, hl, hc, ht⟩ := hrow i hi
      match cs', hl with
      | [a], _ =>
        obtain ⟨x, rfl, _⟩ := int_of ht
        have := hc 0 (by omega)
        rw [Nat.mul_one, Nat.add_zero] at this
        exact ⟨x, this⟩
    obtain ⟨F, hF⟩ := Go.Deep.choose_lt hch
    have hlen : ((List.range n).map F).length = n := by simp
    refine ⟨(List.range n).map F, A, cap, by rw [hlen], by rw [hlen]; exact hn, hm, fun _ => ⟨b, o, hA, hb, fun i z hz => ?_⟩⟩
    have hi : i < n := by have := (List.getElem?_eq_some_iff.1 hz).1; simpa using this
    have e : F i = z := by simpa [List.getElem?_map, List.getElem?_range hi] using hz
    rw [← e]
    exact hF i hi

set_option maxRecDepth 100000 in
theorem once_walk {H : Type} (enc : TypeId × Value → H) (W : World) (base : Nat) (args : Array Value) (ds gs : List (DataW H)) (before : List MemPlace)
    (hval : ∀ (j : Nat) t v, Try.f8.params[j]? = some t → args[j]? = some v → Value.okWide Try.prog W .any base t v)
    (hW : DataW.Whole enc Try.prog Try.f8.params.toList Rows.dedupeOnceSpec.vars false W args.toList ds gs before)
    (_ : (DataW.weightsEach Try.prog (Try.f8.params.toList ++ Rows.dedupeOnceSpec.plain.varTypes Try.prog) (ds ++ gs)).all (· ≤ reachBytes) = true) :
    Calls Try.prog 8 args W fun e W' => e = .returned (.bool true) ∧ Below W.heap.size W W' := by
  obtain ⟨p, q, hA0, hV, rfl, hfz, hnd⟩ := hW
  have hA : DataW.TrodAll enc Try.prog W 0 (fun _ => true) true Try.f8.params.toList args.toList ds p := hA0
  rw [Try.params8] at hA hval
  obtain ⟨v0, vs0, d0, ds0, p0, q0, hargs, rfl, rfl, h0, r0⟩ := trodAll_cons hA
  obtain ⟨v1, vs1, d1, ds1, p1, q1, rfl, rfl, rfl, h1, r1⟩ := trodAll_cons r0
  obtain ⟨rfl, rfl, rfl⟩ := trodAll_nil r1
  obtain rfl : args = #[v0, v1] := by cases args; simp_all
  obtain ⟨xs, k0⟩ := open_tries (hval 0 59 v0 rfl rfl) h0
  obtain ⟨ys, k1⟩ := open_ints (hval 1 61 v1 rfl rfl) h1
  exact once_any v0 v1 xs ys W k0 k1
end Go.Proofs.Ytmcahimapoddfaa
