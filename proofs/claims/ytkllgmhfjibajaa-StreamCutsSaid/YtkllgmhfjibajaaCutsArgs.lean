/- How the arguments of 'StreamCuts' read, and its walk for whatever is handed in. Conditions: none. -/
import Derived.Test.YtkllgmhfjibajaaCutsLaw
import Derived.Test.YtkllgmhfjibajaaFrame
import Derived.Deep.Slices
import Derived.SizedLaws
namespace Go.Proofs.Ytkllgmhfjibajaa
open Go.ChangeShapes Go.WideShapes Go.RowKit
section
variable {H : Type} {enc : TypeId × Value → H} {P : Program} {w : World} {base : Nat} {spare : Nat → Bool} {held : Bool}
/-- A slice that came in, element by element: the address (where there is an element), each element's cells and its reading. -/
theorem open_rows {t e : TypeId} {size fuel : Nat} {cs : List Value} {x : DataW H × List MemPlace} (ht : P.underlying t = some (.slice e)) (hc : P.cellsOf e = size) (hs : 0 < size) (h : DataW.trod enc P w base spare held fuel t cs = some x) :
    ∃ (A : Option Addr) (n cap : Nat), cs = [.slice A n cap] ∧ n ≤ cap ∧ cap ≤ maxLen ∧ (A = none → n = 0 ∧ cap = 0) ∧ (∃ D spareD, x.1 = .nil ∧ n = 0 ∨ x.1 = .slice ((List.range n).map D) spareD) ∧
      (0 < n → ∃ b o, A = some ⟨b, o, none⟩ ∧ b < w.heap.size ∧ ∀ i, i < n → ∃ cs' m y, cs'.length = size ∧ (∀ j, j < size → w.cell? ⟨b, o + i * size + j, none⟩ = cs'[j]?) ∧ DataW.trod enc P w base spare held m e cs' = some y) := by
  rcases Go.Deep.open_slice ht h with ⟨rfl, hx⟩ | ⟨a, len, cap, m, n, D, Pl, rfl, hb, hl, hm, hmm, hx, hi⟩
  · exact ⟨none, 0, 0, rfl, Nat.le_refl _, Nat.zero_le _, fun _ => ⟨rfl, rfl⟩, ⟨fun _ => .nil, [], .inl ⟨by rw [hx], rfl⟩⟩, fun h => absurd h (by omega)⟩
  · refine ⟨some a, len, cap, rfl, hl, hm, (fun h => by cases h), ⟨D, _, .inr (by rw [hx])⟩, fun h0 => ?_⟩
    have hle : len ≤ m := by rw [hmm]; split <;> omega
    obtain ⟨cs0, hc0, _⟩ := hi 0 (by omega)
    rw [hc] at hc0
    obtain ⟨_, hl0, hat0⟩ := World.cells?_some hc0
    have hcell0 := hat0 0 hs
    have hsome : cs0[0]? = some (cs0[0]'(by omega)) := List.getElem?_eq_getElem (by omega)
    rw [hsome] at hcell0
    obtain ⟨b, o, spot⟩ := a
    have hspot : spot = none := by simpa [Addr.add] using World.cell?_spot hcell0
    subst hspot
    have hlt : b < w.heap.size := by
      have := World.block_lt_of_cell? w _ hcell0
      simpa [Addr.add] using this
    refine ⟨b, o, rfl, hlt, fun i hin => ?_⟩
    obtain ⟨cs', hcs, htr⟩ := hi i (by omega)
    rw [hc] at hcs
    obtain ⟨_, hlen, hat⟩ := World.cells?_some hcs
    refine ⟨cs', n, _, hlen, fun j hj => ?_, htr⟩
    have := hat j hj
    rw [Go.Deep.add_add, Go.WideShapes.add_plain] at this
    rw [← this, Nat.add_assoc]

end
theorem bytes3 : Try.prog.bytesOf 3 = 8 := by kernel_rfl
theorem cells3 : Try.prog.cellsOf 3 = 1 := by kernel_rfl
theorem wf_i64 {n : Int} (h : (Lit.int .i64 n).wf = true) : -9223372036854775808 ≤ n ∧ n ≤ 9223372036854775807 := by
  simp only [Lit.wf, Bool.and_eq_true, decide_eq_true_eq] at h
  have e1 : IntKind.i64.max = 9223372036854775807 := rfl
  have e2 : IntKind.i64.min = -9223372036854775808 := rfl
  rw [e1, e2] at h
  exact h
section
variable {H : Type} {enc : TypeId × Value → H} {w : World} {base : Nat} {spare : Nat → Bool} {held : Bool}
/-- A list of integers. -/
theorem open_ints {fuel : Nat} {cs : List Value} {x : DataW H × List MemPlace} (h : DataW.trod enc Try.prog w base spare held fuel 49 cs = some x) (hw : ∀ n ∈ x.1.weights Try.prog 49, n ≤ reachBytes) :
    ∃ A xs c, cs = [.slice A (List.length xs) c] ∧ xs.length ≤ c ∧ c ≤ maxLen ∧ IntsAt w w.heap.size A xs ∧ xs.length * 8 ≤ 140737488351232 ∧ (∀ x ∈ xs, -9223372036854775808 ≤ x ∧ x ≤ 9223372036854775807) := by
  obtain ⟨A, n, cap, rfl, hn, hm, _, ⟨D, sp, hD⟩, hat⟩ := open_rows Try.underlying49 cells3 (by omega) h
  rcases Nat.eq_zero_or_pos n with h0 | h0
  · subst h0
    exact ⟨A, [], cap, rfl, Nat.zero_le _, hm, fun h => absurd h (by simp), by simp, fun x hx => by cases hx⟩
  · obtain ⟨b, o, hA, hb, hrow⟩ := hat h0
    have hch : ∀ i, i < n → ∃ z : Int, w.cell? ⟨b, o + i, none⟩ = some (.int .i64 z) ∧ -9223372036854775808 ≤ z ∧ z ≤ 9223372036854775807 := fun i hi => by
      obtain ⟨cs', m, y, hl, hc, ht⟩ := hrow i hi
      obtain ⟨z, hz, _, hwf⟩ := DataW.trod_int Try.underlying3 ht
      subst hz
      exact ⟨z, by simpa using hc 0 (by omega), wf_i64 hwf⟩
    obtain ⟨F, hF⟩ := Go.Deep.choose_lt hch
    refine ⟨A, (List.range n).map F, cap, by simp, by simpa using hn, hm, fun _ => ⟨b, o, hA, hb, fun i z hz => ?_⟩, ?_, fun x hx => ?_⟩
    · have hi : i < n := by have := (List.getElem?_eq_some_iff.1 hz).1; simpa using this
      have e : F i = z := by simpa [List.getElem?_map, List.getElem?_range hi] using hz
      rw [← e]
      exact (hF i hi).1
    · rcases hD with ⟨_, e⟩ | hD
      · omega
      · have := hw ((((List.range n).map D).length + sp.length) * Try.prog.bytesOf 3) (by rw [hD]; simp [DataW.weights, Try.underlying49])
        rw [bytes3] at this
        simp only [reachBytes, List.length_map, List.length_range] at this ⊢
        omega
    · obtain ⟨i, hi, rfl⟩ := List.mem_map.1 hx
      exact (hF i (List.mem_range.1 hi)).2
end
set_option maxRecDepth 100000 in
theorem cuts_walk {H : Type} (enc : TypeId × Value → H) (W : World) (base : Nat) (args : Array Value) (ds gs : List (DataW H)) (before : List MemPlace)
    (hval : ∀ (j : Nat) t v, Try.f6.params[j]? = some t → args[j]? = some v → Value.okWide Try.prog W .any base t v)
    (hW : DataW.Whole enc Try.prog Try.f6.params.toList Rows.streamCutsSpec.vars false W args.toList ds gs before)
    (hsz : (DataW.weightsEach Try.prog (Try.f6.params.toList ++ Rows.streamCutsSpec.plain.varTypes Try.prog) (ds ++ gs)).all (· ≤ reachBytes) = true) :
    Calls Try.prog 6 args W fun e W' => e = .returned (.bool true) ∧ Below W.heap.size W W' := by
  obtain ⟨p, q, hA0, hV, rfl, hfz, hnd⟩ := hW
  have hA : DataW.TrodAll enc Try.prog W 0 (fun _ => true) true Try.f6.params.toList args.toList ds p := hA0
  rw [Try.params6] at hA hval hsz
  obtain ⟨v0, vs0, d0, ds0, p0, q0, hargs, rfl, rfl, h0, r0⟩ := trodAll_cons hA
  obtain ⟨v1, vs1, d1, ds1, p1, q1, rfl, rfl, rfl, h1, r1⟩ := trodAll_cons r0
  obtain ⟨rfl, rfl, rfl⟩ := trodAll_nil r1
  obtain rfl : args = #[v0, v1] := by cases args; simp_all
  have hw1 : ∀ n ∈ d1.weights Try.prog 49, n ≤ reachBytes := fun n hn => by
    have hm : n ∈ DataW.weightsEach Try.prog ([3, 49] ++ Rows.streamCutsSpec.plain.varTypes Try.prog) ([d0, d1] ++ gs) := DataW.weights_mem_each (ts := [3, 49] ++ Rows.streamCutsSpec.plain.varTypes Try.prog) (ds := [d0, d1] ++ gs) (j := 1) rfl rfl n hn
    exact of_decide_eq_true (List.all_eq_true.1 hsz n hm)
  obtain ⟨n, rfl⟩ := okWide_int Try.underlying3 (hval 0 3 v0 rfl rfl)
  obtain ⟨f0, hf0⟩ := h0
  obtain ⟨z, hz, _, hwf⟩ := DataW.trod_int Try.underlying3 hf0
  simp [Value.cells] at hz
  subst hz
  obtain ⟨f1, hf1⟩ := h1
  obtain ⟨A, xs, c, e, k1, k2, k3, k4, k5⟩ := open_ints hf1 hw1
  obtain ⟨A', n', c', rfl⟩ := okWide_slice Try.underlying49 (hval 1 49 v1 rfl rfl)
  simp only [Value.cells, List.cons.injEq, and_true] at e
  rw [e]
  exact law_any n A c xs W W.heap.size (Nat.le_refl _) k3 k5 (wf_i64 hwf).2 k4
end Go.Proofs.Ytkllgmhfjibajaa
