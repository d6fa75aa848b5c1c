/- How a list of tries reads; the walk of 'DedupeApart' for whatever is handed in. Conditions: none beyond what a list bears. -/
import Derived.Test.YtmcahimapoddfaaApart
import Derived.Test.YtmcahimapoddfaaArgs
namespace Go.Proofs.Ytmcahimapoddfaa
open Go.ChangeShapes Go.WideShapes Go.RowKit
theorem cells39 : Try.prog.cellsOf 39 = 2 := by kernel_rfl
theorem list2 {α : Type} {l : List α} (h : l.length = 2) : ∃ a b, l = [a, b] := by
  match l, h with
  | [a, b], _ => exact ⟨a, b, rfl⟩
instance : Inhabited Ty := ⟨⟨0, 0⟩⟩
section
variable {H : Type} {enc : TypeId × Value → H} {w : World} {base : Nat} {spare : Nat → Bool} {held : Bool}
/-- A try: two numbers, each an int64. -/
theorem open_try {fuel : Nat} {cs : List Value} {x : DataW H × List MemPlace} (h : DataW.trod enc Try.prog w base spare held fuel 39 cs = some x) : ∃ p : Ty, cs = [.int .i64 p.pid, .int .i64 p.seq] := by
  obtain ⟨y0, y1, n, _, hl, h0, h1⟩ := trod_struct2 Try.underlying39 h
  rw [cells39] at hl
  obtain ⟨a, b, rfl⟩ := list2 hl
  simp only [cells2, List.drop_zero, List.drop_succ_cons, List.take_succ_cons, List.take_zero] at h0 h1
  obtain ⟨i, rfl, _⟩ := int_of h0
  obtain ⟨j, rfl, _⟩ := int_of h1
  exact ⟨⟨i, j⟩, rfl⟩
set_option maxRecDepth 100000 in
/-- A list of tries, handed in. -/
theorem open_tries {W : World} {v : Value} {d : DataW H} {p : List MemPlace} (hv : Value.okWide Try.prog W .any base 59 v) (h : DataW.Trod enc Try.prog W 0 (fun _ => true) true 59 v d p) : ∃ ts, TS W v ts := by
  obtain ⟨A, n, cap, rfl⟩ := okWide_slice Try.underlying59 hv
  obtain ⟨fuel, hf⟩ := h
  obtain ⟨A', n', cap', hcs, hn, hm, hnil, _, hat⟩ := open_rows Try.underlying59 cells39 (by omega) hf
  simp only [Value.cells, List.cons.injEq, Value.slice.injEq, and_true] at hcs
  obtain ⟨rfl, rfl, rfl⟩ := hcs
  rcases Nat.eq_zero_or_pos n with h0 | h0
  · subst h0
    exact ⟨[], A, cap, rfl, Nat.zero_le _, hm, hnil, fun h => absurd h (by decide)⟩
  · obtain ⟨b, o, hA, hb, hrow⟩ := hat h0
    have hch : ∀ i, i < n → ∃ q : Ty, W.cell? ⟨b, o + i * 2, none⟩ = some (.int .i64 q.pid) ∧ W.cell? ⟨b, o + i * 2 + 1, none⟩ = some (.int .i64 q.seq) := fun i hi => by
      obtain ⟨cs', m, y, hl, hc, ht⟩ := hrow i hi
      obtain ⟨q, rfl⟩ := open_try ht
      exact ⟨q, hc 0 (by omega), hc 1 (by omega)⟩
    obtain ⟨F, hF⟩ := Go.Deep.choose_lt hch
    have hlen : ((List.range n).map F).length = n := by simp
    refine ⟨(List.range n).map F, A, cap, by rw [hlen], by rw [hlen]; exact hn, hm, fun e => by rw [hlen]; exact hnil e, fun _ => ⟨b, o, hA, hb, fun i z hz => ?_⟩⟩
    have hi : i < n := by have := (List.getElem?_eq_some_iff.1 hz).1; simpa using this
    have e : F i = z := by simpa [List.getElem?_map, List.getElem?_range hi] using hz
    rw [← e]
    exact hF i hi
end
theorem weights_of {P : Program} {H : Type} {ts : List TypeId} {ds : List (DataW H)} {t : TypeId} {d : DataW H} (h : (DataW.weightsEach P (t :: ts) (d :: ds)).all (· ≤ reachBytes) = true) : (∀ n ∈ d.weights P t, n ≤ reachBytes) := by
  intro n hn
  have := List.all_eq_true.1 h n (by simp only [DataW.weightsEach, List.mem_append]; exact .inl hn)
  exact of_decide_eq_true this

set_option maxRecDepth 100000 in
theorem apart_walk {H : Type} (enc : TypeId × Value → H) (W : World) (base : Nat) (args : Array Value) (ds gs : List (DataW H)) (before : List MemPlace)
    (hval : ∀ (j : Nat) t v, Try.f7.params[j]? = some t → args[j]? = some v → Value.okWide Try.prog W .any base t v)
    (hW : DataW.Whole enc Try.prog Try.f7.params.toList Rows.dedupeApartSpec.vars false W args.toList ds gs before)
    (hsz : (DataW.weightsEach Try.prog (Try.f7.params.toList ++ Rows.dedupeApartSpec.plain.varTypes Try.prog) (ds ++ gs)).all (· ≤ reachBytes) = true) :
    Calls Try.prog 7 args W fun e W' => e = .returned (.bool true) ∧ Below W.heap.size W W' := by
  obtain ⟨p, q, hA0, hV, rfl, hfz, hnd⟩ := hW
  have hA : DataW.TrodAll enc Try.prog W 0 (fun _ => true) true Try.f7.params.toList args.toList ds p := hA0
  rw [Try.params7] at hA hval hsz
  obtain ⟨v0, vs0, d0, ds0, p0, q0, hargs, rfl, rfl, h0, r0⟩ := trodAll_cons hA
  obtain ⟨v1, vs1, d1, ds1, p1, q1, rfl, rfl, rfl, h1, r1⟩ := trodAll_cons r0
  obtain ⟨v2, vs2, d2, ds2, p2, q2, rfl, rfl, rfl, h2, r2⟩ := trodAll_cons r1
  obtain ⟨rfl, rfl, rfl⟩ := trodAll_nil r2
  obtain rfl : args = #[v0, v1, v2] := by cases args; simp_all
  have hw := weights_of hsz
  obtain ⟨ps, k0, _, l0⟩ := open_prods (hval 0 22 v0 rfl rfl) h0
  obtain ⟨xs, k1⟩ := open_tries (hval 1 59 v1 rfl rfl) h1
  obtain ⟨ys, k2⟩ := open_tries (hval 2 59 v2 rfl rfl) h2
  exact apart_any v0 v1 v2 ps xs ys W k0 k1 k2 (by have := l0 hw; omega)
end Go.Proofs.Ytmcahimapoddfaa
