/- How the arguments of this seat's laws read: arrays of four, from the reading to the values. Conditions: none. -/
import Derived.Test.YtgbjhkgbjnobcaaFrame
import Derived.Test.YtgbjhkgbjnobcaaClassWalk
import Derived.Deep.Slices
namespace Go.Proofs.Ytgbjhkgbjnobcaa
open Go.ChangeShapes Go.WideShapes Go.RowKit
section
variable {H : Type} {enc : TypeId × Value → H} {P : Program} {w : World} {base : Nat} {spare : Nat → Bool} {held : Bool}

/-- An array of n cells, each of which reads: cell by cell. -/
theorem array_cells {n e : TypeId} {t : TypeId} {fuel : Nat} {cs : List Value} {x : DataW H × List MemPlace} (ht : P.underlying t = some (.array n e)) (hc : P.cellsOf t = n) (he : P.cellsOf e = 1)
    (h : DataW.trod enc P w base spare held fuel t cs = some x) :
    cs.length = n ∧ ∀ i (hi : i < cs.length), ∃ m y, DataW.trod enc P w base spare held m e [cs[i]] = some y := by
  obtain ⟨xs, m, _, _, hl, hx, hat⟩ := DataW.trod_array ht h
  rw [hc] at hl
  refine ⟨hl, fun i hi => ?_⟩
  have h1 := hat i (by omega)
  rw [he, Nat.mul_one, List.drop_eq_getElem_cons hi] at h1
  have h2 : xs[i]? = some (xs[i]'(by omega)) := List.getElem?_eq_getElem (by omega)
  exact ⟨m, _, h1.trans h2⟩

theorem list4 {α : Type} {l : List α} (h : l.length = 4) : ∃ a b c d, l = [a, b, c, d] := by
  match l, h with
  | [a, b, c, d], _ => exact ⟨a, b, c, d, rfl⟩
/-- An array of four integers, as a value. -/
theorem array4_ints {e : TypeId} {t : TypeId} {fuel : Nat} {cs : List Value} {x : DataW H × List MemPlace} (ht : P.underlying t = some (.array 4 e)) (hc : P.cellsOf t = 4) (he : P.cellsOf e = 1)
    (hi : P.underlying e = some (.int .i64)) (h : DataW.trod enc P w base spare held fuel t cs = some x) : ∃ f : Nat → Int, cs.toArray = c4 f := by
  obtain ⟨hl, hat⟩ := array_cells ht hc he h
  have hg : ∀ i (hi : i < cs.length), ∃ n : Int, cs[i] = .int .i64 n := fun i hi' => by
    obtain ⟨m, y, hy⟩ := hat i hi'
    obtain ⟨n, hn, _⟩ := DataW.trod_int hi hy
    exact ⟨n, by simpa using hn⟩
  obtain ⟨a, b, c, d, rfl⟩ := list4 hl
  obtain ⟨n0, h0⟩ := hg 0 (by simp)
  obtain ⟨n1, h1⟩ := hg 1 (by simp)
  obtain ⟨n2, h2⟩ := hg 2 (by simp)
  obtain ⟨n3, h3⟩ := hg 3 (by simp)
  simp at h0 h1 h2 h3
  subst h0 h1 h2 h3
  exact ⟨fun i => if i = 0 then n0 else if i = 1 then n1 else if i = 2 then n2 else n3, rfl⟩

/-- An array of four bools, as a value. -/
theorem array4_bools {e : TypeId} {t : TypeId} {fuel : Nat} {cs : List Value} {x : DataW H × List MemPlace} (ht : P.underlying t = some (.array 4 e)) (hc : P.cellsOf t = 4) (he : P.cellsOf e = 1)
    (hi : P.underlying e = some .bool) (h : DataW.trod enc P w base spare held fuel t cs = some x) : ∃ f : Nat → Bool, cs.toArray = #[.bool (f 0), .bool (f 1), .bool (f 2), .bool (f 3)] := by
  obtain ⟨hl, hat⟩ := array_cells ht hc he h
  have hg : ∀ i (hi : i < cs.length), ∃ n : Bool, cs[i] = .bool n := fun i hi' => by
    obtain ⟨m, y, hy⟩ := hat i hi'
    obtain ⟨n, hn, _⟩ := DataW.trod_bool hi hy
    exact ⟨n, by simpa using hn⟩
  obtain ⟨a, b, c, d, rfl⟩ := list4 hl
  obtain ⟨n0, h0⟩ := hg 0 (by simp)
  obtain ⟨n1, h1⟩ := hg 1 (by simp)
  obtain ⟨n2, h2⟩ := hg 2 (by simp)
  obtain ⟨n3, h3⟩ := hg 3 (by simp)
  simp at h0 h1 h2 h3
  subst h0 h1 h2 h3
  exact ⟨fun i => if i = 0 then n0 else if i = 1 then n1 else if i = 2 then n2 else n3, rfl⟩

/-- A slice that came in, element by element: the address (where there is an element), each element's cells and its reading. -/
theorem open_rows {t e : TypeId} {size fuel : Nat} {cs : List Value} {x : DataW H × List MemPlace} (ht : P.underlying t = some (.slice e)) (hc : P.cellsOf e = size) (hs : 0 < size) (h : DataW.trod enc P w base spare held fuel t cs = some x) :
    ∃ (A : Option Addr) (n cap : Nat), cs = [.slice A n cap] ∧ n ≤ cap ∧ cap ≤ maxLen ∧ (A = none → n = 0 ∧ cap = 0) ∧ (∃ D spareD, x.1 = .nil ∧ n = 0 ∨ x.1 = .slice ((List.range n).map D) spareD) ∧
      (0 < n → ∃ b o, A = some ⟨b, o, none⟩ ∧ b < w.heap.size ∧ ∀ i, i < n → ∃ cs' m y, cs'.length = size ∧ (∀ j, j < size → w.cell? ⟨b, o + i * size + j, none⟩ = cs'[j]?) ∧ DataW.trod enc P w base spare held m e cs' = some y) := by
  rcases Go.Deep.open_slice ht h with ⟨rfl, hx⟩ | ⟨a, len, cap, m, n, D, Pl, rfl, hb, hl, hm, hmm, hx, hi⟩
  · exact ⟨none, 0, 0, rfl, Nat.le_refl _, Nat.zero_le _, fun _ => ⟨rfl, rfl⟩, ⟨fun _ => .nil, [], .inl ⟨by rw [hx], rfl⟩⟩, fun h => absurd h (by omega)⟩
  · refine ⟨some a, len, cap, rfl, hl, hm, (fun h => by cases h), ⟨D, _, .inr (by rw [hx])⟩, fun h0 => ?_⟩
    have hle : len ≤ m := by rw [hmm]; split <;> omega
    obtain ⟨cs0, hc0, _⟩ := hi 0 (by omega)
    rw [hc] at hc0
    obtain ⟨_, hl0, hat0⟩ := World.cells?_some hc0
    have hcell0 := hat0 0 hs
    have hsome : cs0[0]? = some (cs0[0]'(by omega)) := List.getElem?_eq_getElem (by omega)
    rw [hsome] at hcell0
    obtain ⟨b, o, spot⟩ := a
    have hspot : spot = none := by simpa [Addr.add] using World.cell?_spot hcell0
    subst hspot
    have hlt : b < w.heap.size := by
      have := World.block_lt_of_cell? w _ hcell0
      simpa [Addr.add] using this
    refine ⟨b, o, rfl, hlt, fun i hin => ?_⟩
    obtain ⟨cs', hcs, htr⟩ := hi i (by omega)
    rw [hc] at hcs
    obtain ⟨_, hlen, hat⟩ := World.cells?_some hcs
    refine ⟨cs', n, _, hlen, fun j hj => ?_, htr⟩
    have := hat j hj
    rw [Go.Deep.add_add, Go.WideShapes.add_plain] at this
    rw [← this, Nat.add_assoc]

theorem okWide_array {r : Reach} {b t : TypeId} {n e : Nat} {v : Value} (ht : P.underlying t = some (.array n e)) (h : Value.okWide P w r b t v) : ∃ cs, v = .agg cs ∧ cs.size = P.cellsOf t := by
  simp only [Value.okWide, ht] at h
  obtain ⟨cs, h1, h2, _⟩ := h
  exact ⟨cs, h1, h2⟩
end

section
variable {H : Type} {enc : TypeId × Value → H} {W : World} {base : Nat}
/-- The counts of the classes, handed in. -/
theorem open_classes {v : Value} {d : DataW H} {p : List MemPlace} (hv : Value.okWide Try.prog W .any base 24 v) (h : DataW.Trod enc Try.prog W 0 (fun _ => true) true 24 v d p) : ∃ c : Nat → Int, v = .agg (c4 c) := by
  obtain ⟨cs, rfl, _⟩ := okWide_struct Try.underlying24 hv
  obtain ⟨fuel, hf⟩ := h
  obtain ⟨y0, n, _, hl, h0⟩ := trod_struct1 Try.underlying24 hf
  have hc : Try.prog.cellsOf 24 = 4 := by kernel_rfl
  have hc2 : Try.prog.cellsOf 22 = 4 := by kernel_rfl
  have hcs : cs.toList.length = 4 := hl.trans hc
  rw [List.drop_zero, hc2, List.take_of_length_le (by simp only [Value.cells]; omega)] at h0
  obtain ⟨f, hf⟩ := array4_ints Try.underlying22 hc2 (by kernel_rfl) Try.underlying3 h0
  exact ⟨f, by rw [← hf]; simp [Value.cells]⟩
/-- The work, handed in. -/
theorem open_work {v : Value} {d : DataW H} {p : List MemPlace} (hv : Value.okWide Try.prog W .any base 25 v) (h : DataW.Trod enc Try.prog W 0 (fun _ => true) true 25 v d p) :
    ∃ f : Nat → Bool, v = .agg #[.bool (f 0), .bool (f 1), .bool (f 2), .bool (f 3)] := by
  obtain ⟨cs, rfl, _⟩ := okWide_array Try.underlying25 hv
  obtain ⟨fuel, hf⟩ := h
  obtain ⟨f, hf⟩ := array4_bools Try.underlying25 (by kernel_rfl) (by kernel_rfl) Try.underlying4 hf
  exact ⟨f, by rw [← hf]; simp [Value.cells]⟩
/-- A list of the classes' work, handed in. -/
theorem open_works {v : Value} {d : DataW H} {p : List MemPlace} (hv : Value.okWide Try.prog W .any base 29 v) (h : DataW.Trod enc Try.prog W 0 (fun _ => true) true 29 v d p) :
    ∃ (A : Option Addr) (n cap : Nat) (wk : Nat → Nat → Bool), v = .slice A n cap ∧ n ≤ maxLen ∧ (0 < n → ∃ b o, A = some ⟨b, o, none⟩ ∧ b < W.heap.size ∧
      ∀ i, i < n → W.cell? ⟨b, o + i * 4, none⟩ = some (.bool (wk i 0)) ∧ W.cell? ⟨b, o + i * 4 + 1, none⟩ = some (.bool (wk i 1)) ∧ W.cell? ⟨b, o + i * 4 + 2, none⟩ = some (.bool (wk i 2)) ∧ W.cell? ⟨b, o + i * 4 + 3, none⟩ = some (.bool (wk i 3))) := by
  obtain ⟨A, n, cap, rfl⟩ := okWide_slice Try.underlying29 hv
  obtain ⟨fuel, hf⟩ := h
  obtain ⟨A', n', cap', hcs, hn, hm, _, _, hat⟩ := open_rows Try.underlying29 (size := 4) (by kernel_rfl) (by omega) hf
  simp only [Value.cells, List.cons.injEq, Value.slice.injEq, and_true] at hcs
  obtain ⟨rfl, rfl, rfl⟩ := hcs
  rcases Nat.eq_zero_or_pos n with h0 | h0
  · exact ⟨A, n, cap, fun _ _ => false, rfl, by omega, fun h => absurd h (by omega)⟩
  · obtain ⟨b, o, hA, hb, hrow⟩ := hat h0
    have hch : ∀ i, i < n → ∃ f : Nat → Bool, W.cell? ⟨b, o + i * 4, none⟩ = some (.bool (f 0)) ∧ W.cell? ⟨b, o + i * 4 + 1, none⟩ = some (.bool (f 1)) ∧ W.cell? ⟨b, o + i * 4 + 2, none⟩ = some (.bool (f 2)) ∧ W.cell? ⟨b, o + i * 4 + 3, none⟩ = some (.bool (f 3)) := fun i hi => by
      obtain ⟨cs', m, y, hl, hc, ht⟩ := hrow i hi
      obtain ⟨f, hf⟩ := array4_bools Try.underlying25 (by kernel_rfl) (by kernel_rfl) Try.underlying4 ht
      have hcs : cs' = [.bool (f 0), .bool (f 1), .bool (f 2), .bool (f 3)] := by
        have := congrArg Array.toList hf
        simpa using this
      subst hcs
      exact ⟨f, by simpa using hc 0 (by omega), by simpa using hc 1 (by omega), by simpa using hc 2 (by omega), by simpa using hc 3 (by omega)⟩
    obtain ⟨F, hF⟩ := Go.Deep.choose_lt hch
    exact ⟨A, n, cap, F, rfl, by omega, fun _ => ⟨b, o, hA, hb, hF⟩⟩
/-- A list of integers, handed in. -/
theorem open_picks {v : Value} {d : DataW H} {p : List MemPlace} (hv : Value.okWide Try.prog W .any base 30 v) (h : DataW.Trod enc Try.prog W 0 (fun _ => true) true 30 v d p) :
    ∃ (A : Option Addr) (n cap : Nat) (pk : Nat → Int), v = .slice A n cap ∧ n ≤ maxLen ∧ (0 < n → ∃ b o, A = some ⟨b, o, none⟩ ∧ b < W.heap.size ∧ ∀ i, i < n → W.cell? ⟨b, o + i, none⟩ = some (.int .i64 (pk i))) := by
  obtain ⟨A, n, cap, rfl⟩ := okWide_slice Try.underlying30 hv
  obtain ⟨fuel, hf⟩ := h
  obtain ⟨A', n', cap', hcs, hn, hm, _, _, hat⟩ := open_rows Try.underlying30 (size := 1) (by kernel_rfl) (by omega) hf
  simp only [Value.cells, List.cons.injEq, Value.slice.injEq, and_true] at hcs
  obtain ⟨rfl, rfl, rfl⟩ := hcs
  rcases Nat.eq_zero_or_pos n with h0 | h0
  · exact ⟨A, n, cap, fun _ => 0, rfl, by omega, fun h => absurd h (by omega)⟩
  · obtain ⟨b, o, hA, hb, hrow⟩ := hat h0
    have hch : ∀ i, i < n → ∃ z : Int, W.cell? ⟨b, o + i, none⟩ = some (.int .i64 z) := fun i hi => by
      obtain ⟨cs', m, y, hl, hc, ht⟩ := hrow i hi
      obtain ⟨z, hz, _⟩ := DataW.trod_int Try.underlying3 ht
      subst hz
      exact ⟨z, by simpa using hc 0 (by omega)⟩
    obtain ⟨F, hF⟩ := Go.Deep.choose_lt hch
    exact ⟨A, n, cap, F, rfl, by omega, fun _ => ⟨b, o, hA, hb, hF⟩⟩
end
end Go.Proofs.Ytgbjhkgbjnobcaa
