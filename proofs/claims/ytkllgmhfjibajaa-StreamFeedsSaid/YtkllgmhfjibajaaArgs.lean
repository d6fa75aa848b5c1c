/- How arguments read: integers, bytes. Conditions: none. -/
import Derived.Test.YtkllgmhfjibajaaBytes
import Derived.Test.YtkllgmhfjibajaaFrame
import Derived.Test.YtkllgmhfjibajaaBulk
import Derived.Deep.Slices
import Derived.SizedLaws
namespace Go.Proofs.Ytkllgmhfjibajaa.Ar
open Go.ChangeShapes Go.WideShapes Go.RowKit
section
variable {H : Type} {enc : TypeId × Value → H} {P : Program} {w : World} {base : Nat} {spare : Nat → Bool} {held : Bool}
/-- A slice that came in, element by element: the address (where there is an element), each element's cells and its reading. -/
theorem open_rows {t e : TypeId} {size fuel : Nat} {cs : List Value} {x : DataW H × List MemPlace} (ht : P.underlying t = some (.slice e)) (hc : P.cellsOf e = size) (hs : 0 < size) (h : DataW.trod enc P w base spare held fuel t cs = some x) :
    ∃ (A : Option Addr) (n cap : Nat), cs = [.slice A n cap] ∧ n ≤ cap ∧ cap ≤ maxLen ∧ (A = none → n = 0 ∧ cap = 0) ∧ (∃ D spareD, x.1 = .nil ∧ n = 0 ∨ x.1 = .slice ((List.range n).map D) spareD) ∧
      (0 < n → ∃ b o, A = some ⟨b, o, none⟩ ∧ b < w.heap.size ∧ ∀ i, i < n → ∃ cs' m y, cs'.length = size ∧ (∀ j, j < size → w.cell? ⟨b, o + i * size + j, none⟩ = cs'[j]?) ∧ DataW.trod enc P w base spare held m e cs' = some y) := by
  rcases Go.Deep.open_slice ht h with ⟨rfl, hx⟩ | ⟨a, len, cap, m, n, D, Pl, rfl, hb, hl, hm, hmm, hx, hi⟩
  · exact ⟨none, 0, 0, rfl, Nat.le_refl _, Nat.zero_le _, fun _ => ⟨rfl, rfl⟩, ⟨fun _ => .nil, [], .inl ⟨by rw [hx], rfl⟩⟩, fun h => absurd h (by omega)⟩
  · refine ⟨some a, len, cap, rfl, hl, hm, (fun h => by cases h), ⟨D, _, .inr (by rw [hx])⟩, fun h0 => ?_⟩
    have hle : len ≤ m := by rw [hmm]; split <;> omega
    obtain ⟨cs0, hc0, _⟩ := hi 0 (by omega)
    rw [hc] at hc0
    obtain ⟨_, hl0, hat0⟩ := World.cells?_some hc0
    have hcell0 := hat0 0 hs
    have hsome : cs0[0]? = some (cs0[0]'(by omega)) := List.getElem?_eq_getElem (by omega)
    rw [hsome] at hcell0
    obtain ⟨b, o, spot⟩ := a
    have hspot : spot = none := by simpa [Addr.add] using World.cell?_spot hcell0
    subst hspot
    have hlt : b < w.heap.size := by
      have := World.block_lt_of_cell? w _ hcell0
      simpa [Addr.add] using this
    refine ⟨b, o, rfl, hlt, fun i hin => ?_⟩
    obtain ⟨cs', hcs, htr⟩ := hi i (by omega)
    rw [hc] at hcs
    obtain ⟨_, hlen, hat⟩ := World.cells?_some hcs
    refine ⟨cs', n, _, hlen, fun j hj => ?_, htr⟩
    have := hat j hj
    rw [Go.Deep.add_add, Go.WideShapes.add_plain] at this
    rw [← this, Nat.add_assoc]

end
theorem bytes3 : Try.prog.bytesOf 3 = 8 := by kernel_rfl
theorem cells3 : Try.prog.cellsOf 3 = 1 := by kernel_rfl
theorem wf_i64 {n : Int} (h : (Lit.int .i64 n).wf = true) : -9223372036854775808 ≤ n ∧ n ≤ 9223372036854775807 := by
  simp only [Lit.wf, Bool.and_eq_true, decide_eq_true_eq] at h
  have e1 : IntKind.i64.max = 9223372036854775807 := rfl
  have e2 : IntKind.i64.min = -9223372036854775808 := rfl
  rw [e1, e2] at h
  exact h
section
variable {H : Type} {enc : TypeId × Value → H} {w : World} {base : Nat} {spare : Nat → Bool} {held : Bool}
/-- A list of integers. -/
theorem open_ints {fuel : Nat} {cs : List Value} {x : DataW H × List MemPlace} (h : DataW.trod enc Try.prog w base spare held fuel 49 cs = some x) (hw : ∀ n ∈ x.1.weights Try.prog 49, n ≤ reachBytes) :
    ∃ A xs c, cs = [.slice A (List.length xs) c] ∧ xs.length ≤ c ∧ c ≤ maxLen ∧ IntsAt w w.heap.size A xs ∧ xs.length * 8 ≤ 140737488351232 ∧ (∀ x ∈ xs, -9223372036854775808 ≤ x ∧ x ≤ 9223372036854775807) := by
  obtain ⟨A, n, cap, rfl, hn, hm, _, ⟨D, sp, hD⟩, hat⟩ := open_rows Try.underlying49 cells3 (by omega) h
  rcases Nat.eq_zero_or_pos n with h0 | h0
  · subst h0
    exact ⟨A, [], cap, rfl, Nat.zero_le _, hm, fun h => absurd h (by simp), by simp, fun x hx => by cases hx⟩
  · obtain ⟨b, o, hA, hb, hrow⟩ := hat h0
    have hch : ∀ i, i < n → ∃ z : Int, w.cell? ⟨b, o + i, none⟩ = some (.int .i64 z) ∧ -9223372036854775808 ≤ z ∧ z ≤ 9223372036854775807 := fun i hi => by
      obtain ⟨cs', m, y, hl, hc, ht⟩ := hrow i hi
      obtain ⟨z, hz, _, hwf⟩ := DataW.trod_int Try.underlying3 ht
      subst hz
      exact ⟨z, by simpa using hc 0 (by omega), wf_i64 hwf⟩
    obtain ⟨F, hF⟩ := Go.Deep.choose_lt hch
    refine ⟨A, (List.range n).map F, cap, by simp, by simpa using hn, hm, fun _ => ⟨b, o, hA, hb, fun i z hz => ?_⟩, ?_, fun x hx => ?_⟩
    · have hi : i < n := by have := (List.getElem?_eq_some_iff.1 hz).1; simpa using this
      have e : F i = z := by simpa [List.getElem?_map, List.getElem?_range hi] using hz
      rw [← e]
      exact (hF i hi).1
    · rcases hD with ⟨_, e⟩ | hD
      · omega
      · have := hw ((((List.range n).map D).length + sp.length) * Try.prog.bytesOf 3) (by rw [hD]; simp [DataW.weights, Try.underlying49])
        rw [bytes3] at this
        simp only [reachBytes, List.length_map, List.length_range] at this ⊢
        omega
    · obtain ⟨i, hi, rfl⟩ := List.mem_map.1 hx
      exact (hF i (List.mem_range.1 hi)).2
end
theorem cells5 : Try.prog.cellsOf 5 = 1 := by kernel_rfl
theorem wf_u8 {n : Int} (h : (Lit.int .u8 n).wf = true) : 0 ≤ n ∧ n < 256 := by
  simp only [Lit.wf, Bool.and_eq_true, decide_eq_true_eq] at h
  have e1 : IntKind.u8.max = 255 := rfl
  have e2 : IntKind.u8.min = 0 := rfl
  rw [e1, e2] at h
  omega
/-- How long a list is, as it reads. -/
def lenD {H : Type} : DataW H → Nat
  | .slice e _ => e.length
  | _ => 0
theorem lenD_le {H : Type} (d : DataW H) : lenD d ≤ Rows.uptoBulk d := by
  cases d with
  | slice e s => have := bulks.slice_le e s; show e.length ≤ _; omega
  | lit l => exact Nat.zero_le _
  | nil => exact Nat.zero_le _
  | ptr d => exact Nat.zero_le _
  | agg parts => exact Nat.zero_le _
  | iface t d => exact Nat.zero_le _
  | map entries => exact Nat.zero_le _
  | held h => exact Nat.zero_le _
section
variable {H : Type} {enc : TypeId × Value → H} {w : World} {base : Nat} {spare : Nat → Bool} {held : Bool}
/-- Bytes. -/
theorem open_bytes {fuel : Nat} {cs : List Value} {x : DataW H × List MemPlace} (h : DataW.trod enc Try.prog w base spare held fuel 22 cs = some x) :
    ∃ A xs c, cs = [.slice A (List.length xs) c] ∧ xs.length ≤ c ∧ c ≤ maxLen ∧ (A = none → c = 0) ∧ BytesAt w A xs ∧ Byt xs ∧ xs.length = lenD x.1 := by
  obtain ⟨A, n, cap, rfl, hn, hm, hA0, ⟨D, sp, hD⟩, hat⟩ := open_rows Try.underlying22 cells5 (by omega) h
  rcases Nat.eq_zero_or_pos n with h0 | h0
  · subst h0
    refine ⟨A, [], cap, rfl, Nat.zero_le _, hm, fun e => (hA0 e).2, fun h => absurd h (by simp), (fun x hx => by cases hx), ?_⟩
    rcases hD with ⟨e, _⟩ | e <;> rw [e] <;> simp [lenD]
  · obtain ⟨b, o, hA, hb, hrow⟩ := hat h0
    have hch : ∀ i, i < n → ∃ z : Int, w.cell? ⟨b, o + i, none⟩ = some (.int .u8 z) ∧ 0 ≤ z ∧ z < 256 := fun i hi => by
      obtain ⟨cs', m, y, hl, hc, ht⟩ := hrow i hi
      obtain ⟨z, hz, _, hwf⟩ := DataW.trod_int Try.underlying5 ht
      subst hz
      exact ⟨z, by simpa using hc 0 (by omega), wf_u8 hwf⟩
    obtain ⟨F, hF⟩ := Go.Deep.choose_lt hch
    refine ⟨A, (List.range n).map F, cap, by simp, by simpa using hn, hm, fun e => (hA0 e).2, fun _ => ⟨b, o, hA, hb, fun i z hz => ?_⟩, fun x hx => ?_, ?_⟩
    · have hi : i < n := by have := (List.getElem?_eq_some_iff.1 hz).1; simpa using this
      have e : F i = z := by simpa [List.getElem?_map, List.getElem?_range hi] using hz
      rw [← e]
      exact (hF i hi).1
    · obtain ⟨i, hi, rfl⟩ := List.mem_map.1 hx
      exact (hF i (List.mem_range.1 hi)).2
    · rcases hD with ⟨_, e⟩ | hD
      · omega
      · rw [hD]
        simp [lenD]
end
end Go.Proofs.Ytkllgmhfjibajaa.Ar
