/- How turns that are handed in read: queues, their costs; the lists are within reach. Conditions: none. -/
import Derived.Test.YtgbjhkgbjnobcaaAsk
import Derived.Test.YtgbjhkgbjnobcaaOpens
import Derived.Lib.SmallJoins
import Derived.SizedLaws
namespace Go.Proofs.Ytgbjhkgbjnobcaa
open Go.ChangeShapes Go.WideShapes Go.RowKit Trn

theorem list1 {α : Type} {l : List α} (h : l.length = 1) : ∃ a, l = [a] := by
  match l, h with
  | [a], _ => exact ⟨a, rfl⟩
theorem weightsAll_mem {H : Type} {P : Program} {e : TypeId} : ∀ {l : List (DataW H)} {d : DataW H}, d ∈ l → ∀ n ∈ d.weights P e, n ∈ DataW.weightsAll P e l
  | d' :: r, d, hd, n, hn => by
    simp only [DataW.weightsAll, List.mem_append]
    rcases List.mem_cons.1 hd with rfl | h
    · exact Or.inl hn
    · exact Or.inr (weightsAll_mem h n hn)
theorem bytes3 : Try.prog.bytesOf 3 = 8 := by kernel_rfl
theorem cells3 : Try.prog.cellsOf 3 = 1 := by kernel_rfl
theorem cells30 : Try.prog.cellsOf 30 = 1 := by kernel_rfl
theorem cells51 : Try.prog.cellsOf 51 = 4 := by kernel_rfl
theorem cells32 : Try.prog.cellsOf 32 = 1 := by kernel_rfl
theorem cells34 : Try.prog.cellsOf 34 = 3 := by kernel_rfl
theorem cells4 : Try.prog.cellsOf 4 = 1 := by kernel_rfl
theorem wf_i64 {n : Int} (h : (Lit.int .i64 n).wf = true) : n ≤ 9223372036854775807 := by
  simp only [Lit.wf, Bool.and_eq_true, decide_eq_true_eq] at h
  have h2 := h.2
  have e : IntKind.i64.max = 9223372036854775807 := rfl
  rw [e] at h2
  exact h2
section
variable {H : Type} {enc : TypeId × Value → H} {w : World} {base : Nat} {spare : Nat → Bool} {held : Bool}
/-- A list of integers. -/
theorem open_ints {fuel : Nat} {cs : List Value} {x : DataW H × List MemPlace} (h : DataW.trod enc Try.prog w base spare held fuel 30 cs = some x) (hw : ∀ n ∈ x.1.weights Try.prog 30, n ≤ reachBytes) :
    ∃ A xs c, cs = [.slice A (List.length xs) c] ∧ xs.length ≤ c ∧ c ≤ maxLen ∧ IntsAt w w.heap.size A xs ∧ xs.length * 8 ≤ 140737488351232 := by
  obtain ⟨A, n, cap, rfl, hn, hm, _, ⟨D, sp, hD⟩, hat⟩ := open_rows Try.underlying30 cells3 (by omega) h
  rcases Nat.eq_zero_or_pos n with h0 | h0
  · subst h0
    exact ⟨A, [], cap, rfl, Nat.zero_le _, hm, fun h => absurd h (by simp), by simp⟩
  · obtain ⟨b, o, hA, hb, hrow⟩ := hat h0
    have hch : ∀ i, i < n → ∃ z : Int, w.cell? ⟨b, o + i, none⟩ = some (.int .i64 z) := fun i hi => by
      obtain ⟨cs', m, y, hl, hc, ht⟩ := hrow i hi
      obtain ⟨z, hz, _⟩ := DataW.trod_int Try.underlying3 ht
      subst hz
      exact ⟨z, by simpa using hc 0 (by omega)⟩
    obtain ⟨F, hF⟩ := Go.Deep.choose_lt hch
    refine ⟨A, (List.range n).map F, cap, by simp, by simpa using hn, hm, fun _ => ⟨b, o, hA, hb, fun i z hz => ?_⟩, ?_⟩
    · have hi : i < n := by have := (List.getElem?_eq_some_iff.1 hz).1; simpa using this
      have e : F i = z := by simpa [List.getElem?_map, List.getElem?_range hi] using hz
      rw [← e]
      exact hF i hi
    · rcases hD with ⟨_, e⟩ | hD
      · omega
      · have := hw ((((List.range n).map D).length + sp.length) * Try.prog.bytesOf 3) (by rw [hD]; simp [DataW.weights, Try.underlying30])
        rw [bytes3] at this
        simp only [reachBytes, List.length_map, List.length_range] at this ⊢
        omega
/-- A queue. -/
theorem open_queue {fuel : Nat} {cs : List Value} {x : DataW H × List MemPlace} (h : DataW.trod enc Try.prog w base spare held fuel 51 cs = some x) (hw : ∀ n ∈ x.1.weights Try.prog 51, n ≤ reachBytes) :
    ∃ (q : Qu) (A : Option Addr) (c : Nat), cs = [.int .i64 q.id, .int .i64 q.qu, .int .i64 q.de, .slice A q.cs.length c] ∧ q.cs.length ≤ c ∧ c ≤ maxLen ∧ IntsAt w w.heap.size A q.cs ∧ q.cs.length * 8 ≤ 140737488351232 ∧ q.id ≤ 9223372036854775807 := by
  obtain ⟨y0, y1, y2, y3, n, rfl, hl, h0, h1, h2, h3⟩ := Go.Joins.trod_struct4 Try.underlying51 h
  rw [cells51] at hl
  obtain ⟨a, b, c, d, rfl⟩ := list4 hl
  simp only [cells3, cells30, List.drop_zero, List.drop_succ_cons, List.take_succ_cons, List.take_zero] at h0 h1 h2 h3
  obtain ⟨i, e0, _, hwf⟩ := DataW.trod_int Try.underlying3 h0
  obtain ⟨j, e1, _⟩ := DataW.trod_int Try.underlying3 h1
  obtain ⟨k, e2, _⟩ := DataW.trod_int Try.underlying3 h2
  obtain ⟨A, xs, cc, e3, k1, k2, k3, k4⟩ := open_ints h3 (fun n hn => hw n (by simp [DataW.weights, DataW.weightsEach, Try.underlying51, hn]))
  injection e0 with e0
  injection e1 with e1
  injection e2 with e2
  injection e3 with e3
  exact ⟨⟨i, j, k, xs⟩, A, cc, by rw [e0, e1, e2, e3], k1, k2, k3, k4, wf_i64 hwf⟩
/-- Queues. -/
theorem open_queues {fuel : Nat} {cs : List Value} {x : DataW H × List MemPlace} (h : DataW.trod enc Try.prog w base spare held fuel 32 cs = some x) (hw : ∀ n ∈ x.1.weights Try.prog 32, n ≤ reachBytes) :
    ∃ A qs c, cs = [.slice A (List.length qs) c] ∧ qs.length ≤ c ∧ c ≤ maxLen ∧ QsAt w w.heap.size A qs ∧ (∀ q ∈ qs, q.cs.length * 8 ≤ 140737488351232 ∧ q.id ≤ 9223372036854775807) := by
  rcases Go.Deep.open_slice Try.underlying32 h with ⟨rfl, hx⟩ | ⟨a, len, cap, m, n, D, Pl, rfl, hb, hl, hm, hmm, hx, hi⟩
  · exact ⟨none, [], 0, rfl, Nat.le_refl _, Nat.zero_le _, fun h => absurd h (by simp), fun q hq => by cases hq⟩
  · have hle : len ≤ m := by rw [hmm]; split <;> omega
    rcases Nat.eq_zero_or_pos len with h0 | h0
    · subst h0
      exact ⟨some a, [], cap, rfl, Nat.zero_le _, hm, fun h => absurd h (by simp), fun q hq => by cases hq⟩
    · rw [cells51] at hi
      have hwi : ∀ i, i < len → ∀ z ∈ (D i).weights Try.prog 51, z ≤ reachBytes := fun i hil z hz => hw z (by
        rw [hx]
        simp only [DataW.weights, Try.underlying32, List.mem_cons, List.mem_append]
        exact .inr (.inl (weightsAll_mem (List.mem_map.2 ⟨i, List.mem_range.2 hil, rfl⟩) z hz)))
      obtain ⟨b, o, spot⟩ := a
      have hsl : spot = none ∧ b < w.heap.size := by
        obtain ⟨cs', hc, ht⟩ := hi 0 (by omega)
        obtain ⟨q, A, c, rfl, _⟩ := open_queue ht (hwi 0 h0)
        obtain ⟨_, _, hat⟩ := World.cells?_some hc
        have c0 := (hat 0 (by omega)).trans (show _ = some (Value.int .i64 q.id) from rfl)
        have k1 := World.cell?_spot c0
        have k2 := World.block_lt_of_cell? w _ c0
        exact ⟨by simpa [Addr.add] using k1, by simpa [Addr.add] using k2⟩
      obtain ⟨rfl, hlt⟩ := hsl
      have hch : ∀ i, i < len → ∃ q : Qu, QuAt w w.heap.size b (o + i * 4) q ∧ q.cs.length * 8 ≤ 140737488351232 ∧ q.id ≤ 9223372036854775807 := fun i hil => by
        obtain ⟨cs', hc, ht⟩ := hi i (by omega)
        obtain ⟨q, A, c, rfl, k1, k2, k3, k4, k5⟩ := open_queue ht (hwi i hil)
        obtain ⟨_, _, hat⟩ := World.cells?_some hc
        have c0 := hat 0 (by omega)
        have c1 := hat 1 (by omega)
        have c2 := hat 2 (by omega)
        have c3 := hat 3 (by omega)
        rw [Go.Deep.add_add, Go.WideShapes.add_plain] at c0 c1 c2 c3
        exact ⟨q, ⟨c0, c1, c2, A, c, c3, k1, k2, k3⟩, k4, k5⟩
      obtain ⟨F, hF⟩ := Go.Deep.choose_lt hch
      refine ⟨some ⟨b, o, none⟩, (List.range len).map F, cap, by simp, by simpa using hl, hm, fun _ => ⟨b, o, rfl, hlt, fun i q hq => ?_⟩, fun q hq => ?_⟩
      · have hi' : i < len := by have := (List.getElem?_eq_some_iff.1 hq).1; simpa using this
        have e : F i = q := by simpa [List.getElem?_map, List.getElem?_range hi'] using hq
        rw [← e]
        exact (hF i hi').1
      · obtain ⟨i, hi', rfl⟩ := List.mem_map.1 hq
        exact (hF i (List.mem_range.1 hi')).2
/-- Turns. -/
theorem open_turns {v : Value} {d : DataW H} {p : List MemPlace} (hv : Value.okWide Try.prog w .any base 34 v) (h : DataW.Trod enc Try.prog w 0 (fun _ => true) true 34 v d p) (hw : ∀ n ∈ d.weights Try.prog 34, n ≤ reachBytes) :
    ∃ t, TuAt w w.heap.size v t ∧ Reach t ∧ Ids t := by
  obtain ⟨cs, rfl, _⟩ := okWide_struct Try.underlying34 hv
  obtain ⟨fuel, hf⟩ := h
  obtain ⟨y0, y1, y2, n, hd, hl, h0, h1, h2⟩ := Go.Deep.trod_struct3 Try.underlying34 hf
  injection hd with hd _
  subst hd
  rw [cells34] at hl
  simp only [Value.cells, cells32, cells3, cells4, List.drop_zero] at hl h0 h1 h2
  obtain ⟨l⟩ := cs
  match l, hl with
  | [a, b, c], _ =>
    simp only [List.drop_succ_cons, List.drop_zero, List.take_succ_cons, List.take_zero] at h0 h1 h2
    obtain ⟨A, qs, cc, e0, k1, k2, k3, k4⟩ := open_queues h0 (fun n hn => hw n (by simp [DataW.weights, DataW.weightsEach, Try.underlying34, hn]))
    obtain ⟨j, e1, _⟩ := DataW.trod_int Try.underlying3 h1
    obtain ⟨f, e2, _⟩ := DataW.trod_bool Try.underlying4 h2
    injection e0 with e0
    injection e1 with e1
    injection e2 with e2
    exact ⟨⟨qs, j, f⟩, ⟨A, cc, by rw [e0, e1, e2], k1, k2, k3⟩, fun q hq => (k4 q hq).1, fun q hq => (k4 q hq).2⟩
end
end Go.Proofs.Ytgbjhkgbjnobcaa
