/- How the arguments of this seat's laws read: lists of producers, of records, of bools, from the reading to the values. Conditions: none. -/
import Derived.Test.YtmcahimapoddfaaSlices
import Derived.Test.YtmcahimapoddfaaFrame
import Derived.Deep.Slices
import Derived.Lib.SmallJoins
import Derived.SizedLaws
namespace Go.Proofs.Ytmcahimapoddfaa
open Go.ChangeShapes Go.WideShapes Go.RowKit
section
variable {H : Type} {enc : TypeId × Value → H} {P : Program} {w : World} {base : Nat} {spare : Nat → Bool} {held : Bool}
/-- A slice that came in, element by element: the address (where there is an element), each element's cells and its reading. -/
theorem open_rows {t e : TypeId} {size fuel : Nat} {cs : List Value} {x : DataW H × List MemPlace} (ht : P.underlying t = some (.slice e)) (hc : P.cellsOf e = size) (hs : 0 < size) (h : DataW.trod enc P w base spare held fuel t cs = some x) :
    ∃ (A : Option Addr) (n cap : Nat), cs = [.slice A n cap] ∧ n ≤ cap ∧ cap ≤ maxLen ∧ (A = none → n = 0 ∧ cap = 0) ∧ (∃ D spareD, x.1 = .nil ∧ n = 0 ∨ x.1 = .slice ((List.range n).map D) spareD) ∧
      (0 < n → ∃ b o, A = some ⟨b, o, none⟩ ∧ b < w.heap.size ∧ ∀ i, i < n → ∃ cs' m y, cs'.length = size ∧ (∀ j, j < size → w.cell? ⟨b, o + i * size + j, none⟩ = cs'[j]?) ∧ DataW.trod enc P w base spare held m e cs' = some y) := by
  rcases Go.Deep.open_slice ht h with ⟨rfl, hx⟩ | ⟨a, len, cap, m, n, D, Pl, rfl, hb, hl, hm, hmm, hx, hi⟩
  · exact ⟨none, 0, 0, rfl, Nat.le_refl _, Nat.zero_le _, fun _ => ⟨rfl, rfl⟩, ⟨fun _ => .nil, [], .inl ⟨by rw [hx], rfl⟩⟩, fun h => absurd h (by omega)⟩
  · refine ⟨some a, len, cap, rfl, hl, hm, (fun h => by cases h), ⟨D, _, .inr (by rw [hx])⟩, fun h0 => ?_⟩
    have hle : len ≤ m := by rw [hmm]; split <;> omega
    obtain ⟨cs0, hc0, _⟩ := hi 0 (by omega)
    rw [hc] at hc0
    obtain ⟨_, hl0, hat0⟩ := World.cells?_some hc0
    have hcell0 := hat0 0 hs
    have hsome : cs0[0]? = some (cs0[0]'(by omega)) := List.getElem?_eq_getElem (by omega)
    rw [hsome] at hcell0
    obtain ⟨b, o, spot⟩ := a
    have hspot : spot = none := by simpa [Addr.add] using World.cell?_spot hcell0
    subst hspot
    have hlt : b < w.heap.size := by
      have := World.block_lt_of_cell? w _ hcell0
      simpa [Addr.add] using this
    refine ⟨b, o, rfl, hlt, fun i hin => ?_⟩
    obtain ⟨cs', hcs, htr⟩ := hi i (by omega)
    rw [hc] at hcs
    obtain ⟨_, hlen, hat⟩ := World.cells?_some hcs
    refine ⟨cs', n, _, hlen, fun j hj => ?_, htr⟩
    have := hat j hj
    rw [Go.Deep.add_add, Go.WideShapes.add_plain] at this
    rw [← this, Nat.add_assoc]

end
theorem bytes67 : Try.prog.bytesOf 67 = 24 := by kernel_rfl
theorem bytes32 : Try.prog.bytesOf 32 = 72 := by kernel_rfl
theorem cells67 : Try.prog.cellsOf 67 = 3 := by kernel_rfl
theorem cells32 : Try.prog.cellsOf 32 = 7 := by kernel_rfl
theorem cells2 : Try.prog.cellsOf 2 = 1 := by kernel_rfl
theorem cells3 : Try.prog.cellsOf 3 = 1 := by kernel_rfl
theorem cells9 : Try.prog.cellsOf 9 = 1 := by kernel_rfl
theorem cells4 : Try.prog.cellsOf 4 = 1 := by kernel_rfl
theorem wf_i64 {n : Int} (h : (Lit.int .i64 n).wf = true) : -9223372036854775808 ≤ n ∧ n ≤ 9223372036854775807 := by
  simp only [Lit.wf, Bool.and_eq_true, decide_eq_true_eq] at h
  have e1 : IntKind.i64.max = 9223372036854775807 := rfl
  have e2 : IntKind.i64.min = -9223372036854775808 := rfl
  rw [e1, e2] at h
  exact h
theorem list3 {α : Type} {l : List α} (h : l.length = 3) : ∃ a b c, l = [a, b, c] := by
  match l, h with
  | [a, b, c], _ => exact ⟨a, b, c, rfl⟩
theorem list7 {α : Type} {l : List α} (h : l.length = 7) : ∃ a b c d e f g, l = [a, b, c, d, e, f, g] := by
  match l, h with
  | [a, b, c, d, e, f, g], _ => exact ⟨a, b, c, d, e, f, g, rfl⟩
theorem trod_struct7 {H : Type} {enc : TypeId × Value → H} {P : Program} {w : World} {base : Nat} {spare : Nat → Bool} {held : Bool} {t : TypeId} {f0 f1 f2 f3 f4 f5 f6 : Field} {fuel : Nat} {cs : List Value} {x : DataW H × List MemPlace} (ht : P.underlying t = some (.struct #[f0, f1, f2, f3, f4, f5, f6])) (h : DataW.trod enc P w base spare held fuel t cs = some x) :
    ∃ y0 y1 y2 y3 y4 y5 y6 n, cs.length = P.cellsOf t ∧ DataW.trod enc P w base spare held n f0.type ((cs.drop f0.offset).take (P.cellsOf f0.type)) = some y0 ∧
      DataW.trod enc P w base spare held n f1.type ((cs.drop f1.offset).take (P.cellsOf f1.type)) = some y1 ∧ DataW.trod enc P w base spare held n f2.type ((cs.drop f2.offset).take (P.cellsOf f2.type)) = some y2 ∧
      DataW.trod enc P w base spare held n f3.type ((cs.drop f3.offset).take (P.cellsOf f3.type)) = some y3 ∧ DataW.trod enc P w base spare held n f4.type ((cs.drop f4.offset).take (P.cellsOf f4.type)) = some y4 ∧
      DataW.trod enc P w base spare held n f5.type ((cs.drop f5.offset).take (P.cellsOf f5.type)) = some y5 ∧ DataW.trod enc P w base spare held n f6.type ((cs.drop f6.offset).take (P.cellsOf f6.type)) = some y6 := by
  obtain ⟨xs, n, _, rfl, hl, hlen, hf⟩ := DataW.trod_struct ht h
  match xs, hlen with
  | [y0, y1, y2, y3, y4, y5, y6], _ => exact ⟨y0, y1, y2, y3, y4, y5, y6, n, hl, by simpa using hf 0 f0 rfl, by simpa using hf 1 f1 rfl, by simpa using hf 2 f2 rfl, by simpa using hf 3 f3 rfl, by simpa using hf 4 f4 rfl, by simpa using hf 5 f5 rfl, by simpa using hf 6 f6 rfl⟩
instance : Inhabited Pr := ⟨⟨0, 0, 0⟩⟩
instance : Inhabited Rc := ⟨⟨0, 0, 0, 0, 0, ByteArray.empty, ByteArray.empty⟩⟩
/-- How many elements a reading has. -/
def lenD {H : Type} : DataW H → Nat
  | .slice e _ => e.length
  | _ => 0
section
variable {H : Type} {enc : TypeId × Value → H} {w : World} {base : Nat} {spare : Nat → Bool} {held : Bool}
theorem int_of {m : Nat} {v : Value} {y : DataW H × List MemPlace} (h : DataW.trod enc Try.prog w base spare held m 2 [v] = some y) : ∃ x : Int, v = .int .i64 x ∧ -9223372036854775808 ≤ x ∧ x ≤ 9223372036854775807 := by
  obtain ⟨x, hx, _, hw⟩ := DataW.trod_int Try.underlying2 h
  injection hx with hx
  exact ⟨x, hx, wf_i64 hw⟩
theorem int_of3 {m : Nat} {v : Value} {y : DataW H × List MemPlace} (h : DataW.trod enc Try.prog w base spare held m 3 [v] = some y) : ∃ x : Int, v = .int .i64 x ∧ -9223372036854775808 ≤ x ∧ x ≤ 9223372036854775807 := by
  obtain ⟨x, hx, _, hw⟩ := DataW.trod_int Try.underlying3 h
  injection hx with hx
  exact ⟨x, hx, wf_i64 hw⟩
theorem str_of {m : Nat} {v : Value} {y : DataW H × List MemPlace} (h : DataW.trod enc Try.prog w base spare held m 9 [v] = some y) : ∃ s : ByteArray, v = .string s := by
  obtain ⟨s, hs, _⟩ := DataW.trod_string Try.underlying9 h
  injection hs with hs
  exact ⟨s, hs⟩
/-- A producer. -/
theorem open_prod {fuel : Nat} {cs : List Value} {x : DataW H × List MemPlace} (h : DataW.trod enc Try.prog w base spare held fuel 67 cs = some x) : ∃ p : Pr, cs = prCells p := by
  obtain ⟨y0, y1, y2, n, _, hl, h0, h1, h2⟩ := Go.Deep.trod_struct3 Try.underlying67 h
  rw [cells67] at hl
  obtain ⟨a, b, c, rfl⟩ := list3 hl
  simp only [cells2, List.drop_zero, List.drop_succ_cons, List.take_succ_cons, List.take_zero] at h0 h1 h2
  obtain ⟨i, rfl, _⟩ := int_of h0
  obtain ⟨j, rfl, _⟩ := int_of h1
  obtain ⟨k, rfl, _⟩ := int_of h2
  exact ⟨⟨i, j, k⟩, rfl⟩
set_option maxRecDepth 100000 in
/-- A record. -/
theorem open_rec {fuel : Nat} {cs : List Value} {x : DataW H × List MemPlace} (h : DataW.trod enc Try.prog w base spare held fuel 32 cs = some x) : ∃ r : Rc, cs = rcCells r := by
  obtain ⟨y0, y1, y2, y3, y4, y5, y6, n, hl, h0, h1, h2, h3, h4, h5, h6⟩ := trod_struct7 Try.underlying32 h
  rw [cells32] at hl
  obtain ⟨a, b, c, d, e, f, g, rfl⟩ := list7 hl
  simp only [cells2, cells3, cells9, List.drop_zero, List.drop_succ_cons, List.take_succ_cons, List.take_zero] at h0 h1 h2 h3 h4 h5 h6
  obtain ⟨i0, rfl, _⟩ := int_of3 h0
  obtain ⟨i1, rfl, _⟩ := int_of h1
  obtain ⟨i2, rfl, _⟩ := int_of h2
  obtain ⟨i3, rfl, _⟩ := int_of h3
  obtain ⟨i4, rfl, _⟩ := int_of h4
  obtain ⟨s5, rfl⟩ := str_of h5
  obtain ⟨s6, rfl⟩ := str_of h6
  exact ⟨⟨i0, i1, i2, i3, i4, s5, s6⟩, rfl⟩
set_option maxRecDepth 100000 in
/-- A list of producers, handed in. -/
theorem open_prods {W : World} {v : Value} {d : DataW H} {p : List MemPlace} (hv : Value.okWide Try.prog W .any base 22 v) (h : DataW.Trod enc Try.prog W 0 (fun _ => true) true 22 v d p) :
    ∃ ps, PS W v ps ∧ ps.length ≤ lenD d ∧ ((∀ n ∈ d.weights Try.prog 22, n ≤ reachBytes) → ps.length * 24 ≤ 140737488351232) := by
  obtain ⟨A, n, cap, rfl⟩ := okWide_slice Try.underlying22 hv
  obtain ⟨fuel, hf⟩ := h
  obtain ⟨A', n', cap', hcs, hn, hm, hnil, ⟨D, sp, hD⟩, hat⟩ := open_rows Try.underlying22 cells67 (by omega) hf
  simp only [Value.cells, List.cons.injEq, Value.slice.injEq, and_true] at hcs
  obtain ⟨rfl, rfl, rfl⟩ := hcs
  rcases Nat.eq_zero_or_pos n with h0 | h0
  · subst h0
    exact ⟨[], ⟨A, cap, rfl, Nat.zero_le _, hm, hnil, fun h => absurd h (by decide)⟩, Nat.zero_le _, fun _ => by simp⟩
  · obtain ⟨b, o, hA, hb, hrow⟩ := hat h0
    have hch : ∀ i, i < n → ∃ q : Pr, W.cell? ⟨b, o + i * 3, none⟩ = some (.int .i64 q.pid) ∧ W.cell? ⟨b, o + i * 3 + 1, none⟩ = some (.int .i64 q.seq) ∧ W.cell? ⟨b, o + i * 3 + 2, none⟩ = some (.int .i64 q.off) := fun i hi => by
      obtain ⟨cs', m, y, hl, hc, ht⟩ := hrow i hi
      obtain ⟨q, rfl⟩ := open_prod ht
      exact ⟨q, hc 0 (by omega), hc 1 (by omega), hc 2 (by omega)⟩
    obtain ⟨F, hF⟩ := Go.Deep.choose_lt hch
    have hlen : ((List.range n).map F).length = n := by simp
    refine ⟨(List.range n).map F, ⟨A, cap, by rw [hlen], by rw [hlen]; exact hn, hm, fun e => by rw [hlen]; exact hnil e, fun _ => ⟨b, o, hA, hb, fun i z hz => ?_⟩⟩, ?_, fun hw => ?_⟩
    · have hi : i < n := by have := (List.getElem?_eq_some_iff.1 hz).1; simpa using this
      have e : F i = z := by simpa [List.getElem?_map, List.getElem?_range hi] using hz
      rw [← e]
      exact hF i hi
    · rcases hD with ⟨_, e⟩ | hD
      · omega
      · have hD' : d = _ := hD
        rw [hlen, hD']
        show n ≤ ((List.range n).map D).length
        simp
    · rcases hD with ⟨_, e⟩ | hD
      · omega
      · have hD' : d = _ := hD
        have := hw ((((List.range n).map D).length + sp.length) * Try.prog.bytesOf 67) (by rw [hD']; simp [DataW.weights, Try.underlying22])
        rw [bytes67] at this
        simp only [reachBytes, List.length_map, List.length_range] at this ⊢
        omega
set_option maxRecDepth 100000 in
/-- A list of records, handed in. -/
theorem open_recs {W : World} {v : Value} {d : DataW H} {p : List MemPlace} (hv : Value.okWide Try.prog W .any base 23 v) (h : DataW.Trod enc Try.prog W 0 (fun _ => true) true 23 v d p) :
    ∃ rs, RS W v rs ∧ rs.length ≤ lenD d ∧ ((∀ n ∈ d.weights Try.prog 23, n ≤ reachBytes) → rs.length * 72 ≤ 140737488351232) := by
  obtain ⟨A, n, cap, rfl⟩ := okWide_slice Try.underlying23 hv
  obtain ⟨fuel, hf⟩ := h
  obtain ⟨A', n', cap', hcs, hn, hm, hnil, ⟨D, sp, hD⟩, hat⟩ := open_rows Try.underlying23 cells32 (by omega) hf
  simp only [Value.cells, List.cons.injEq, Value.slice.injEq, and_true] at hcs
  obtain ⟨rfl, rfl, rfl⟩ := hcs
  rcases Nat.eq_zero_or_pos n with h0 | h0
  · subst h0
    exact ⟨[], ⟨A, cap, rfl, Nat.zero_le _, hm, hnil, fun h => absurd h (by decide)⟩, Nat.zero_le _, fun _ => by simp⟩
  · obtain ⟨b, o, hA, hb, hrow⟩ := hat h0
    have hch : ∀ i, i < n → ∃ q : Rc, ∀ j, j < 7 → W.cell? ⟨b, o + i * 7 + j, none⟩ = (rcCells q)[j]? := fun i hi => by
      obtain ⟨cs', m, y, hl, hc, ht⟩ := hrow i hi
      obtain ⟨q, rfl⟩ := open_rec ht
      exact ⟨q, hc⟩
    obtain ⟨F, hF⟩ := Go.Deep.choose_lt hch
    have hlen : ((List.range n).map F).length = n := by simp
    refine ⟨(List.range n).map F, ⟨A, cap, by rw [hlen], by rw [hlen]; exact hn, hm, fun e => by rw [hlen]; exact hnil e, fun _ => ⟨b, o, hA, hb, fun i z hz => ?_⟩⟩, ?_, fun hw => ?_⟩
    · have hi : i < n := by have := (List.getElem?_eq_some_iff.1 hz).1; simpa using this
      have e : F i = z := by simpa [List.getElem?_map, List.getElem?_range hi] using hz
      rw [← e]
      have := hF i hi
      exact ⟨this 0 (by omega), this 1 (by omega), this 2 (by omega), this 3 (by omega), this 4 (by omega), this 5 (by omega), this 6 (by omega)⟩
    · rcases hD with ⟨_, e⟩ | hD
      · omega
      · have hD' : d = _ := hD
        rw [hlen, hD']
        show n ≤ ((List.range n).map D).length
        simp
    · rcases hD with ⟨_, e⟩ | hD
      · omega
      · have hD' : d = _ := hD
        have := hw ((((List.range n).map D).length + sp.length) * Try.prog.bytesOf 32) (by rw [hD']; simp [DataW.weights, Try.underlying23])
        rw [bytes32] at this
        simp only [reachBytes, List.length_map, List.length_range] at this ⊢
        omega
set_option maxRecDepth 100000 in
/-- A list of bools, handed in. -/
theorem open_bools {W : World} {v : Value} {d : DataW H} {p : List MemPlace} (hv : Value.okWide Try.prog W .any base 34 v) (h : DataW.Trod enc Try.prog W 0 (fun _ => true) true 34 v d p) : ∃ bs, BS W v bs := by
  obtain ⟨A, n, cap, rfl⟩ := okWide_slice Try.underlying34 hv
  obtain ⟨fuel, hf⟩ := h
  obtain ⟨A', n', cap', hcs, hn, hm, hnil, _, hat⟩ := open_rows Try.underlying34 cells4 (by omega) hf
  simp only [Value.cells, List.cons.injEq, Value.slice.injEq, and_true] at hcs
  obtain ⟨rfl, rfl, rfl⟩ := hcs
  rcases Nat.eq_zero_or_pos n with h0 | h0
  · subst h0
    exact ⟨[], A, cap, rfl, Nat.zero_le _, hm, hnil, fun h => absurd h (by decide)⟩
  · obtain ⟨b, o, hA, hb, hrow⟩ := hat h0
    have hch : ∀ i, i < n → ∃ z : Bool, W.cell? ⟨b, o + i, none⟩ = some (.bool z) := fun i hi => by
      obtain ⟨cs', m, y, hl, hc, ht⟩ := hrow i hi
      obtain ⟨z, hz, _⟩ := DataW.trod_bool Try.underlying4 ht
      subst hz
      exact ⟨z, by simpa using hc 0 (by omega)⟩
    obtain ⟨F, hF⟩ := Go.Deep.choose_lt hch
    have hlen : ((List.range n).map F).length = n := by simp
    refine ⟨(List.range n).map F, A, cap, by rw [hlen], by rw [hlen]; exact hn, hm, fun e => by rw [hlen]; exact hnil e, fun _ => ⟨b, o, hA, hb, fun i z hz => ?_⟩⟩
    have hi : i < n := by have := (List.getElem?_eq_some_iff.1 hz).1; simpa using this
    have e : F i = z := by simpa [List.getElem?_map, List.getElem?_range hi] using hz
    rw [← e]
    exact hF i hi
end
end Go.Proofs.Ytmcahimapoddfaa
