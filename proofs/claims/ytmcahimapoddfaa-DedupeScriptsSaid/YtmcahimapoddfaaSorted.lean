/- The walk of List: the table's producers by rising numbers, in new memory. Conditions: the table is one of at most 64. -/
import Derived.Test.YtmcahimapoddfaaMem
import Derived.Lib.SlMapMerge
import Derived.Shelf.AbstractIn
namespace Go.Proofs.Ytmcahimapoddfaa
open Go.RowKit Go.Maps Go.Sort Go.Shelf

/-- A slice that owns the producers ps, in blocks from base on. -/
def OwnP (w : World) (base : Nat) (v : Value) (ps : List Pr) : Prop := w.ownsRow base 67 3 v ps.length (ps.flatMap prCells)
theorem flat_len : ∀ ps : List Pr, (ps.flatMap prCells).length = ps.length * 3
  | [] => rfl
  | p :: r => by
    rw [List.flatMap_cons, List.length_append, flat_len r, List.length_cons]
    show 3 + _ = _
    omega
theorem flat_get : ∀ (ps : List Pr) (i : Nat) (p : Pr), ps[i]? = some p → ∀ j, j < 3 → (ps.flatMap prCells)[i * 3 + j]? = (prCells p)[j]?
  | [], i, p, h, _, _ => by simp at h
  | q :: r, 0, p, h, j, hj => by
    simp only [List.getElem?_cons_zero, Option.some.injEq] at h
    subst h
    rw [List.flatMap_cons, Nat.zero_mul, Nat.zero_add, List.getElem?_append_left (by show j < 3; exact hj)]
  | q :: r, i + 1, p, h, j, hj => by
    rw [List.flatMap_cons, List.getElem?_append_right (by show 3 ≤ _; omega)]
    have e : (i + 1) * 3 + j - (prCells q).length = i * 3 + j := by show (i + 1) * 3 + j - 3 = _; omega
    rw [e]
    exact flat_get r i p (by simpa using h) j hj
section
variable {w w' : World} {base B : Nat} {v : Value} {ps : List Pr}
theorem OwnP.nil (w : World) (base : Nat) : OwnP w base (.slice none 0 0) [] := World.ownsRow_nil _ _ 67 3
theorem OwnP.keep (h : OwnP w base v ps) (hk : ∀ b, v.ownBlock = some b → w'.heap[b]? = w.heap[b]?) : OwnP w' base v ps := by
  obtain ⟨hl, h⟩ := h
  refine ⟨hl, ?_⟩
  rcases h with h | ⟨b, cap, cur, rfl, hb, hh, r⟩
  · exact .inl h
  · exact .inr ⟨b, cap, cur, rfl, hb, (hk b rfl).trans hh, r⟩
theorem OwnP.lt (h : OwnP w base v ps) {b : Nat} (hb : v.ownBlock = some b) : base ≤ b ∧ b < w.heap.size := by
  obtain ⟨_, h⟩ := h
  rcases h with ⟨rfl, _⟩ | ⟨b', cap, cur, rfl, hb', hh, _⟩
  · cases hb
  · injection hb with hb
    subst hb
    exact ⟨hb', (Blk.lt (w := w) (t := 67) (cs := cur) hh)⟩
theorem OwnP.below (h : OwnP w base v ps) (hb : Below B w w') (hB : w.heap.size ≤ B) : OwnP w' base v ps :=
  h.keep fun b he => hb.block b (by have := (h.lt he).2; omega)
theorem OwnP.mono {base' : Nat} (h : OwnP w base v ps) (hb : base' ≤ base) : OwnP w base' v ps := by
  obtain ⟨hl, h⟩ := h
  refine ⟨hl, ?_⟩
  rcases h with h | ⟨b, cap, cur, rfl, hb', r⟩
  · exact .inl h
  · exact .inr ⟨b, cap, cur, rfl, by omega, r⟩
/-- What is owned can be read. -/
theorem OwnP.read (h : OwnP w base v ps) (hB : w.heap.size ≤ B) : ∃ A c, v = .slice A ps.length c ∧ ps.length ≤ c ∧ c ≤ maxLen ∧ ProdsAt w B A ps := by
  obtain ⟨_, h⟩ := h
  rcases h with ⟨rfl, h0⟩ | ⟨b, cap, cur, rfl, hb, hh, hn, hm, hcs, ht⟩
  · rw [h0]
    exact ⟨none, 0, rfl, Nat.le_refl _, Nat.zero_le _, fun h => absurd h (by omega)⟩
  · refine ⟨some ⟨b, 0, none⟩, cap, rfl, hn, hm, fun _ => ⟨b, 0, rfl, by have := Blk.lt (w := w) (t := 67) (cs := cur) hh; omega, fun i p hp => ?_⟩⟩
    have hi := (List.getElem?_eq_some_iff.1 hp).1
    have hc : ∀ j, j < 3 → w.cell? ⟨b, 0 + i * 3 + j, none⟩ = (prCells p)[j]? := fun j hj => by
      rw [Nat.zero_add, Blk.cell (t := 67) (cs := cur) hh, ← flat_get ps i p hp j hj, ← ht, List.getElem?_take_of_lt (by omega), Array.getElem?_toList]
    exact ⟨hc 0 (by omega), hc 1 (by omega), hc 2 (by omega)⟩
end
theorem info67 : (Try.prog.info? 67).map (fun i => (i.zero, i.size, i.bytes)) = some (some (.agg #[.int .i64 0, .int .i64 0, .int .i64 0]), 3, 24) := by kernel_rfl

theorem Tab.wf {w : World} {m : Nat} {l : List Pr} (h : Tab w m l) : ∀ p ∈ l, -9223372036854775808 ≤ p.pid ∧ p.pid ≤ 9223372036854775807 := by
  intro p hp
  obtain ⟨es, he, _, hk⟩ := World.ownsMap.canonK h K2
  injection he with he
  subst he
  obtain ⟨v, hv⟩ := hk _ (List.mem_map_of_mem hp)
  obtain ⟨x, rfl, e, hw⟩ := Maps.keyOf_i64 Try.underlying2 hv
  have e' : p.pid = x := by injection e
  subst e'
  have hm : IntKind.min .i64 = -9223372036854775808 := by decide
  have h2 := hw
  simp [Lit.wf, hm] at h2
  exact h2

theorem keys_c (m : Nat) (W : World) : Calls Try.prog 38 #[.map (some m)] W fun e w' => e = .returned (.func (.func 48) #[] #[.pointer (some ⟨W.heap.size, 0, none⟩)]) ∧ w' = W.alloc (.cells #[.map (some m)] 73) :=
  callsIn_wide.1 (AnyZI.keys_in keysA Fence.wide 5 trivial rfl (some m) W)
theorem sorts_c (m : Nat) : AnyZI.SortsIn Try.prog sortedA_ren Fence.wide m :=
  ⟨fun blk off cap ss W hH hblk hsz => callsIn_wide.2 (AnyM.slices_Sort_int sortA blk off cap ss W hH hblk hsz),
   fun p cap W => callsIn_wide.2 (AnyM.slices_Sort_int_none sortA p cap W)⟩
theorem sort_rising {l : List Pr} (h : Rising l) {ss : List Int} (hp : ss.Perm (l.map (·.pid))) : ss.mergeSort (fun x y => decide (x ≤ y)) = l.map (·.pid) := by
  rw [mergeSort_of_perm_i hp]
  refine List.mergeSort_of_pairwise ?_
  refine List.pairwise_map.2 (h.imp fun {a b} hab => ?_)
  show decide _ = true
  simp
  omega
theorem sorted_c (m : Nat) (l : List Pr) (W : World) (h : Tab W m l) (h64 : l.length ≤ 64) :
    Calls Try.prog 37 #[.func (.func 48) #[] #[.pointer (some ⟨W.heap.size, 0, none⟩)]] (W.alloc (.cells #[.map (some m)] 73)) fun e w' =>
      ∃ v, e = .returned v ∧ w'.ownsRow (W.heap.size + 1) 2 1 v l.length ((l.map (·.pid)).map (Value.int .i64)) ∧ Below (W.heap.size + 1) (W.alloc (.cells #[.map (some m)] 73)) w' := by
  have hseq : SeqGives Fence.wide 2 Try.prog 48 #[.pointer (some ⟨W.heap.size, 0, none⟩)] encZ (fun ss => ss.Perm (intKeys (tabD l))) (Maps.size (tabD l)) (W.alloc (.cells #[.map (some m)] 73)) :=
    AnyZI.keys_gives (ρ := keysA_ren) { keysA with } Fence.wide _ trivial rfl (by omega) W.heap.size m l.length (tabD l) _ (by simp) (by simp) (h.alloc _)
  have hsz : (W.alloc (.cells #[.map (some m)] 73)).heap.size = W.heap.size + 1 := by simp
  have cS := AnyZI.sorted_in sortedA Fence.wide 5 trivial trivial trivial trivial rfl (by omega) (sorts_c _) (enters_of Try.func47 (by kernel_rfl) rfl) 48 #[.pointer (some ⟨W.heap.size, 0, none⟩)] trivial (enters_of Try.func48 (by kernel_rfl) rfl) _ _
    (by rw [size_tab]; unfold maxLen; omega) (by rw [size_tab]; omega) _ hseq
  refine (callsIn_wide.1 cS).mono ?_
  rintro e w' ⟨v, ss, he, hS, hrow, _, hb⟩
  rw [keys_tab] at hS
  rw [sort_rising h.rising hS, hsz] at hrow
  rw [hsz] at hb
  refine ⟨v, he, ?_, hb⟩
  have hl : ss.length = l.length := by rw [hS.length_eq]; simp
  rw [hl] at hrow
  exact hrow
end Go.Proofs.Ytmcahimapoddfaa
