/- Turns in memory of their own: a block of queues, a row of integers for each. Conditions: none. -/
import Derived.Test.YtgbjhkgbjnobcaaClone
namespace Go.Proofs.Ytgbjhkgbjnobcaa
open Go.RowKit Trn

/-- A queue's four cells. -/
structure R4 where
  a : Value
  b : Value
  c : Value
  d : Value
/-- Rows of four cells, one behind the other. -/
def flat : List R4 → List Value
  | [] => []
  | r :: l => r.a :: r.b :: r.c :: r.d :: flat l
theorem flat_len (l : List R4) : (flat l).length = l.length * 4 := by
  induction l with
  | nil => rfl
  | cons r l ih => simp only [flat, List.length_cons, ih]; omega
theorem flat_at (l : List R4) : ∀ (i : Nat) (r : R4), l[i]? = some r → (flat l)[i * 4]? = some r.a ∧ (flat l)[i * 4 + 1]? = some r.b ∧ (flat l)[i * 4 + 2]? = some r.c ∧ (flat l)[i * 4 + 3]? = some r.d := by
  induction l with
  | nil => intro i r h; simp at h
  | cons x l ih =>
    intro i r h
    cases i with
    | zero =>
      simp only [List.getElem?_cons_zero, Option.some.injEq] at h
      subst h
      exact ⟨rfl, rfl, rfl, rfl⟩
    | succ i =>
      rw [List.getElem?_cons_succ] at h
      have := ih i r h
      have e : (i + 1) * 4 = i * 4 + 1 + 1 + 1 + 1 := by omega
      rw [e]
      simp only [flat]
      refine ⟨this.1, ?_, ?_, ?_⟩
      · rw [show i * 4 + 1 + 1 + 1 + 1 + 1 = (i * 4 + 1) + 1 + 1 + 1 + 1 by omega]; exact this.2.1
      · rw [show i * 4 + 1 + 1 + 1 + 1 + 2 = (i * 4 + 2) + 1 + 1 + 1 + 1 by omega]; exact this.2.2.1
      · rw [show i * 4 + 1 + 1 + 1 + 1 + 3 = (i * 4 + 3) + 1 + 1 + 1 + 1 by omega]; exact this.2.2.2
/-- A store into one of a row's cells. -/
theorem flat_set (u : Value) (l : List R4) : ∀ (i : Nat) (r : R4), l[i]? = some r →
    (flat l).set (i * 4) u = flat (l.set i { r with a := u }) ∧ (flat l).set (i * 4 + 1) u = flat (l.set i { r with b := u }) ∧
    (flat l).set (i * 4 + 2) u = flat (l.set i { r with c := u }) ∧ (flat l).set (i * 4 + 3) u = flat (l.set i { r with d := u }) := by
  induction l with
  | nil => intro i r h; simp at h
  | cons x l ih =>
    intro i r h
    cases i with
    | zero =>
      simp only [List.getElem?_cons_zero, Option.some.injEq] at h
      subst h
      exact ⟨rfl, rfl, rfl, rfl⟩
    | succ i =>
      rw [List.getElem?_cons_succ] at h
      obtain ⟨h1, h2, h3, h4⟩ := ih i r h
      have e : (i + 1) * 4 = i * 4 + 1 + 1 + 1 + 1 := by omega
      rw [e]
      refine ⟨?_, ?_, ?_, ?_⟩
      · simp only [flat, List.set_cons_succ, h1]
      · rw [show i * 4 + 1 + 1 + 1 + 1 + 1 = (i * 4 + 1) + 1 + 1 + 1 + 1 by omega]; simp only [flat, List.set_cons_succ, h2]
      · rw [show i * 4 + 1 + 1 + 1 + 1 + 2 = (i * 4 + 2) + 1 + 1 + 1 + 1 by omega]; simp only [flat, List.set_cons_succ, h3]
      · rw [show i * 4 + 1 + 1 + 1 + 1 + 3 = (i * 4 + 3) + 1 + 1 + 1 + 1 by omega]; simp only [flat, List.set_cons_succ, h4]

/-- The block of queues. -/
def QBlk (w : World) (g : Nat) (l : List R4) : Prop := Blk w g 51 (flat l).toArray
section
variable {w w' : World} {g : Nat} {l : List R4}
theorem QBlk.cells (h : QBlk w g l) {i : Nat} {r : R4} (hi : l[i]? = some r) :
    w.cell? ⟨g, i * 4, none⟩ = some r.a ∧ w.cell? ⟨g, i * 4 + 1, none⟩ = some r.b ∧ w.cell? ⟨g, i * 4 + 2, none⟩ = some r.c ∧ w.cell? ⟨g, i * 4 + 3, none⟩ = some r.d := by
  obtain ⟨h1, h2, h3, h4⟩ := flat_at l i r hi
  refine ⟨?_, ?_, ?_, ?_⟩
  · rw [Blk.cell h]; simpa using h1
  · rw [Blk.cell h]; simpa using h2
  · rw [Blk.cell h]; simpa using h3
  · rw [Blk.cell h]; simpa using h4
theorem QBlk.set3 (h : QBlk w g l) {i : Nat} {r : R4} (hi : l[i]? = some r) (u : Value) : QBlk (w.setCell ⟨g, i * 4 + 3, none⟩ u) g (l.set i { r with d := u }) := by
  have := Blk.set_ h (i * 4 + 3) u
  rwa [List.setIfInBounds_toArray, (flat_set u l i r hi).2.2.2] at this
theorem QBlk.set2 (h : QBlk w g l) {i : Nat} {r : R4} (hi : l[i]? = some r) (u : Value) : QBlk (w.setCell ⟨g, i * 4 + 2, none⟩ u) g (l.set i { r with c := u }) := by
  have := Blk.set_ h (i * 4 + 2) u
  rwa [List.setIfInBounds_toArray, (flat_set u l i r hi).2.2.1] at this
theorem QBlk.set1 (h : QBlk w g l) {i : Nat} {r : R4} (hi : l[i]? = some r) (u : Value) : QBlk (w.setCell ⟨g, i * 4 + 1, none⟩ u) g (l.set i { r with b := u }) := by
  have := Blk.set_ h (i * 4 + 1) u
  rwa [List.setIfInBounds_toArray, (flat_set u l i r hi).2.1] at this
theorem QBlk.set0 (h : QBlk w g l) {i : Nat} {r : R4} (hi : l[i]? = some r) (u : Value) : QBlk (w.setCell ⟨g, i * 4, none⟩ u) g (l.set i { r with a := u }) := by
  have := Blk.set_ h (i * 4) u
  rwa [List.setIfInBounds_toArray, (flat_set u l i r hi).1] at this
theorem at_set {l : List R4} {i : Nat} {r : R4} (hi : l[i]? = some r) (r' : R4) : (l.set i r')[i]? = some r' := by
  rw [List.getElem?_set_self (List.getElem?_eq_some_iff.1 hi).1]
/-- A whole queue stored. -/
theorem QBlk.setAll (h : QBlk w g l) {i : Nat} {r : R4} (hi : l[i]? = some r) (r' : R4) :
    QBlk ((((w.setCell ⟨g, i * 4, none⟩ r'.a).setCell ⟨g, i * 4 + 1, none⟩ r'.b).setCell ⟨g, i * 4 + 2, none⟩ r'.c).setCell ⟨g, i * 4 + 3, none⟩ r'.d) g (l.set i r') := by
  have h0 := h.set0 hi r'.a
  have h1 := h0.set1 (at_set hi _) r'.b
  have h2 := h1.set2 (at_set (at_set hi _) _) r'.c
  have h3 := h2.set3 (at_set (at_set (at_set hi _) _) _) r'.d
  simpa only [List.set_set] using h3
end

/-- What is owned stays owned where its block is as it was. -/
theorem OwnInts.keep {w w' : World} {base : Nat} {v : Value} {xs : List Int} (h : OwnInts w base v xs) (hk : ∀ b, v.ownBlock = some b → w'.heap[b]? = w.heap[b]?) : OwnInts w' base v xs := by
  obtain ⟨hl, h⟩ := h
  refine ⟨hl, ?_⟩
  rcases h with h | ⟨b, cap, cur, rfl, hb, hh, r⟩
  · exact .inl h
  · exact .inr ⟨b, cap, cur, rfl, hb, (hk b rfl).trans hh, r⟩
theorem OwnInts.lt {w : World} {base : Nat} {v : Value} {xs : List Int} (h : OwnInts w base v xs) {b : Nat} (hb : v.ownBlock = some b) : base ≤ b ∧ b < w.heap.size := by
  obtain ⟨_, h⟩ := h
  rcases h with ⟨rfl, _⟩ | ⟨b', cap, cur, rfl, hb', hh, _⟩
  · cases hb
  · injection hb with hb
    subst hb
    exact ⟨hb', (Blk.lt (w := w) (t := 3) (cs := cur) hh)⟩
theorem OwnInts.below {w w' : World} {base B : Nat} {v : Value} {xs : List Int} (h : OwnInts w base v xs) (hb : Below B w w') (hB : w.heap.size ≤ B) : OwnInts w' base v xs :=
  h.keep fun b he => hb.block b (by have := (h.lt he).2; omega)
theorem OwnInts.setCell {w : World} {base : Nat} {v : Value} {xs : List Int} (h : OwnInts w base v xs) {p : Addr} (hp : v.ownBlock ≠ some p.block) (u : Value) : OwnInts (w.setCell p u) base v xs :=
  h.keep fun b he => Below.heap_setCell w p u b (fun e => hp (by rw [he, e]))
theorem OwnInts.mono {w : World} {base base' : Nat} {v : Value} {xs : List Int} (h : OwnInts w base v xs) (hb : base' ≤ base) : OwnInts w base' v xs := by
  obtain ⟨hl, h⟩ := h
  refine ⟨hl, ?_⟩
  rcases h with h | ⟨b, cap, cur, rfl, hb', r⟩
  · exact .inl h
  · exact .inr ⟨b, cap, cur, rfl, by omega, r⟩
/-- A row of integers is no block of queues. -/
theorem OwnInts.ne_q {w : World} {base g : Nat} {v : Value} {xs : List Int} {l : List R4} (h : OwnInts w base v xs) (hq : QBlk w g l) : v.ownBlock ≠ some g := by
  obtain ⟨_, h⟩ := h
  rcases h with ⟨rfl, _⟩ | ⟨b', cap, cur, rfl, _, hh, _⟩
  · simp [Value.ownBlock]
  · intro he
    injection he with he
    subst he
    have hq' : w.heap[b']? = some (.cells (flat l).toArray 51 (0, 0)) := hq
    rw [hh] at hq'
    injection hq' with hq'
    injection hq' with _ h2 _
    exact absurd h2 (by decide)
/-- What is owned can be read. -/
theorem OwnInts.read {w : World} {base B : Nat} {v : Value} {xs : List Int} (h : OwnInts w base v xs) (hB : w.heap.size ≤ B) : ∃ A c, v = .slice A xs.length c ∧ xs.length ≤ c ∧ c ≤ maxLen ∧ IntsAt w B A xs := by
  obtain ⟨_, h⟩ := h
  rcases h with ⟨rfl, h0⟩ | ⟨b, cap, cur, rfl, hb, hh, hn, hm, hcs, ht⟩
  · rw [h0]
    exact ⟨none, 0, rfl, Nat.le_refl _, Nat.zero_le _, fun h => absurd h (by omega)⟩
  · refine ⟨some ⟨b, 0, none⟩, cap, rfl, hn, hm, fun _ => ⟨b, 0, rfl, by have := Blk.lt (w := w) (t := 3) (cs := cur) hh; omega, fun i x hx => ?_⟩⟩
    rw [Nat.zero_add, Blk.cell (t := 3) (cs := cur) hh]
    have hi := (List.getElem?_eq_some_iff.1 hx).1
    have h1 : (xs.map (Value.int .i64))[i]? = some (.int .i64 x) := by rw [List.getElem?_map, hx]; rfl
    rw [← ht, List.getElem?_take_of_lt (by omega)] at h1
    simpa using h1

/-- A queue's row. -/
def row (q : Qu) (v : Value) : R4 := ⟨.int .i64 q.id, .int .i64 q.qu, .int .i64 q.de, v⟩
/-- The rows of queues. -/
def rows (l : List (Qu × Value)) : List R4 := l.map fun p => row p.1 p.2
/-- Turns of their own, from block base on: a block of queues, a row of integers for each, no two one. -/
structure OwnQs (w : World) (base g : Nat) (l : List (Qu × Value)) : Prop where
  blk : QBlk w g (rows l)
  ge : base ≤ g
  own : ∀ (i : Nat) (p : Qu × Value), l[i]? = some p → OwnInts w base p.2 p.1.cs
  apart : ∀ (i j : Nat) (p q : Qu × Value), i ≠ j → l[i]? = some p → l[j]? = some q → ∀ b, p.2.ownBlock = some b → q.2.ownBlock ≠ some b
theorem OwnQs.read {w : World} {base g B : Nat} {l : List (Qu × Value)} (h : OwnQs w base g l) (hB : w.heap.size ≤ B) : QsAt w B (some ⟨g, 0, none⟩) (l.map (·.1)) := fun _ => by
  refine ⟨g, 0, rfl, by have := Blk.lt h.blk; omega, fun i q hq => ?_⟩
  rw [List.getElem?_map] at hq
  obtain ⟨p, hp, rfl⟩ := Option.map_eq_some_iff.1 hq
  have hr : (rows l)[i]? = some (row p.1 p.2) := by rw [rows, List.getElem?_map, hp]; rfl
  obtain ⟨h0, h1, h2, h3⟩ := h.blk.cells hr
  rw [Nat.zero_add]
  obtain ⟨A, c, hv, hc, hm, hi⟩ := (h.own i p hp).read hB
  exact ⟨h0, h1, h2, A, c, by rw [h3]; exact congrArg some hv, hc, hm, hi⟩
end Go.Proofs.Ytgbjhkgbjnobcaa
