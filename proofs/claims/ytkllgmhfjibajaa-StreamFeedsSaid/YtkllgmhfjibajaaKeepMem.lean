/- Memory: what the law's keep does to a row of pieces and to the shelf. Conditions: none. -/
import Derived.Test.YtkllgmhfjibajaaAppKeep
namespace Go.Proofs.Ytkllgmhfjibajaa
open Go.RowKit St
/-- A piece that has been taken. -/
def blank : PV := (⟨-1, [], 0, 0⟩, .slice none 0 0)
theorem pc_set : ∀ (l : List PV) (i : Nat) (q : PV), i < l.length → ((((l.flatMap pcCells).set (i * 4) (.int .i64 q.1.kind)).set (i * 4 + 1) q.2).set (i * 4 + 2) (.int .i64 q.1.at_)).set (i * 4 + 3) (.int .i64 q.1.err) = (l.set i q).flatMap pcCells
  | [], i, q, h => by simp at h
  | p :: r, 0, q, _ => by
    simp [pcCells]
  | p :: r, i + 1, q, h => by
    have ih := pc_set r i q (by simpa using h)
    have e : (p :: r).flatMap pcCells = pcCells p ++ r.flatMap pcCells := rfl
    have el : (pcCells p).length = 4 := rfl
    have hset : ∀ (ys : List Value) (j : Nat) (v : Value), (pcCells p ++ ys).set ((i + 1) * 4 + j) v = pcCells p ++ ys.set (i * 4 + j) v := fun ys j v => by
      rw [List.set_append_right (h := by rw [el]; omega), el]
      congr 2
      omega
    rw [e]
    have h0 := hset (r.flatMap pcCells) 0 (.int .i64 q.1.kind)
    rw [Nat.add_zero, Nat.add_zero (i * 4)] at h0
    rw [h0, hset, hset, hset, ih]
    rfl
theorem pl_set {w : World} {base tb n cap : Nat} {qs : List PV} (h : PL w base (.slice (some ⟨tb, 0, none⟩) n cap) qs) (hn : n = qs.length) {i : Nat} (hi : i < qs.length) :
    PL ((((w.setCell ⟨tb, i * 4, none⟩ (.int .i64 (-1))).setCell ⟨tb, i * 4 + 1, none⟩ (.slice none 0 0)).setCell ⟨tb, i * 4 + 2, none⟩ (.int .i64 0)).setCell ⟨tb, i * 4 + 3, none⟩ (.int .i64 0)) base (.slice (some ⟨tb, 0, none⟩) n cap) (qs.set i blank) := by
  subst hn
  have h1 := (World.ownsRow.stored h.row (i * 4) (.int .i64 (-1))).1
  have h2 := (World.ownsRow.stored h1 (i * 4 + 1) (.slice none 0 0)).1
  have h3 := (World.ownsRow.stored h2 (i * 4 + 2) (.int .i64 0)).1
  have h4 := (World.ownsRow.stored h3 (i * 4 + 3) (.int .i64 0)).1
  have hp : ((((qs.flatMap pcCells).set (i * 4) (.int .i64 (-1))).set (i * 4 + 1) (.slice none 0 0)).set (i * 4 + 2) (.int .i64 0)).set (i * 4 + 3) (.int .i64 0) = (qs.set i blank).flatMap pcCells := pc_set qs i blank hi
  rw [hp] at h4
  have hcase : ∀ (j : Nat) (p : PV), (qs.set i blank)[j]? = some p → p = blank ∨ qs[j]? = some p := fun j p hp => by
    by_cases hij : i = j
    · subst hij
      rw [List.getElem?_set_self hi] at hp
      exact .inl (Option.some.inj hp).symm
    · rw [List.getElem?_set_ne hij] at hp
      exact .inr hp
  refine ⟨by rw [List.length_set]; exact h4, fun j p hp => ?_, fun j k p q hjk hp hq b hb hb' => ?_⟩
  · rcases hcase j p hp with rfl | hp
    · exact OwnB.nil _ _
    · have hne : ∀ b, p.2.ownBlock = some b → b ≠ tb := fun b hb e => h.far hp hb (by rw [e]; rfl)
      refine (h.own j p hp).keep fun b hb => ?_
      rw [Below.heap_setCell _ _ _ b (hne b hb), Below.heap_setCell _ _ _ b (hne b hb), Below.heap_setCell _ _ _ b (hne b hb), Below.heap_setCell _ _ _ b (hne b hb)]
  · rcases hcase j p hp with rfl | hp
    · cases hb
    · rcases hcase k q hq with rfl | hq
      · cases hb'
      · exact h.apart j k p q hjk hp hq b hb hb'
theorem OwnB.setU {w : World} {base g n cap : Nat} {xs : List Int} (h : OwnB w base (.slice (some ⟨g, 0, none⟩) n cap) xs) (hn : n = xs.length) (k : Nat) (x : Int) : OwnB (w.setCell ⟨g, k, none⟩ (.int .u8 x)) base (.slice (some ⟨g, 0, none⟩) n cap) (xs.set k x) := by
  subst hn
  have h1 := (World.ownsRow.stored h k (.int .u8 x)).1
  show World.ownsRow _ base 5 1 _ _ _
  rw [List.length_set, List.map_set]
  exact h1
/-- What keep leaves of pieces of which i have been taken. -/
def left_ (ps : List PV) (i : Nat) : List PV := List.replicate i blank ++ ps.drop i
theorem left_len (ps : List PV) {i : Nat} (h : i ≤ ps.length) : (left_ ps i).length = ps.length := by simp [left_]; omega
theorem left_at (ps : List PV) {i j : Nat} (h : i ≤ j) : (left_ ps i)[j]? = ps[j]? := by
  unfold left_
  rw [List.getElem?_append_right (by simpa using h), List.length_replicate, List.getElem?_drop]
  congr 1
  omega
theorem left_next (ps : List PV) {i : Nat} (h : i < ps.length) : (left_ ps i).set i blank = left_ ps (i + 1) := by
  unfold left_
  rw [List.set_append_right (h := by simp), List.length_replicate, Nat.sub_self, List.drop_eq_getElem_cons h, List.set_cons_zero, List.replicate_succ', List.append_assoc]
  rfl
theorem left_fp {v : Value} {ps : List PV} {i : Nat} {b : Nat} (h : FP v (left_ ps i) b) : FP v ps b := by
  rcases h with h | ⟨j, p, hp, hb⟩
  · exact .inl h
  · rcases Nat.lt_or_ge j i with hlt | hge
    · unfold left_ at hp
      rw [List.getElem?_append_left (by simpa using hlt), List.getElem?_replicate, if_pos hlt] at hp
      injection hp with hp
      subst hp
      cases hb
    · rw [left_at ps hge] at hp
      exact .inr ⟨j, p, hp, hb⟩
/-- The bodies that have been taken. -/
def taken (ps : List PV) (i : Nat) : List (Nat × Value) := (ps.take i).map fun p => (p.1.body.length, p.2)
theorem taken_next {ps : List PV} {i : Nat} {p : PV} (h : ps[i]? = some p) : taken ps (i + 1) = taken ps i ++ [(p.1.body.length, p.2)] := by
  unfold taken
  rw [List.take_add_one, h, List.map_append]
  rfl
theorem taken_len (ps : List PV) {i : Nat} (h : i ≤ ps.length) : (taken ps i).length = i := by
  unfold taken
  rw [List.length_map, List.length_take]
  omega
/-- The state of keep. -/
structure KS (w wx : World) (base g : Nat) (sv0 sv tv : Value) (l : List (Nat × Value)) (ps : List PV) (i : Nat) : Prop where
  sh : SH wx base g sv (l ++ taken ps i)
  pl : PL wx base tv (left_ ps i)
  kp : Kp (fun j => j = g ∨ sv0.ownBlock = some j ∨ FP tv ps j) w wx
  sva : sv.ownBlock = sv0.ownBlock ∨ ∀ b, sv.ownBlock = some b → w.heap.size ≤ b
  apart : ∀ (n : Nat) (p : Nat × Value), (l ++ taken ps i)[n]? = some p → ∀ b, p.2.ownBlock = some b → sv.ownBlock ≠ some b ∧ b ≠ g ∧ tv.ownBlock ≠ some b ∧ ∀ (j : Nat) (q : PV), i ≤ j → ps[j]? = some q → q.2.ownBlock ≠ some b
end Go.Proofs.Ytkllgmhfjibajaa
