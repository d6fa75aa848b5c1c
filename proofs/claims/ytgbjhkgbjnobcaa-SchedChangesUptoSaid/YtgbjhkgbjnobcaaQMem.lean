/- Memory: turns of their own that grew by appends: an owned row of queues, a row of integers for each, no two one; what a step keeps. Conditions: none. -/
import Derived.Test.YtgbjhkgbjnobcaaRefBits
namespace Go.Proofs.Ytgbjhkgbjnobcaa
open Go.RowKit Trn

/-- All stands but the blocks of S. -/
structure Kp (S : Nat → Prop) (w w' : World) : Prop where
  os : w'.os = w.os
  tape : w'.tape = w.tape
  output : w'.output = w.output
  size : w.heap.size ≤ w'.heap.size
  block : ∀ k, k < w.heap.size → ¬ S k → w'.heap[k]? = w.heap[k]?
section
variable {S S' : Nat → Prop} {w w1 w2 : World}
theorem Kp.refl (S : Nat → Prop) (w : World) : Kp S w w := ⟨rfl, rfl, rfl, Nat.le_refl _, fun _ _ _ => rfl⟩
theorem Kp.trans (h : Kp S w w1) (k : Kp S' w1 w2) (hS : ∀ j, S' j → S j ∨ w.heap.size ≤ j) : Kp S w w2 :=
  ⟨k.os.trans h.os, k.tape.trans h.tape, k.output.trans h.output, Nat.le_trans h.size k.size, fun j hj hn => (k.block j (Nat.lt_of_lt_of_le hj h.size) (fun e => by
    rcases hS j e with h1 | h1
    · exact hn h1
    · omega)).trans (h.block j hj hn)⟩
theorem Kp.of_below (h : Below w.heap.size w w1) : Kp S w w1 := ⟨h.os, h.tape, h.output, h.size, fun j hj _ => h.block j hj⟩
theorem Kp.of_grown {row : Option Nat} (h : w.grownBy w1 row) : Kp (fun j => row = some j) w w1 := ⟨h.os, h.tape, h.output, h.size, fun j hj hn => h.block j hj (fun e => hn e.symm)⟩
theorem Kp.to_below {B : Nat} {w0 : World} (hb : Below B w0 w) (h : Kp S w w1) (hB : B ≤ w.heap.size) (hS : ∀ j, S j → B ≤ j) : Below B w0 w1 :=
  ⟨h.os.trans hb.os, h.tape.trans hb.tape, h.output.trans hb.output, Nat.le_trans hb.size h.size, fun j hj => (h.block j (by omega) (fun e => by have := hS j e; omega)).trans (hb.block j hj)⟩
end
theorem row_keep {w w' : World} {base : Nat} {e : TypeId} {size : Nat} {v : Value} {n : Nat} {xs : List Value} (h : w.ownsRow base e size v n xs) (hk : ∀ b, v.ownBlock = some b → w'.heap[b]? = w.heap[b]?) : w'.ownsRow base e size v n xs := by
  refine ⟨h.1, ?_⟩
  rcases h.2 with hn | ⟨b, cap, cur, rfl, hb, hh, r⟩
  · exact .inl hn
  · exact .inr ⟨b, cap, cur, rfl, hb, (hk b rfl).trans hh, r⟩
theorem row_shape {w : World} {base : Nat} {e : TypeId} {size : Nat} {v : Value} {n : Nat} {xs : List Value} (h : w.ownsRow base e size v n xs) : ∃ A c, v = .slice A n c ∧ n ≤ c ∧ c ≤ maxLen := by
  rcases h.2 with ⟨rfl, h0⟩ | ⟨g, cap, cur, rfl, _, _, h1, h2, _⟩
  · exact ⟨none, 0, by rw [h0], by omega, Nat.zero_le _⟩
  · exact ⟨_, _, rfl, h1, h2⟩

def quCells (p : Qu × Value) : List Value := [.int .i64 p.1.id, .int .i64 p.1.qu, .int .i64 p.1.de, p.2]
theorem flat_len4 : ∀ l : List (Qu × Value), (l.flatMap quCells).length = l.length * 4
  | [] => rfl
  | p :: r => by
    rw [List.flatMap_cons, List.length_append, flat_len4 r]
    simp [quCells]
    omega
theorem flat_get4 : ∀ (l : List (Qu × Value)) (i : Nat) (p : Qu × Value), l[i]? = some p → ∀ j, j < 4 → (l.flatMap quCells)[i * 4 + j]? = (quCells p)[j]?
  | [], _, _, h, _, _ => by simp at h
  | q :: r, 0, p, h, j, hj => by
    simp at h
    subst h
    rw [List.flatMap_cons, List.getElem?_append_left (by simp [quCells]; omega)]
    simp
  | q :: r, i + 1, p, h, j, hj => by
    rw [List.getElem?_cons_succ] at h
    have e : (quCells q).length = 4 := rfl
    rw [List.flatMap_cons, List.getElem?_append_right (by rw [e]; omega), e, ← flat_get4 r i p h j hj]
    congr 1
    omega

/-- v holds the queues l, each with its own list of costs. -/
structure GQ (w : World) (base : Nat) (v : Value) (l : List (Qu × Value)) : Prop where
  row : w.ownsRow base 51 4 v l.length (l.flatMap quCells)
  own : ∀ (i : Nat) (p : Qu × Value), l[i]? = some p → OwnInts w base p.2 p.1.cs
  far : ∀ (i : Nat) (p : Qu × Value), l[i]? = some p → ∀ b, p.2.ownBlock = some b → v.ownBlock ≠ some b
  apart : ∀ (i j : Nat) (p q : Qu × Value), i ≠ j → l[i]? = some p → l[j]? = some q → ∀ b, p.2.ownBlock = some b → q.2.ownBlock ≠ some b
/-- The blocks that it holds. -/
def Fp (v : Value) (l : List (Qu × Value)) (b : Nat) : Prop := v.ownBlock = some b ∨ ∃ (i : Nat) (p : Qu × Value), l[i]? = some p ∧ p.2.ownBlock = some b
section
variable {w w' : World} {base : Nat} {v : Value} {l : List (Qu × Value)}
theorem GQ.nil (w : World) (base : Nat) : GQ w base (.slice none 0 0) [] :=
  ⟨World.ownsRow_nil _ _ _ _, (by intro i p h; cases h), (by intro i p h; cases h), (by intro i j p q _ h; cases h)⟩
theorem GQ.lt (h : GQ w base v l) {b : Nat} (hb : Fp v l b) : base ≤ b ∧ b < w.heap.size := by
  rcases hb with hb | ⟨i, p, hp, hb⟩
  · exact h.row.lt b hb
  · exact World.ownsRow.lt (h.own i p hp) b hb
theorem GQ.keep (h : GQ w base v l) (hk : ∀ b, Fp v l b → w'.heap[b]? = w.heap[b]?) : GQ w' base v l :=
  ⟨row_keep h.row fun b hb => hk b (.inl hb), fun i p hp => row_keep (h.own i p hp) fun b hb => hk b (.inr ⟨i, p, hp, hb⟩), h.far, h.apart⟩
theorem GQ.below (h : GQ w base v l) (hb : Below w.heap.size w w') : GQ w' base v l := h.keep fun b hf => hb.block b (h.lt hf).2
theorem GQ.kp {S : Nat → Prop} (h : GQ w base v l) (hk : Kp S w w') (hS : ∀ b, Fp v l b → ¬ S b) : GQ w' base v l := h.keep fun b hf => hk.block b (h.lt hf).2 (hS b hf)
/-- It reads as queues. -/
theorem GQ.read (h : GQ w base v l) : ∃ A c, v = .slice A l.length c ∧ l.length ≤ c ∧ c ≤ maxLen ∧ QsAt w w.heap.size A (l.map (·.1)) := by
  obtain ⟨A, c, hv, h1, h2⟩ := row_shape h.row
  refine ⟨A, c, hv, h1, h2, fun h0 => ?_⟩
  rw [List.length_map] at h0
  obtain ⟨g, cap, e, _, hg⟩ := h.row.form h0
  have hrow := h.row
  rw [e] at hrow
  rw [hv] at e
  injection e with e _ _
  refine ⟨g, 0, e, hg, fun i q hq => ?_⟩
  rw [List.getElem?_map] at hq
  obtain ⟨p, hp, rfl⟩ := Option.map_eq_some_iff.1 hq
  have hi := (List.getElem?_eq_some_iff.1 hp).1
  rw [Nat.zero_add]
  obtain ⟨A', c', hs, hc, hm, hin⟩ := (h.own i p hp).read (Nat.le_refl _)
  refine ⟨?_, ?_, ?_, A', c', ?_, hc, hm, hin⟩
  · rw [hrow.cellAt _ (by omega), ← Nat.add_zero (i * 4), flat_get4 l i p hp 0 (by omega)]; rfl
  · rw [hrow.cellAt _ (by omega), flat_get4 l i p hp 1 (by omega)]; rfl
  · rw [hrow.cellAt _ (by omega), flat_get4 l i p hp 2 (by omega)]; rfl
  · rw [hrow.cellAt _ (by omega), flat_get4 l i p hp 3 (by omega)]; exact congrArg some hs
/-- A queue more, whose costs lie in a row of its own. -/
theorem GQ.add {q : Qu} {u v' : Value} {n : Nat} {w1 : World} (h : GQ w base v l) (hb : Below w.heap.size w w1) (hu : OwnInts w1 base u q.cs) (hun : ∀ b, u.ownBlock = some b → w.heap.size ≤ b)
    (hr : w'.ownsRow base 51 4 v' n (l.flatMap quCells ++ quCells (q, u))) (hn : n = l.length + 1) (hg : w1.grownBy w' v.ownBlock)
    (hat : v'.ownBlock = v.ownBlock ∨ v'.ownBlock = some w1.heap.size) : GQ w' base v' (l ++ [(q, u)]) := by
  have h1 := h.below hb
  have hcase : ∀ (i : Nat) (p : Qu × Value), (l ++ [(q, u)])[i]? = some p → (i < l.length ∧ l[i]? = some p) ∨ (i = l.length ∧ p = (q, u)) := fun i p hp => by
    rcases Nat.lt_or_ge i l.length with hlt | hge
    · rw [List.getElem?_append_left hlt] at hp; exact .inl ⟨hlt, hp⟩
    · have hl := (List.getElem?_eq_some_iff.1 hp).1
      simp at hl
      obtain rfl : i = l.length := by omega
      simp at hp
      exact .inr ⟨rfl, hp.symm⟩
  have hvu : ∀ b, u.ownBlock = some b → v.ownBlock ≠ some b := fun b hb' e => by have := hun b hb'; have := (h.lt (.inl e)).2; omega
  subst hn
  refine ⟨?_, fun i p hp => ?_, fun i p hp b hb' => ?_, fun i j p p' hij hp hq b hb' hb2 => ?_⟩
  · rw [List.length_append, List.flatMap_append]
    simpa using hr
  · rcases hcase i p hp with ⟨_, hp⟩ | ⟨_, rfl⟩
    · exact row_keep (h1.own i p hp) fun b hb' => hg.block b (World.ownsRow.lt (h1.own i p hp) b hb').2 (fun e => h.far i p hp b hb' e.symm)
    · exact row_keep hu fun b hb' => hg.block b (World.ownsRow.lt hu b hb').2 (fun e => hvu b hb' e.symm)
  · intro e
    rcases hcase i p hp with ⟨_, hp⟩ | ⟨_, rfl⟩
    · rcases hat with h2 | h2
      · exact h.far i p hp b hb' (by rw [← h2]; exact e)
      · rw [h2] at e
        injection e with e
        have := (World.ownsRow.lt (h1.own i p hp) b hb').2
        omega
    · rcases hat with h2 | h2
      · exact hvu b hb' (by rw [← h2]; exact e)
      · rw [h2] at e
        injection e with e
        have := (World.ownsRow.lt hu b hb').2
        omega
  · rcases hcase i p hp with ⟨hi, hp⟩ | ⟨hi, rfl⟩
    · rcases hcase j p' hq with ⟨_, hq⟩ | ⟨_, rfl⟩
      · exact h.apart i j p p' hij hp hq b hb' hb2
      · have := hun b hb2
        have := (h.lt (.inr ⟨i, p, hp, hb'⟩)).2
        omega
    · rcases hcase j p' hq with ⟨_, hq⟩ | ⟨hj, _⟩
      · have := hun b hb'
        have := (h.lt (.inr ⟨j, p', hq, hb2⟩)).2
        omega
      · omega
end
end Go.Proofs.Ytgbjhkgbjnobcaa
