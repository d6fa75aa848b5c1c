/- Memory: what was given to each producer, a list of lists; what a step keeps. Conditions: none. -/
import Derived.Test.YtmcahimapoddfaaOncePlain
import Derived.Test.YtmcahimapoddfaaSlices
namespace Go.Proofs.Ytmcahimapoddfaa
open Go.RowKit Go.Maps

/-- All stands but the blocks of S. -/
structure Kp (S : Nat → Prop) (w w' : World) : Prop where
  os : w'.os = w.os
  tape : w'.tape = w.tape
  output : w'.output = w.output
  size : w.heap.size ≤ w'.heap.size
  block : ∀ k, k < w.heap.size → ¬ S k → w'.heap[k]? = w.heap[k]?
section
variable {S S' : Nat → Prop} {w w1 w2 : World}
theorem Kp.refl (S : Nat → Prop) (w : World) : Kp S w w := ⟨rfl, rfl, rfl, Nat.le_refl _, fun _ _ _ => rfl⟩
theorem Kp.trans (h : Kp S w w1) (k : Kp S' w1 w2) (hS : ∀ j, S' j → S j ∨ w.heap.size ≤ j) : Kp S w w2 :=
  ⟨k.os.trans h.os, k.tape.trans h.tape, k.output.trans h.output, Nat.le_trans h.size k.size, fun j hj hn => (k.block j (Nat.lt_of_lt_of_le hj h.size) (fun e => by
    rcases hS j e with h1 | h1
    · exact hn h1
    · omega)).trans (h.block j hj hn)⟩
theorem Kp.of_below (h : Below w.heap.size w w1) : Kp S w w1 := ⟨h.os, h.tape, h.output, h.size, fun j hj _ => h.block j hj⟩
theorem Kp.of_grown {row : Option Nat} (h : w.grownBy w1 row) : Kp (fun j => row = some j) w w1 := ⟨h.os, h.tape, h.output, h.size, fun j hj hn => h.block j hj (fun e => hn e.symm)⟩
theorem Kp.mono (h : Kp S w w1) (hS : ∀ j, S j → S' j ∨ w.heap.size ≤ j) : Kp S' w w1 := (Kp.refl S' w).trans h hS
theorem Kp.to_below {B : Nat} {w0 : World} (hb : Below B w0 w) (h : Kp S w w1) (hB : B ≤ w.heap.size) (hS : ∀ j, S j → B ≤ j) : Below B w0 w1 :=
  ⟨h.os.trans hb.os, h.tape.trans hb.tape, h.output.trans hb.output, Nat.le_trans hb.size h.size, fun j hj => (h.block j (by omega) (fun e => by have := hS j e; omega)).trans (hb.block j hj)⟩
end

def OwnI (w : World) (base : Nat) (v : Value) (xs : List Int) : Prop := w.ownsRow base 2 1 v xs.length (xs.map (Value.int .i64))
def gvCells (p : Gv × Value) : List Value := [.int .i64 p.1.pid, p.2]
theorem flat_len2 : ∀ l : List (Gv × Value), (l.flatMap gvCells).length = l.length * 2
  | [] => rfl
  | p :: r => by
    rw [List.flatMap_cons, List.length_append, flat_len2 r]
    simp [gvCells]
    omega
theorem flat_get2 : ∀ (l : List (Gv × Value)) (i : Nat) (p : Gv × Value), l[i]? = some p → ∀ j, j < 2 → (l.flatMap gvCells)[i * 2 + j]? = (gvCells p)[j]?
  | [], _, _, h, _, _ => by simp at h
  | q :: r, 0, p, h, j, hj => by
    simp at h
    subst h
    rw [List.flatMap_cons, List.getElem?_append_left (by simp [gvCells]; omega)]
    simp
  | q :: r, i + 1, p, h, j, hj => by
    rw [List.getElem?_cons_succ] at h
    have e : (gvCells q).length = 2 := rfl
    rw [List.flatMap_cons, List.getElem?_append_right (by rw [e]; omega), e, ← flat_get2 r i p h j hj]
    congr 1
    omega
theorem flat_set2 : ∀ (l : List (Gv × Value)) (i : Nat) (p q : Gv × Value), l[i]? = some p → q.1.pid = p.1.pid → (l.set i q).flatMap gvCells = (l.flatMap gvCells).set (i * 2 + 1) q.2
  | [], _, _, _, h, _ => by simp at h
  | x :: r, 0, p, q, h, e => by
    simp at h
    subst h
    simp [gvCells, e]
  | x :: r, i + 1, p, q, h, e => by
    rw [List.getElem?_cons_succ] at h
    have e2 : (i + 1) * 2 + 1 = (i * 2 + 1) + 1 + 1 := by omega
    rw [List.set_cons_succ, List.flatMap_cons, List.flatMap_cons, flat_set2 r i p q h e, e2]
    simp [gvCells]

/-- v holds the list l: each producer with its own list of offsets. -/
structure GM (w : World) (base : Nat) (v : Value) (l : List (Gv × Value)) : Prop where
  row : w.ownsRow base 69 2 v l.length (l.flatMap gvCells)
  own : ∀ (i : Nat) (p : Gv × Value), l[i]? = some p → OwnI w base p.2 p.1.offs
  far : ∀ (i : Nat) (p : Gv × Value), l[i]? = some p → ∀ b, p.2.ownBlock = some b → v.ownBlock ≠ some b
  apart : ∀ (i j : Nat) (p q : Gv × Value), i ≠ j → l[i]? = some p → l[j]? = some q → ∀ b, p.2.ownBlock = some b → q.2.ownBlock ≠ some b
/-- The blocks that it holds. -/
def Fp (v : Value) (l : List (Gv × Value)) (b : Nat) : Prop := v.ownBlock = some b ∨ ∃ (i : Nat) (p : Gv × Value), l[i]? = some p ∧ p.2.ownBlock = some b
section
variable {w w' : World} {base : Nat} {v : Value} {l : List (Gv × Value)}
theorem GM.nil (w : World) (base : Nat) : GM w base (.slice none 0 0) [] :=
  ⟨World.ownsRow_nil _ _ _ _, (by intro i p h; cases h), (by intro i p h; cases h), (by intro i j p q _ h; cases h)⟩
theorem GM.lt (h : GM w base v l) {b : Nat} (hb : Fp v l b) : base ≤ b ∧ b < w.heap.size := by
  rcases hb with hb | ⟨i, p, hp, hb⟩
  · exact h.row.lt b hb
  · exact World.ownsRow.lt (h.own i p hp) b hb
theorem row_keep {w w' : World} {base : Nat} {e : TypeId} {size : Nat} {v : Value} {n : Nat} {xs : List Value} (h : w.ownsRow base e size v n xs) (hk : ∀ b, v.ownBlock = some b → w'.heap[b]? = w.heap[b]?) : w'.ownsRow base e size v n xs := by
  refine ⟨h.1, ?_⟩
  rcases h.2 with hn | ⟨b, cap, cur, rfl, hb, hh, r⟩
  · exact .inl hn
  · exact .inr ⟨b, cap, cur, rfl, hb, (hk b rfl).trans hh, r⟩
theorem GM.keep (h : GM w base v l) (hk : ∀ b, Fp v l b → w'.heap[b]? = w.heap[b]?) : GM w' base v l :=
  ⟨row_keep h.row fun b hb => hk b (.inl hb), fun i p hp => row_keep (h.own i p hp) fun b hb => hk b (.inr ⟨i, p, hp, hb⟩), h.far, h.apart⟩
theorem GM.below (h : GM w base v l) (hb : Below w.heap.size w w') : GM w' base v l := h.keep fun b hf => hb.block b (h.lt hf).2
theorem GM.grown (h : GM w base v l) {m : Nat} (hg : w.grownBy w' (some m)) (hm : m < base) : GM w' base v l :=
  h.keep fun b hf => hg.block b (h.lt hf).2 (fun e => by injection e with e; have := (h.lt hf).1; omega)
/-- A place's cells. -/
theorem GM.place (h : GM w base v l) {k : Nat} {p : Gv × Value} (hk : l[k]? = some p) :
    ∃ g cap, v = .slice (some ⟨g, 0, none⟩) l.length cap ∧ base ≤ g ∧ g < w.heap.size ∧ w.cell? ⟨g, k * 2, none⟩ = some (.int .i64 p.1.pid) ∧ w.cell? ⟨g, k * 2 + 1, none⟩ = some p.2 ∧ w.frozen? ⟨g, k * 2 + 1, none⟩ = false := by
  have hkl := (List.getElem?_eq_some_iff.1 hk).1
  obtain ⟨g, cap, rfl, h1, h2⟩ := h.row.form (by omega)
  refine ⟨g, cap, rfl, h1, h2, ?_, ?_, h.row.frozenAt _⟩
  · rw [h.row.cellAt _ (by omega), ← Nat.add_zero (k * 2), flat_get2 l k p hk 0 (by omega)]
    rfl
  · rw [h.row.cellAt _ (by omega), flat_get2 l k p hk 1 (by omega)]
    rfl
/-- A producer more, with nothing given yet. -/
theorem GM.add {pid : Int} {v' : Value} {n : Nat} (h : GM w base v l) (hr : w'.ownsRow base 69 2 v' n (l.flatMap gvCells ++ [.int .i64 pid, .slice none 0 0])) (hn : n = l.length + 1) (hg : w.grownBy w' v.ownBlock)
    (hat : v'.ownBlock = v.ownBlock ∨ v'.ownBlock = some w.heap.size) : GM w' base v' (l ++ [(⟨pid, []⟩, .slice none 0 0)]) := by
  have hcase : ∀ (i : Nat) (p : Gv × Value), (l ++ [((⟨pid, []⟩ : Gv), Value.slice none 0 0)])[i]? = some p → l[i]? = some p ∨ p = (⟨pid, []⟩, .slice none 0 0) := fun i p hp => by
    rcases Nat.lt_or_ge i l.length with hlt | hge
    · rw [List.getElem?_append_left hlt] at hp; exact .inl hp
    · rw [List.getElem?_append_right hge] at hp
      have := List.mem_of_getElem? hp
      exact .inr (by simpa using this)
  subst hn
  refine ⟨?_, fun i p hp => ?_, fun i p hp b hb => ?_, fun i j p q hij hp hq b hb hb' => ?_⟩
  · rw [List.length_append, List.flatMap_append]
    exact hr
  · rcases hcase i p hp with hp | rfl
    · exact row_keep (h.own i p hp) fun b hb => hg.block b (World.ownsRow.lt (h.own i p hp) b hb).2 (fun e => h.far i p hp b hb e.symm)
    · exact World.ownsRow_nil _ _ _ _
  · rcases hcase i p hp with hp | rfl
    · intro e
      rcases hat with h1 | h1
      · exact h.far i p hp b hb (by rw [← h1]; exact e)
      · rw [h1] at e
        injection e with e
        have := (World.ownsRow.lt (h.own i p hp) b hb).2
        omega
    · cases hb
  · rcases hcase i p hp with hp | rfl
    · rcases hcase j q hq with hq | rfl
      · exact h.apart i j p q hij hp hq b hb hb'
      · cases hb'
    · cases hb
/-- An offset more, of the producer at a place. -/
theorem GM.grow {k : Nat} {g : Gv} {u : Value} (h : GM w base v l) (hk : l[k]? = some (g, u)) {gb cap0 : Nat} (hv : v = .slice (some ⟨gb, 0, none⟩) l.length cap0) {w2 w1 : World} {o : Int} {g' cap : Nat}
    (hb : Below w.heap.size w w2) (hg : w2.grownBy w1 u.ownBlock) (ho : OwnI w1 base (.slice (some ⟨g', 0, none⟩) (g.offs.length + 1) cap) (g.offs ++ [o])) (hat : u.ownBlock = some g' ∨ g' = w2.heap.size) :
    GM (w1.setCell ⟨gb, k * 2 + 1, none⟩ (.slice (some ⟨g', 0, none⟩) (g.offs.length + 1) cap)) base v (l.set k (⟨g.pid, g.offs ++ [o]⟩, .slice (some ⟨g', 0, none⟩) (g.offs.length + 1) cap)) ∧
    Kp (Fp v l) w (w1.setCell ⟨gb, k * 2 + 1, none⟩ (.slice (some ⟨g', 0, none⟩) (g.offs.length + 1) cap)) ∧
    ∀ j, Fp v (l.set k (⟨g.pid, g.offs ++ [o]⟩, .slice (some ⟨g', 0, none⟩) (g.offs.length + 1) cap)) j → Fp v l j ∨ w.heap.size ≤ j := by
  have hkl := (List.getElem?_eq_some_iff.1 hk).1
  have hvb : v.ownBlock = some gb := by rw [hv]; rfl
  have hgb := h.lt (.inl hvb)
  have hsz := hb.size
  have hug : u.ownBlock ≠ some gb := fun e => h.far k _ hk gb e hvb
  have hgn : g' ≠ gb := fun e => by
    rcases hat with h1 | h1
    · exact hug (by rw [h1, e])
    · omega
  have hcase : ∀ (i : Nat) (p : Gv × Value), (l.set k (⟨g.pid, g.offs ++ [o]⟩, Value.slice (some ⟨g', 0, none⟩) (g.offs.length + 1) cap))[i]? = some p →
      (i = k ∧ p = (⟨g.pid, g.offs ++ [o]⟩, .slice (some ⟨g', 0, none⟩) (g.offs.length + 1) cap)) ∨ (i ≠ k ∧ l[i]? = some p) := fun i p hp => by
    by_cases hi : i = k
    · subst hi
      rw [List.getElem?_set_self hkl] at hp
      injection hp with hp
      exact .inl ⟨rfl, hp.symm⟩
    · rw [List.getElem?_set_ne (Ne.symm hi)] at hp
      exact .inr ⟨hi, hp⟩
  -- a block of another row is not the new one
  have hoth : ∀ (i : Nat) (p : Gv × Value), i ≠ k → l[i]? = some p → ∀ b, p.2.ownBlock = some b → b ≠ g' ∧ u.ownBlock ≠ some b := fun i p hi hp b hpb => by
    have h1 : u.ownBlock ≠ some b := fun e => h.apart i k p (g, u) hi hp hk b hpb e
    refine ⟨fun e => ?_, h1⟩
    rcases hat with h2 | h2
    · exact h1 (by rw [h2, e])
    · have := (h.lt (.inr ⟨i, p, hp, hpb⟩)).2
      omega
  have hrow1 : w1.ownsRow base 69 2 v l.length (l.flatMap gvCells) := row_keep (row_keep h.row fun b hq => hb.block b (by have := (h.lt (.inl hq)).2; omega)) fun b hq => by
    rw [hvb] at hq
    injection hq with hq
    subst hq
    exact hg.block gb (by omega) (fun e => hug e.symm)
  refine ⟨⟨?_, fun i p hp => ?_, fun i p hp b hpb => ?_, fun i j p q hij hp hq b hpb hqb => ?_⟩, ⟨?_, ?_, ?_, ?_, fun j hj hn => ?_⟩, fun j hj => ?_⟩
  · rw [List.length_set, flat_set2 l k (g, u) (⟨g.pid, g.offs ++ [o]⟩, .slice (some ⟨g', 0, none⟩) (g.offs.length + 1) cap) hk rfl]
    subst hv
    exact (hrow1.stored (k * 2 + 1) _).1
  · rcases hcase i p hp with ⟨_, rfl⟩ | ⟨hi, hp⟩
    · have := row_keep (w' := w1.setCell ⟨gb, k * 2 + 1, none⟩ (.slice (some ⟨g', 0, none⟩) (g.offs.length + 1) cap)) ho (fun b hb' => by
        have e : some g' = some b := hb'
        injection e with e
        exact Below.heap_setCell _ _ _ b (by show b ≠ gb; omega))
      unfold OwnI
      rw [List.length_append]
      simpa using this
    · refine row_keep (h.own i p hp) fun b hpb => ?_
      have hlt := (h.lt (.inr ⟨i, p, hp, hpb⟩)).2
      rw [Below.heap_setCell _ _ _ b (by show b ≠ gb; intro e; subst e; exact h.far i p hp b hpb hvb), hg.block b (by omega) (fun e => (hoth i p hi hp b hpb).2 e.symm), hb.block b hlt]
  · rcases hcase i p hp with ⟨_, rfl⟩ | ⟨hi, hp⟩
    · have e : some g' = some b := hpb
      injection e with e
      subst e
      rw [hvb]
      intro e
      injection e with e
      exact hgn e.symm
    · exact h.far i p hp b hpb
  · rcases hcase i p hp with ⟨rfl, rfl⟩ | ⟨hi, hp2⟩ <;> rcases hcase j q hq with ⟨rfl, rfl⟩ | ⟨hj, hq2⟩
    · exact hij rfl
    · have e : some g' = some b := hpb
      injection e with e
      exact (hoth j q hj hq2 b hqb).1 e.symm
    · have e : some g' = some b := hqb
      injection e with e
      exact (hoth i p hi hp2 b hpb).1 e.symm
    · exact h.apart i j p q hij hp2 hq2 b hpb hqb
  · exact hg.os.trans hb.os
  · exact hg.tape.trans hb.tape
  · exact hg.output.trans hb.output
  · have := hg.size; simp; omega
  · rw [Below.heap_setCell _ _ _ j (by show j ≠ gb; intro e; subst e; exact hn (.inl hvb)), hg.block j (by omega) (fun e => hn (.inr ⟨k, _, hk, e.symm⟩)), hb.block j hj]
  · rcases hj with hj | ⟨i, p, hp, hpb⟩
    · exact .inl (.inl hj)
    · rcases hcase i p hp with ⟨_, rfl⟩ | ⟨hi, hp⟩
      · have e : some g' = some j := hpb
        injection e with e
        subst e
        rcases hat with h1 | h1
        · exact .inl (.inr ⟨k, _, hk, h1⟩)
        · exact .inr (by omega)
      · exact .inl (.inr ⟨i, p, hp, hpb⟩)
end
end Go.Proofs.Ytmcahimapoddfaa
