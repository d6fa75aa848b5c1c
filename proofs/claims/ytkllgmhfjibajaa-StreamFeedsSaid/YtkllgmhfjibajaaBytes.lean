/- Memory: bytes that are read, bytes that are owned, what a step keeps. Conditions: none. -/
import Derived.Test.YtkllgmhfjibajaaMem
namespace Go.Proofs.Ytkllgmhfjibajaa
open Go.RowKit

/-- All stands but the blocks of S. -/
structure Kp (S : Nat → Prop) (w w' : World) : Prop where
  os : w'.os = w.os
  tape : w'.tape = w.tape
  output : w'.output = w.output
  size : w.heap.size ≤ w'.heap.size
  block : ∀ k, k < w.heap.size → ¬ S k → w'.heap[k]? = w.heap[k]?
section
variable {S S' : Nat → Prop} {w w1 w2 : World}
theorem Kp.refl (S : Nat → Prop) (w : World) : Kp S w w := ⟨rfl, rfl, rfl, Nat.le_refl _, fun _ _ _ => rfl⟩
theorem Kp.trans (h : Kp S w w1) (k : Kp S' w1 w2) (hS : ∀ j, S' j → S j ∨ w.heap.size ≤ j) : Kp S w w2 :=
  ⟨k.os.trans h.os, k.tape.trans h.tape, k.output.trans h.output, Nat.le_trans h.size k.size, fun j hj hn => (k.block j (Nat.lt_of_lt_of_le hj h.size) (fun e => by
    rcases hS j e with h1 | h1
    · exact hn h1
    · omega)).trans (h.block j hj hn)⟩
theorem Kp.of_below (h : Below w.heap.size w w1) : Kp S w w1 := ⟨h.os, h.tape, h.output, h.size, fun j hj _ => h.block j hj⟩
theorem Kp.of_grown {row : Option Nat} (h : w.grownBy w1 row) : Kp (fun j => row = some j) w w1 := ⟨h.os, h.tape, h.output, h.size, fun j hj hn => h.block j hj (fun e => hn e.symm)⟩
theorem Kp.mono (h : Kp S w w1) (hS : ∀ j, S j → S' j ∨ w.heap.size ≤ j) : Kp S' w w1 := (Kp.refl S' w).trans h hS
theorem Kp.to_below {B : Nat} {w0 : World} (hb : Below B w0 w) (h : Kp S w w1) (hB : B ≤ w.heap.size) (hS : ∀ j, S j → B ≤ j) : Below B w0 w1 :=
  ⟨h.os.trans hb.os, h.tape.trans hb.tape, h.output.trans hb.output, Nat.le_trans hb.size h.size, fun j hj => (h.block j (by omega) (fun e => by have := hS j e; omega)).trans (hb.block j hj)⟩
theorem Kp.set_ (S : Nat → Prop) (w : World) {p : Addr} (hp : S p.block) (u : Value) : Kp S w (w.setCell p u) :=
  ⟨rfl, rfl, rfl, by simp [World.setCell], fun k _ hn => Below.heap_setCell w p u k (fun e => hn (e ▸ hp))⟩
theorem Kp.drewN (S : Nat → Prop) (w : World) (n : Nat) : Kp S w (w.drewN n) := ⟨rfl, rfl, rfl, Nat.le_refl _, fun _ _ _ => rfl⟩
theorem Kp.drew (S : Nat → Prop) (w : World) : Kp S w w.drew := ⟨rfl, rfl, rfl, Nat.le_refl _, fun _ _ _ => rfl⟩
theorem Kp.alloc (S : Nat → Prop) (w : World) (o : Obj) : Kp S w (w.alloc o) := .of_below ((Below.refl _ _).alloc (Nat.le_refl _) o)
theorem Blk.kp {g : Nat} {t : TypeId} {cs : Array Value} (h : Blk w g t cs) (hk : Kp S w w1) (hg : ¬ S g) : Blk w1 g t cs := (hk.block g h.lt hg).trans h
end

/-- Bytes behind an address. -/
def BytesAt (w : World) (A : Option Addr) (xs : List Int) : Prop :=
  0 < xs.length → ∃ b o, A = some ⟨b, o, none⟩ ∧ b < w.heap.size ∧ ∀ i x, xs[i]? = some x → w.cell? ⟨b, o + i, none⟩ = some (.int .u8 x)
/-- The address is not in a block of S. -/
def Off (S : Nat → Prop) (A : Option Addr) : Prop := ∀ a, A = some a → ¬ S a.block
def Byt (xs : List Int) : Prop := ∀ x ∈ xs, 0 ≤ x ∧ x < 256
section
variable {S : Nat → Prop} {w w' : World} {A : Option Addr} {xs : List Int}
theorem BytesAt.kp (h : BytesAt w A xs) (hk : Kp S w w') (hA : Off S A) : BytesAt w' A xs := fun h0 => by
  obtain ⟨b, o, e, hlt, hc⟩ := h h0
  refine ⟨b, o, e, Nat.lt_of_lt_of_le hlt hk.size, fun i x hx => ?_⟩
  have hb := hk.block b hlt (hA _ e)
  rw [← hc i x hx]
  unfold World.cell?
  simp only [hb]
theorem BytesAt.below (h : BytesAt w A xs) (hb : Below w.heap.size w w') : BytesAt w' A xs := h.kp (S := fun _ => False) (.of_below hb) fun _ _ h => h
theorem BytesAt.at_ (h : BytesAt w A xs) {i : Nat} (hi : i < xs.length) : ∃ b o x, A = some ⟨b, o, none⟩ ∧ b < w.heap.size ∧ xs[i]? = some x ∧ w.cell? ⟨b, o + i, none⟩ = some (.int .u8 x) := by
  obtain ⟨b, o, e, hlt, hc⟩ := h (by omega)
  exact ⟨b, o, xs[i], e, hlt, List.getElem?_eq_getElem hi, hc i _ (List.getElem?_eq_getElem hi)⟩
theorem BytesAt.news {ad : Addr} (h : BytesAt w (some ad) xs) : ∀ j u, (xs.map (Value.int .u8))[j]? = some u → w.cell? (ad.add j) = some u := by
  intro j u hu
  rw [List.getElem?_map] at hu
  obtain ⟨x, hx, rfl⟩ := Option.map_eq_some_iff.1 hu
  obtain ⟨b, o, e, _, hc⟩ := h (by have := (List.getElem?_eq_some_iff.1 hx).1; omega)
  injection e with e
  subst e
  rw [Go.WideShapes.add_plain]
  exact hc j x hx
end
/-- A slice value that owns the bytes xs, in blocks from base on. -/
def OwnB (w : World) (base : Nat) (v : Value) (xs : List Int) : Prop := w.ownsRow base 5 1 v xs.length (xs.map (Value.int .u8))
section
variable {w w' : World} {base : Nat} {v : Value} {xs : List Int}
theorem OwnB.nil (w : World) (base : Nat) : OwnB w base (.slice none 0 0) [] := World.ownsRow_nil _ _ 5 1
theorem OwnB.keep (h : OwnB w base v xs) (hk : ∀ b, v.ownBlock = some b → w'.heap[b]? = w.heap[b]?) : OwnB w' base v xs := by
  obtain ⟨hl, h⟩ := h
  refine ⟨hl, ?_⟩
  rcases h with h | ⟨b, cap, cur, rfl, hb, hh, r⟩
  · exact .inl h
  · exact .inr ⟨b, cap, cur, rfl, hb, (hk b rfl).trans hh, r⟩
theorem OwnB.lt (h : OwnB w base v xs) {b : Nat} (hb : v.ownBlock = some b) : base ≤ b ∧ b < w.heap.size := by
  obtain ⟨_, h⟩ := h
  rcases h with ⟨rfl, _⟩ | ⟨b', cap, cur, rfl, hb', hh, _⟩
  · cases hb
  · injection hb with hb
    subst hb
    exact ⟨hb', (Blk.lt (w := w) (t := 5) (cs := cur) hh)⟩
theorem OwnB.kp {S : Nat → Prop} (h : OwnB w base v xs) (hk : Kp S w w') (hS : ∀ b, v.ownBlock = some b → ¬ S b) : OwnB w' base v xs :=
  h.keep fun b hb => hk.block b (h.lt hb).2 (hS b hb)
theorem OwnB.below (h : OwnB w base v xs) (hb : Below w.heap.size w w') : OwnB w' base v xs := h.keep fun b he => hb.block b (h.lt he).2
theorem OwnB.mono {base' : Nat} (h : OwnB w base v xs) (hb : base' ≤ base) : OwnB w base' v xs := by
  obtain ⟨hl, h⟩ := h
  refine ⟨hl, ?_⟩
  rcases h with h | ⟨b, cap, cur, rfl, hb', r⟩
  · exact .inl h
  · exact .inr ⟨b, cap, cur, rfl, by omega, r⟩
theorem OwnB.read (h : OwnB w base v xs) : ∃ A c, v = .slice A xs.length c ∧ xs.length ≤ c ∧ c ≤ maxLen ∧ BytesAt w A xs ∧ (∀ a, A = some a → v.ownBlock = some a.block) := by
  obtain ⟨_, h⟩ := h
  rcases h with ⟨rfl, h0⟩ | ⟨b, cap, cur, rfl, hb, hh, hn, hm, hcs, ht⟩
  · rw [h0]
    exact ⟨none, 0, rfl, Nat.le_refl _, Nat.zero_le _, fun h => absurd h (by omega), fun a e => by cases e⟩
  · refine ⟨some ⟨b, 0, none⟩, cap, rfl, hn, hm, fun _ => ⟨b, 0, rfl, Blk.lt (w := w) (t := 5) (cs := cur) hh, fun i x hx => ?_⟩, fun a e => by injection e with e; subst e; rfl⟩
    rw [Nat.zero_add, Blk.cell (t := 5) (cs := cur) hh]
    have hi := (List.getElem?_eq_some_iff.1 hx).1
    have h1 : (xs.map (Value.int .u8))[i]? = some (.int .u8 x) := by rw [List.getElem?_map, hx]; rfl
    rw [← ht, List.getElem?_take_of_lt (by omega)] at h1
    simpa using h1
/-- It is emptied, and keeps its room. -/
theorem OwnB.empty {A : Option Addr} {n c : Nat} (h : OwnB w base (.slice A n c) xs) : OwnB w base (.slice A 0 c) [] := by
  obtain ⟨_, h⟩ := h
  refine ⟨rfl, ?_⟩
  rcases h with ⟨e, h0⟩ | ⟨b, cap, cur, e, hb, hh, hn, hm, hcs, ht⟩
  · injection e with e1 e2 e3
    subst e1 e3
    exact .inl ⟨rfl, rfl⟩
  · injection e with e1 e2 e3
    subst e1 e3
    exact .inr ⟨b, c, cur, rfl, hb, hh, Nat.zero_le _, hm, hcs, rfl⟩
theorem OwnB.ne_blk {x : Nat} {ty : TypeId} {cs : Array Value} (h : OwnB w base v xs) (hx : Blk w x ty cs) (ht : ty ≠ 5) : v.ownBlock ≠ some x := by
  obtain ⟨_, h⟩ := h
  rcases h with ⟨rfl, _⟩ | ⟨b', cap, cur, rfl, _, hh, _⟩
  · simp [Value.ownBlock]
  · intro e
    injection e with e
    subst e
    have hh' : w.heap[b']? = some (.cells cur 5 (0, 0)) := hh
    unfold Blk at hx
    rw [hx] at hh'
    injection hh' with hh'
    injection hh' with _ e2
    exact ht e2
end
theorem info5 : (Try.prog.info? 5).map (fun i => (i.zero, i.size, i.bytes)) = some (some (.int .u8 0), 1, 1) := by kernel_rfl
end Go.Proofs.Ytkllgmhfjibajaa
