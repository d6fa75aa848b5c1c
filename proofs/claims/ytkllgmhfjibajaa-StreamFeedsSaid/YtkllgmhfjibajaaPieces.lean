/- Memory: the pieces that are told; a stream's reader. Conditions: none. -/
import Derived.Test.YtkllgmhfjibajaaSPlain
namespace Go.Proofs.Ytkllgmhfjibajaa
open Go.RowKit St

abbrev PV := Pc × Value
def pcCells (p : PV) : List Value := [.int .i64 p.1.kind, p.2, .int .i64 p.1.at_, .int .i64 p.1.err]
theorem pc_len : ∀ l : List PV, (l.flatMap pcCells).length = l.length * 4
  | [] => rfl
  | p :: r => by
    rw [List.flatMap_cons, List.length_append, pc_len r]
    simp [pcCells]
    omega
theorem pc_get : ∀ (l : List PV) (i : Nat) (p : PV), l[i]? = some p → ∀ j, j < 4 → (l.flatMap pcCells)[i * 4 + j]? = (pcCells p)[j]?
  | [], _, _, h, _, _ => by simp at h
  | q :: r, 0, p, h, j, hj => by
    simp at h
    subst h
    rw [List.flatMap_cons, List.getElem?_append_left (by simp [pcCells]; omega)]
    simp
  | q :: r, i + 1, p, h, j, hj => by
    rw [List.getElem?_cons_succ] at h
    have e : (pcCells q).length = 4 := rfl
    rw [List.flatMap_cons, List.getElem?_append_right (by rw [e]; omega), e, ← pc_get r i p h j hj]
    congr 1
    omega
theorem row_keep {w w' : World} {base : Nat} {e : TypeId} {size : Nat} {v : Value} {n : Nat} {xs : List Value} (h : w.ownsRow base e size v n xs) (hk : ∀ b, v.ownBlock = some b → w'.heap[b]? = w.heap[b]?) : w'.ownsRow base e size v n xs := by
  refine ⟨h.1, ?_⟩
  rcases h.2 with hn | ⟨b, cap, cur, rfl, hb, hh, r⟩
  · exact .inl hn
  · exact .inr ⟨b, cap, cur, rfl, hb, (hk b rfl).trans hh, r⟩
theorem row_mono {w : World} {base base' : Nat} {e : TypeId} {size : Nat} {v : Value} {n : Nat} {xs : List Value} (h : w.ownsRow base e size v n xs) (hb : base' ≤ base) : w.ownsRow base' e size v n xs := by
  refine ⟨h.1, ?_⟩
  rcases h.2 with hn | ⟨b, cap, cur, rfl, hb', r⟩
  · exact .inl hn
  · exact .inr ⟨b, cap, cur, rfl, by omega, r⟩
/-- v holds the pieces l, each with a body of its own. -/
structure PL (w : World) (base : Nat) (v : Value) (l : List PV) : Prop where
  row : w.ownsRow base 57 4 v l.length (l.flatMap pcCells)
  own : ∀ (i : Nat) (p : PV), l[i]? = some p → OwnB w base p.2 p.1.body
  apart : ∀ (i j : Nat) (p q : PV), i ≠ j → l[i]? = some p → l[j]? = some q → ∀ b, p.2.ownBlock = some b → q.2.ownBlock ≠ some b
/-- The blocks that it holds. -/
def FP (v : Value) (l : List PV) (b : Nat) : Prop := v.ownBlock = some b ∨ ∃ (i : Nat) (p : PV), l[i]? = some p ∧ p.2.ownBlock = some b
section
variable {w w' : World} {base : Nat} {v : Value} {l : List PV}
theorem PL.nil (w : World) (base : Nat) : PL w base (.slice none 0 0) [] :=
  ⟨World.ownsRow_nil _ _ _ _, (by intro i p h; cases h), (by intro i j p q _ h; cases h)⟩
theorem PL.lt (h : PL w base v l) {b : Nat} (hb : FP v l b) : base ≤ b ∧ b < w.heap.size := by
  rcases hb with hb | ⟨i, p, hp, hb⟩
  · exact h.row.lt b hb
  · exact (h.own i p hp).lt hb
theorem PL.keep (h : PL w base v l) (hk : ∀ b, FP v l b → w'.heap[b]? = w.heap[b]?) : PL w' base v l :=
  ⟨row_keep h.row fun b hb => hk b (.inl hb), fun i p hp => (h.own i p hp).keep fun b hb => hk b (.inr ⟨i, p, hp, hb⟩), h.apart⟩
theorem PL.kp {S : Nat → Prop} (h : PL w base v l) (hk : Kp S w w') (hS : ∀ b, FP v l b → ¬ S b) : PL w' base v l := h.keep fun b hb => hk.block b (h.lt hb).2 (hS b hb)
theorem PL.below (h : PL w base v l) (hb : Below w.heap.size w w') : PL w' base v l := h.keep fun b hf => hb.block b (h.lt hf).2
theorem PL.mono {base' : Nat} (h : PL w base v l) (hb : base' ≤ base) : PL w base' v l := ⟨row_mono h.row hb, fun i p hp => (h.own i p hp).mono hb, h.apart⟩
theorem blk_ty {g : Nat} {t t' : TypeId} {cs cs' : Array Value} (h : Blk w g t cs) (h' : Blk w g t' cs') : t = t' := by
  unfold Blk at h h'
  rw [h] at h'
  injection h' with h'
  injection h'
/-- The row is no body. -/
theorem PL.far (h : PL w base v l) {i : Nat} {p : PV} (hp : l[i]? = some p) {b : Nat} (hb : p.2.ownBlock = some b) : v.ownBlock ≠ some b := by
  intro e
  rcases h.row.2 with ⟨rfl, _⟩ | ⟨g, cap, cur, rfl, _, hh, _⟩
  · cases e
  · injection e with e
    subst e
    exact (h.own i p hp).ne_blk (show Blk w g 57 cur from hh) (by decide) hb
theorem PL.shape (h : PL w base v l) : ∃ A c, v = .slice A l.length c ∧ l.length ≤ c ∧ c ≤ maxLen := by
  rcases h.row.2 with ⟨rfl, h0⟩ | ⟨g, cap, cur, rfl, _, _, h1, h2, _⟩
  · rw [h0]
    exact ⟨none, 0, rfl, Nat.le_refl _, Nat.zero_le _⟩
  · exact ⟨_, cap, rfl, h1, h2⟩
/-- A piece's cells. -/
theorem PL.at_ (h : PL w base v l) {k : Nat} {p : PV} (hk : l[k]? = some p) :
    ∃ g cap, v = .slice (some ⟨g, 0, none⟩) l.length cap ∧ base ≤ g ∧ g < w.heap.size ∧ w.cell? ⟨g, k * 4, none⟩ = some (.int .i64 p.1.kind) ∧ w.cell? ⟨g, k * 4 + 1, none⟩ = some p.2 ∧
      w.cell? ⟨g, k * 4 + 2, none⟩ = some (.int .i64 p.1.at_) ∧ w.cell? ⟨g, k * 4 + 3, none⟩ = some (.int .i64 p.1.err) ∧ ∀ j, w.frozen? ⟨g, j, none⟩ = false := by
  have hkl := (List.getElem?_eq_some_iff.1 hk).1
  obtain ⟨g, cap, rfl, h1, h2⟩ := h.row.form (by omega)
  refine ⟨g, cap, rfl, h1, h2, ?_, ?_, ?_, ?_, h.row.frozenAt⟩
  · rw [h.row.cellAt _ (by omega), ← Nat.add_zero (k * 4), pc_get l k p hk 0 (by omega)]
    rfl
  · rw [h.row.cellAt _ (by omega), pc_get l k p hk 1 (by omega)]
    rfl
  · rw [h.row.cellAt _ (by omega), pc_get l k p hk 2 (by omega)]
    rfl
  · rw [h.row.cellAt _ (by omega), pc_get l k p hk 3 (by omega)]
    rfl
/-- Pieces that are appended. -/
theorem PL.app {tv v' : Value} {l2 : List PV} {n : Nat} (h : PL w base v l) (h2 : PL w base tv l2) (hd : ∀ b, FP v l b → ¬ FP tv l2 b) (hr : w'.ownsRow base 57 4 v' n (l.flatMap pcCells ++ l2.flatMap pcCells)) (hn : n = l.length + l2.length)
    (hg : w.grownBy w' v.ownBlock) : PL w' base v' (l ++ l2) := by
  have hcase : ∀ (i : Nat) (p : PV), (l ++ l2)[i]? = some p → (i < l.length ∧ l[i]? = some p) ∨ (l.length ≤ i ∧ l2[i - l.length]? = some p) := fun i p hp => by
    rcases Nat.lt_or_ge i l.length with hlt | hge
    · rw [List.getElem?_append_left hlt] at hp; exact .inl ⟨hlt, hp⟩
    · rw [List.getElem?_append_right hge] at hp; exact .inr ⟨hge, hp⟩
  subst hn
  refine ⟨?_, fun i p hp => ?_, fun i j p q hij hp hq b hb hb' => ?_⟩
  · rw [List.length_append, List.flatMap_append]
    exact hr
  · rcases hcase i p hp with ⟨_, hp⟩ | ⟨_, hp⟩
    · exact (h.own i p hp).keep fun b hb => hg.block b ((h.own i p hp).lt hb).2 (fun e => h.far hp hb e.symm)
    · exact (h2.own _ p hp).keep fun b hb => hg.block b ((h2.own _ p hp).lt hb).2 (fun e => hd b (.inl e.symm) (.inr ⟨_, p, hp, hb⟩))
  · rcases hcase i p hp with ⟨_, hp⟩ | ⟨_, hp⟩
    · rcases hcase j q hq with ⟨_, hq⟩ | ⟨_, hq⟩
      · exact h.apart i j p q hij hp hq b hb hb'
      · exact hd b (.inr ⟨i, p, hp, hb⟩) (.inr ⟨_, q, hq, hb'⟩)
    · rcases hcase j q hq with ⟨_, hq⟩ | ⟨_, hq⟩
      · exact hd b (.inr ⟨j, q, hq, hb'⟩) (.inr ⟨_, p, hp, hb⟩)
      · exact h2.apart _ _ p q (by omega) hp hq b hb hb'
/-- One piece, in a block of its own. -/
theorem PL.one {tb : Nat} {p : PV} (ht : Blk w tb 57 (pcCells p).toArray) (hb : base ≤ tb) (ho : OwnB w base p.2 p.1.body) : PL w base (.slice (some ⟨tb, 0, none⟩) 1 1) [p] :=
  ⟨⟨by simp [pcCells], .inr ⟨tb, 1, _, rfl, hb, ht, Nat.le_refl _, by unfold maxLen; omega, by simp [pcCells], by simp [pcCells]⟩⟩, fun i q hq => by
      cases i with
      | zero => simp at hq; subst hq; exact ho
      | succ i => simp at hq,
    fun i j q r hij hq hr => by
      have h1 := (List.getElem?_eq_some_iff.1 hq).1
      have h2 := (List.getElem?_eq_some_iff.1 hr).1
      simp at h1 h2
      omega⟩
end
/-- A stream's reader at block g. -/
structure RD (w : World) (base g : Nat) (v : Value) (r : R) : Prop where
  blk : Blk w g 48 #[.int .i64 r.st, .int .i64 r.lim, v, .int .i64 r.len, .int .i64 r.fr]
  own : OwnB w base v r.buf
section
variable {w w' : World} {base g : Nat} {v : Value} {r : R}
theorem RD.ne (h : RD w base g v r) : v.ownBlock ≠ some g := h.own.ne_blk h.blk (by decide)
theorem RD.kp {S : Nat → Prop} (h : RD w base g v r) (hk : Kp S w w') (hg : ¬ S g) (hv : ∀ b, v.ownBlock = some b → ¬ S b) : RD w' base g v r := ⟨h.blk.kp hk hg, h.own.kp hk hv⟩
theorem RD.below (h : RD w base g v r) (hb : Below w.heap.size w w') : RD w' base g v r := ⟨h.blk.below hb h.blk.lt, h.own.below hb⟩
end
/-- What a step of a reader's leaves: the reader, the pieces that it tells. -/
structure Told (w : World) (base g : Nat) (v : Value) (w' : World) (v' : Value) (r : R) (tv : Value) (l : List PV) (ps : List Pc) : Prop where
  rd : RD w' base g v' r
  kp : Kp (fun j => j = g ∨ v.ownBlock = some j) w w'
  at_ : v'.ownBlock = v.ownBlock ∨ ∀ b, v'.ownBlock = some b → w.heap.size ≤ b
  pl : PL w' w.heap.size tv l
  ps : l.map (·.1) = ps
  far : ∀ b, FP tv l b → v'.ownBlock ≠ some b
theorem info57 : (Try.prog.info? 57).map (fun i => (i.zero, i.size, i.bytes)) = some (some (.agg #[.int .i64 0, .slice none 0 0, .int .i64 0, .int .i64 0]), 4, 48) := by kernel_rfl
end Go.Proofs.Ytkllgmhfjibajaa
