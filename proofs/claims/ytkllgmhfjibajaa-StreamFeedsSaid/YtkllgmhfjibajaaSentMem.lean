/- Memory: lists of bytes that are read, lists of such that are owned; what the law's 'sent' has gathered. Conditions: none. -/
import Derived.Test.YtkllgmhfjibajaaFeed
import Derived.Test.YtkllgmhfjibajaaSpoiltPlain
namespace Go.Proofs.Ytkllgmhfjibajaa
open Go.RowKit St
abbrev BV := List Int × Value
/-- A value that reads as bytes. -/
def Sl (w : World) (v : Value) (xs : List Int) : Prop := ∃ A c, v = .slice A xs.length c ∧ xs.length ≤ c ∧ c ≤ maxLen ∧ BytesAt w A xs
/-- A list of slices that is owned. -/
def OwnS (w : World) (base : Nat) (v : Value) (l : List Value) : Prop := w.ownsRow base 22 1 v l.length l
/-- Lists of bytes that are read. -/
structure Rows2 (w : World) (A : Option Addr) (l : List BV) : Prop where
  at_ : 0 < l.length → ∃ b o, A = some ⟨b, o, none⟩ ∧ b < w.heap.size ∧ ∀ i p, l[i]? = some p → w.cell? ⟨b, o + i, none⟩ = some p.2
  sl : ∀ p ∈ l, Sl w p.2 p.1
  byt : ∀ p ∈ l, Byt p.1
section
variable {w w' : World} {base : Nat} {v v' : Value} {A : Option Addr} {l : List BV} {xs : List Int}
theorem Sl.below (h : Sl w v xs) (hb : Below w.heap.size w w') : Sl w' v xs := by
  obtain ⟨A, c, e, h1, h2, h3⟩ := h
  exact ⟨A, c, e, h1, h2, h3.below hb⟩
theorem Rows2.below (h : Rows2 w A l) (hb : Below w.heap.size w w') : Rows2 w' A l := ⟨fun h0 => by
  obtain ⟨b, o, e, hlt, hc⟩ := h.at_ h0
  exact ⟨b, o, e, Nat.lt_of_lt_of_le hlt hb.size, fun i p hp => (hb.cell (p := ⟨b, o + i, none⟩) hlt).trans (hc i p hp)⟩, fun p hp => (h.sl p hp).below hb, h.byt⟩
theorem Rows2.get (h : Rows2 w A l) {i : Nat} (hi : i < l.length) : ∃ b o p Ai ci, A = some ⟨b, o, none⟩ ∧ b < w.heap.size ∧ l[i]? = some p ∧ w.cell? ⟨b, o + i, none⟩ = some (.slice Ai p.1.length ci) ∧ p.2 = .slice Ai p.1.length ci ∧ p.1.length ≤ ci ∧ ci ≤ maxLen ∧ BytesAt w Ai p.1 ∧ Byt p.1 := by
  obtain ⟨b, o, e, hlt, hc⟩ := h.at_ (by omega)
  have hp : l[i]? = some l[i] := List.getElem?_eq_getElem hi
  obtain ⟨Ai, ci, e2, h1, h2, h3⟩ := h.sl _ (List.getElem_mem hi)
  exact ⟨b, o, l[i], Ai, ci, e, hlt, hp, by rw [hc i _ hp, e2], e2, h1, h2, h3, h.byt _ (List.getElem_mem hi)⟩
theorem own_apart {e e' : TypeId} {s s' n n' : Nat} {base' : Nat} {ys ys' : List Value} (h : w.ownsRow base e s v n ys) (h' : w.ownsRow base' e' s' v' n' ys') (hne : e ≠ e') {b : Nat} (hb : v.ownBlock = some b) : v'.ownBlock ≠ some b := by
  intro hb'
  rcases h.2 with ⟨rfl, _⟩ | ⟨g, cap, cur, rfl, _, hh, _⟩
  · cases hb
  · injection hb with hb
    simp only at hb
    subst hb
    rcases h'.2 with ⟨rfl, _⟩ | ⟨g', cap', cur', rfl, _, hh', _⟩
    · cases hb'
    · injection hb' with hb'
      simp only at hb'
      subst hb'
      have h1 : w.heap[g']? = some (.cells cur e (0, 0)) := hh
      have h2 : w.heap[g']? = some (.cells cur' e' (0, 0)) := hh'
      rw [h1] at h2
      injection h2 with h2
      injection h2 with _ h3
      exact hne h3
theorem own_below {e : TypeId} {s n : Nat} {ys : List Value} (h : w.ownsRow base e s v n ys) (hb : Below w.heap.size w w') : w'.ownsRow base e s v n ys := row_keep h fun b he => hb.block b (h.lt b he).2
theorem own_grown {e : TypeId} {s n : Nat} {ys : List Value} {row : Option Nat} (h : w.ownsRow base e s v n ys) (hg : w.grownBy w' row) (hne : ∀ b, v.ownBlock = some b → row ≠ some b) : w'.ownsRow base e s v n ys := row_keep h fun b he => hg.block b (h.lt b he).2 (fun e2 => hne b he e2.symm)
theorem own_shape {e : TypeId} {n : Nat} {ys : List Value} (h : w.ownsRow base e 1 v n ys) : ∃ A c, v = .slice A n c ∧ n ≤ c ∧ c ≤ maxLen := by
  rcases h.2 with ⟨rfl, h0⟩ | ⟨g, cap, cur, rfl, _, _, h1, h2, _⟩
  · exact ⟨none, 0, by rw [h0], by omega, by unfold maxLen; omega⟩
  · exact ⟨_, cap, rfl, h1, h2⟩
end
theorem info22 : (Try.prog.info? 22).map (fun i => (i.zero, i.size, i.bytes)) = some (some (.slice none 0 0), 1, 24) := by kernel_rfl
/-- An append of an integer. -/
theorem wpList_appI {w : World} {ops : Array Oper} {rest : List Oper} {o : Oper} {a : Act} {Q : Exit → Act → World → Prop} (hgd : o.guard = none) (s x : Operand)
    (ho : o.op = .call { callee := .builtin .append, args := #[s, x], argTypes := #[49, 49] })
    {base : Nat} {v : Value} {xs : List Int} (hs : a.eval s = v) (hown : OwnInts w base v xs) (g0 : Nat) (y : Int) (c : Nat) (hx : a.eval x = .slice (some ⟨g0, 0, none⟩) 1 c) (hg0 : w.cell? ⟨g0, 0, none⟩ = some (.int .i64 y))
    (hlen : xs.length + 1 ≤ 17592186044416) (hbase : base ≤ w.heap.size)
    (h : ∀ g cap w', OwnInts w' base (.slice (some ⟨g, 0, none⟩) (xs.length + 1) cap) (xs ++ [y]) → w.grownBy w' v.ownBlock → (v.ownBlock = some g ∨ g = w.heap.size) → g < w'.heap.size →
      wpList Try.prog ops Q rest (a.put o.dst (.slice (some ⟨g, 0, none⟩) (xs.length + 1) cap)) w') : wpList Try.prog ops Q (o :: rest) a w := by
  obtain ⟨i0, hi, hz0, hz1, hz2⟩ : ∃ i, Try.prog.info? 3 = some i ∧ i.zero = some (.int .i64 0) ∧ i.size = 1 ∧ i.bytes = 8 := by
    have h := info3
    cases hh : Try.prog.info? 3 with
    | none => rw [hh] at h; cases h
    | some i => rw [hh] at h; simp at h; exact ⟨i, rfl, h⟩
  refine wpList_append_lies w hgd s x 49 ho base 3 i0 (.int .i64 0) 1 8 Try.underlying49 hi hz0 hz1 hz2 rfl (by decide) v xs.length (xs.map (Value.int .i64)) hs hown _ 1 c [.int .i64 y] hx rfl (fun j u hu => ?_) (fun u hu => ?_) (by decide) (by unfold maxLen; omega) (by omega) hbase w.heap.size rfl fun g cap w' h1 h2 h3 h4 => h g cap w' ?_ h2 h3 h4
  · cases j with
    | zero => simp at hu; subst hu; exact hg0
    | succ j => simp at hu
  · simp at hu; subst hu; rfl
  · show w'.ownsRow base 3 1 _ _ _
    rw [List.length_append, List.map_append]
    exact h1
/-- An append of a slice. -/
theorem wpList_appS {w : World} {ops : Array Oper} {rest : List Oper} {o : Oper} {a : Act} {Q : Exit → Act → World → Prop} (hgd : o.guard = none) (s x : Operand)
    (ho : o.op = .call { callee := .builtin .append, args := #[s, x], argTypes := #[28, 28] })
    {base : Nat} {v : Value} {xs : List Value} (hs : a.eval s = v) (hown : OwnS w base v xs) (g0 : Nat) (A1 : Option Addr) (n1 c1 : Nat) (c : Nat) (hx : a.eval x = .slice (some ⟨g0, 0, none⟩) 1 c) (hg0 : w.cell? ⟨g0, 0, none⟩ = some (.slice A1 n1 c1))
    (hlen : xs.length + 1 ≤ 4398046511104) (hbase : base ≤ w.heap.size)
    (h : ∀ g cap w', OwnS w' base (.slice (some ⟨g, 0, none⟩) (xs.length + 1) cap) (xs ++ [.slice A1 n1 c1]) → w.grownBy w' v.ownBlock → (v.ownBlock = some g ∨ g = w.heap.size) → g < w'.heap.size →
      wpList Try.prog ops Q rest (a.put o.dst (.slice (some ⟨g, 0, none⟩) (xs.length + 1) cap)) w') : wpList Try.prog ops Q (o :: rest) a w := by
  obtain ⟨i0, hi, hz0, hz1, hz2⟩ : ∃ i, Try.prog.info? 22 = some i ∧ i.zero = some (.slice none 0 0) ∧ i.size = 1 ∧ i.bytes = 24 := by
    have h := info22
    cases hh : Try.prog.info? 22 with
    | none => rw [hh] at h; cases h
    | some i => rw [hh] at h; simp at h; exact ⟨i, rfl, h⟩
  refine wpList_append_lies w hgd s x 28 ho base 22 i0 (.slice none 0 0) 1 24 Try.underlying28 hi hz0 hz1 hz2 rfl (by decide) v xs.length xs hs hown _ 1 c [.slice A1 n1 c1] hx rfl (fun j u hu => ?_) (fun u hu => ?_) (by decide) (by unfold maxLen; omega) (by omega) hbase w.heap.size rfl fun g cap w' h1 h2 h3 h4 => h g cap w' ?_ h2 h3 h4
  · cases j with
    | zero => simp at hu; subst hu; exact hg0
    | succ j => simp at hu
  · simp at hu; subst hu; rfl
  · show w'.ownsRow base 22 1 _ _ _
    rw [List.length_append]
    exact h1
def selB (lim : Int) (l : List BV) : List BV := l.filter fun p => decide (Fit lim p.1)
/-- What 'sent' has gathered. -/
structure SN (w wx : World) (bv av tv : Value) (l : List BV) : Prop where
  b : OwnB wx w.heap.size bv (frames (l.map (·.1)))
  a : OwnInts wx w.heap.size av (ats 0 (l.map (·.1)))
  t : OwnS wx w.heap.size tv (l.map (·.2))
  be : Below w.heap.size w wx
section
variable {w wx wy : World} {bv av tv v : Value} {l : List BV}
theorem SN.below (h : SN w wx bv av tv l) (hb : Below wx.heap.size wx wy) : SN w wy bv av tv l := ⟨own_below h.b hb, own_below h.a hb, own_below h.t hb, h.be.trans (hb.mono h.be.size)⟩
end
end Go.Proofs.Ytkllgmhfjibajaa
