/- Turns in memory of their own, whoever laid them: a block of queues, a block of integers for each, no two one; what a store keeps. Conditions: none. -/
import Derived.Test.YtgbjhkgbjnobcaaQMem
import Derived.Test.YtgbjhkgbjnobcaaNextMem
import Derived.Deep.AppendLies
import Derived.Deep.Upon
namespace Go.Proofs.Ytgbjhkgbjnobcaa
open Go.RowKit Trn

/-- Integers with room: xs, and sp behind them. -/
def IR (w : World) (lo : Nat) (v : Value) (xs sp : List Int) : Prop :=
  (v = .slice none 0 0 ∧ xs = [] ∧ sp = []) ∨
  ∃ b o c cur, v = .slice (some ⟨b, o, none⟩) xs.length c ∧ lo ≤ b ∧ Blk w b 3 cur ∧ xs.length + sp.length ≤ c ∧ c ≤ maxLen ∧ o + c ≤ cur.size ∧ ∀ j x, (xs ++ sp)[j]? = some x → cur[o + j]? = some (.int .i64 x)
section
variable {w w' : World} {lo lo' : Nat} {v : Value} {xs sp : List Int}
theorem IR.keep (h : IR w lo v xs sp) (hk : ∀ b, v.ownBlock = some b → w'.heap[b]? = w.heap[b]?) : IR w' lo v xs sp := by
  rcases h with h | ⟨b, o, c, cur, rfl, hb, hh, r⟩
  · exact .inl h
  · exact .inr ⟨b, o, c, cur, rfl, hb, (hk b rfl).trans hh, r⟩
theorem IR.lt (h : IR w lo v xs sp) {b : Nat} (hb : v.ownBlock = some b) : lo ≤ b ∧ b < w.heap.size := by
  rcases h with ⟨rfl, _⟩ | ⟨b', o, c, cur, rfl, hb', hh, _⟩
  · cases hb
  · injection hb with hb
    subst hb
    exact ⟨hb', Blk.lt hh⟩
theorem IR.mono (h : IR w lo v xs sp) (hl : lo' ≤ lo) : IR w lo' v xs sp := by
  rcases h with h | ⟨b, o, c, cur, e, hb, r⟩
  · exact .inl h
  · exact .inr ⟨b, o, c, cur, e, by omega, r⟩
theorem IR.ne_blk {x : Nat} {ty : TypeId} {cs : Array Value} (h : IR w lo v xs sp) (hx : Blk w x ty cs) (ht : ty ≠ 3) : v.ownBlock ≠ some x := by
  rcases h with ⟨rfl, _⟩ | ⟨b', o, c, cur, rfl, _, hh, _⟩
  · simp [Value.ownBlock]
  · intro e
    injection e with e
    subst e
    exact Blk.ne hh hx (fun e => ht e.symm) rfl
theorem IR.shape (h : IR w lo v xs sp) : ∃ A c, v = .slice A xs.length c ∧ xs.length ≤ c ∧ c ≤ maxLen := by
  rcases h with ⟨rfl, rfl, _⟩ | ⟨b, o, c, cur, rfl, _, _, h1, h2, _⟩
  · exact ⟨none, 0, rfl, Nat.le_refl _, Nat.zero_le _⟩
  · exact ⟨_, c, rfl, by omega, h2⟩
theorem IR.read (h : IR w lo v xs sp) {B : Nat} (hB : w.heap.size ≤ B) : ∃ A c, v = .slice A xs.length c ∧ xs.length ≤ c ∧ c ≤ maxLen ∧ IntsAt w B A xs := by
  rcases h with ⟨rfl, rfl, _⟩ | ⟨b, o, c, cur, rfl, _, hh, h1, h2, _, h3⟩
  · exact ⟨none, 0, rfl, Nat.le_refl _, Nat.zero_le _, fun h => absurd h (by simp)⟩
  · refine ⟨_, c, rfl, by omega, h2, fun _ => ⟨b, o, rfl, by have := Blk.lt hh; omega, fun i x hx => ?_⟩⟩
    rw [Blk.cell hh]
    exact h3 i x (by rw [List.getElem?_append_left (List.getElem?_eq_some_iff.1 hx).1]; exact hx)
/-- An integer of it: its cell. -/
theorem IR.at_ (h : IR w lo v xs sp) {j : Nat} {x : Int} (hx : (xs ++ sp)[j]? = some x) : ∃ b o c, v = .slice (some ⟨b, o, none⟩) xs.length c ∧ xs.length + sp.length ≤ c ∧ w.cell? ⟨b, o + j, none⟩ = some (.int .i64 x) ∧ ∀ k, w.frozen? ⟨b, k, none⟩ = false := by
  rcases h with ⟨rfl, rfl, rfl⟩ | ⟨b, o, c, cur, rfl, _, hh, h1, h2, _, h3⟩
  · simp at hx
  · exact ⟨b, o, c, rfl, h1, by rw [Blk.cell hh]; exact h3 j x hx, Blk.frozen hh⟩
theorem IR.of_own (h : OwnInts w lo v xs) : IR w lo v xs [] := by
  obtain ⟨_, h⟩ := h
  rcases h with ⟨rfl, h0⟩ | ⟨b, cap, cur, rfl, hb, hh, hn, hm, hcs, ht⟩
  · exact .inl ⟨rfl, List.eq_nil_of_length_eq_zero h0, rfl⟩
  · refine .inr ⟨b, 0, cap, cur, rfl, hb, hh, by simpa using hn, hm, by omega, fun i x hx => ?_⟩
    rw [List.append_nil] at hx
    have hi := (List.getElem?_eq_some_iff.1 hx).1
    have h1 : (xs.map (Value.int .i64))[i]? = some (.int .i64 x) := by rw [List.getElem?_map, hx]; rfl
    rw [← ht, List.getElem?_take_of_lt (by omega)] at h1
    rw [Nat.zero_add]
    simpa using h1
/-- A store. -/
theorem IR.set_ {b o c : Nat} {n : Nat} (h : IR w lo (.slice (some ⟨b, o, none⟩) n c) xs sp) {k : Nat} (hk : k < xs.length) (x : Int) : IR (w.setCell ⟨b, o + k, none⟩ (.int .i64 x)) lo (.slice (some ⟨b, o, none⟩) n c) (xs.set k x) sp := by
  rcases h with ⟨e, _⟩ | ⟨b', o', c', cur, e, hb, hh, h1, h2, h4, h3⟩
  · cases e
  · injection e with e e2 e3
    injection e with e
    injection e with e e1 _
    subst e e1 e2 e3
    refine .inr ⟨b, o, c, _, by rw [List.length_set], hb, hh.set_ (o + k) _, by simpa using h1, h2, by simpa using h4, fun j y hy => ?_⟩
    rw [Array.getElem?_setIfInBounds]
    have hkc : o + k < cur.size := by omega
    by_cases hj : k = j
    · subst hj
      rw [List.getElem?_append_left (by rw [List.length_set]; exact hk), List.getElem?_set_self hk] at hy
      injection hy with hy
      subst hy
      rw [if_pos rfl, if_pos hkc]
    · rw [if_neg (by omega)]
      refine h3 j y ?_
      rcases Nat.lt_or_ge j xs.length with hl | hl
      · rw [List.getElem?_append_left (by rw [List.length_set]; exact hl), List.getElem?_set_ne hj] at hy
        rw [List.getElem?_append_left hl]
        exact hy
      · rw [List.getElem?_append_right (by rw [List.length_set]; exact hl), List.length_set] at hy
        rw [List.getElem?_append_right hl]
        exact hy
/-- All but the first. -/
theorem IR.tail {b o c : Nat} {n : Nat} {x : Int} (h : IR w lo (.slice (some ⟨b, o, none⟩) n c) (x :: xs) []) {A : Option Addr} (hA : A = if c = 1 then some ⟨b, o, none⟩ else some ⟨b, o + 1, none⟩) : IR w lo (.slice A xs.length (c - 1)) xs [] := by
  rcases h with ⟨e, _⟩ | ⟨b', o', c', cur, e, hb, hh, h1, h2, h4, h3⟩
  · cases e
  · injection e with e e2 e3
    injection e with e
    injection e with e e1 _
    subst e e1 e2 e3 hA
    simp only [List.length_cons, List.length_nil, Nat.add_zero] at h1
    by_cases hc : c = 1
    · subst hc
      have hx : xs = [] := List.eq_nil_of_length_eq_zero (by omega)
      subst hx
      rw [if_pos rfl]
      exact .inr ⟨b, o, 0, cur, rfl, hb, hh, by simp, Nat.zero_le _, by omega, fun j y hy => by simp at hy⟩
    · rw [if_neg hc]
      refine .inr ⟨b, o + 1, c - 1, cur, rfl, hb, hh, by simp; omega, by omega, by omega, fun j y hy => ?_⟩
      rw [Nat.add_assoc, Nat.add_comm 1 j]
      exact h3 (j + 1) y (by rw [List.cons_append, List.getElem?_cons_succ]; exact hy)
/-- Fewer of them: the rest is room. -/
theorem IR.cut {A : Option Addr} {n m c : Nat} {ys : List Int} (h : IR w lo (.slice A m c) (xs ++ ys) []) (hn : n = xs.length) (hA : A = none → False) : IR w lo (.slice A n c) xs ys := by
  rcases h with ⟨e, _⟩ | ⟨b', o', c', cur, e, hb, hh, h1, h2, h4, h3⟩
  · injection e with e _ _
    exact absurd e hA
  · injection e with e e2 e3
    subst e e3 hn
    exact .inr ⟨b', o', c, cur, rfl, hb, hh, by simpa using h1, h2, h4, fun j y hy => h3 j y (by rw [List.append_nil]; exact hy)⟩
end

/-- Any cells of fours are rows. -/
theorem unflat : ∀ (n : Nat) (l : List Value), l.length = n * 4 → ∃ R : List R4, flat R = l ∧ R.length = n
  | 0, l, h => ⟨[], by
      have h0 : l = [] := List.eq_nil_of_length_eq_zero (by omega)
      rw [h0]; rfl, rfl⟩
  | n + 1, [], h => by simp at h
  | n + 1, [_], h => by simp only [List.length_cons, List.length_nil] at h; omega
  | n + 1, [_, _], h => by simp only [List.length_cons, List.length_nil] at h; omega
  | n + 1, [_, _, _], h => by simp only [List.length_cons, List.length_nil] at h; omega
  | n + 1, a :: b :: c :: d :: l, h => by
    obtain ⟨R, h1, h2⟩ := unflat n l (by simp only [List.length_cons] at h; omega)
    exact ⟨⟨a, b, c, d⟩ :: R, by rw [← h1]; rfl, by simp [h2]⟩
theorem flat_inj : ∀ (R S : List R4), flat R = flat S → R = S
  | [], [], _ => rfl
  | [], _ :: _, h => by simp [flat] at h
  | _ :: _, [], h => by simp [flat] at h
  | ⟨a, b, c, d⟩ :: R, ⟨a', b', c', d'⟩ :: S, h => by
    simp only [flat, List.cons.injEq] at h
    obtain ⟨rfl, rfl, rfl, rfl, h⟩ := h
    rw [flat_inj R S h]
abbrev QV := Qu × Value × List Int
def qrow (p : QV) : R4 := row p.1 p.2.1

/-- v holds the queues l, each with its own list of costs and room behind it; behind all, tl. -/
structure TQ (w : World) (lo : Nat) (v : Value) (l : List QV) (tl : List R4) : Prop where
  row : (v = .slice none 0 0 ∧ l = [] ∧ tl = []) ∨ ∃ (g c : Nat) (R : List R4), v = .slice (some ⟨g, 0, none⟩) l.length c ∧ lo ≤ g ∧ QBlk w g R ∧ R.length = c ∧ l.length + tl.length ≤ c ∧ c ≤ maxLen ∧ ∀ (i : Nat) (r : R4), (l.map qrow ++ tl)[i]? = some r → R[i]? = some r
  own : ∀ (i : Nat) (p : QV), l[i]? = some p → IR w lo p.2.1 p.1.cs p.2.2
  apart : ∀ (i j : Nat) (p q : QV), i ≠ j → l[i]? = some p → l[j]? = some q → ∀ b, p.2.1.ownBlock = some b → q.2.1.ownBlock ≠ some b
/-- The blocks that it holds. -/
def FQ (v : Value) (l : List QV) (b : Nat) : Prop := v.ownBlock = some b ∨ ∃ (i : Nat) (p : QV), l[i]? = some p ∧ p.2.1.ownBlock = some b
section
variable {w w' : World} {lo lo' : Nat} {v : Value} {l : List QV} {tl : List R4}
theorem TQ.lt (h : TQ w lo v l tl) {b : Nat} (hb : FQ v l b) : lo ≤ b ∧ b < w.heap.size := by
  rcases hb with hb | ⟨i, p, hp, hb⟩
  · rcases h.row with ⟨rfl, _⟩ | ⟨g, c, R, rfl, hg, hq, _⟩
    · cases hb
    · injection hb with hb
      subst hb
      exact ⟨hg, Blk.lt hq⟩
  · exact (h.own i p hp).lt hb
theorem TQ.keep (h : TQ w lo v l tl) (hk : ∀ b, FQ v l b → w'.heap[b]? = w.heap[b]?) : TQ w' lo v l tl := by
  refine ⟨?_, fun i p hp => (h.own i p hp).keep fun b hb => hk b (.inr ⟨i, p, hp, hb⟩), h.apart⟩
  rcases h.row with h1 | ⟨g, c, R, rfl, hg, hq, r⟩
  · exact .inl h1
  · exact .inr ⟨g, c, R, rfl, hg, (hk g (.inl rfl)).trans hq, r⟩
theorem TQ.below (h : TQ w lo v l tl) (hb : Below w.heap.size w w') : TQ w' lo v l tl := h.keep fun b hf => hb.block b (h.lt hf).2
theorem TQ.kp {S : Nat → Prop} (h : TQ w lo v l tl) (hk : Kp S w w') (hS : ∀ b, FQ v l b → ¬ S b) : TQ w' lo v l tl := h.keep fun b hf => hk.block b (h.lt hf).2 (hS b hf)
theorem TQ.mono (h : TQ w lo v l tl) (hl : lo' ≤ lo) : TQ w lo' v l tl := by
  refine ⟨?_, fun i p hp => (h.own i p hp).mono hl, h.apart⟩
  rcases h.row with h1 | ⟨g, c, R, e, hg, r⟩
  · exact .inl h1
  · exact .inr ⟨g, c, R, e, by omega, r⟩
theorem TQ.nil (w : World) (lo : Nat) : TQ w lo (.slice none 0 0) [] [] := ⟨.inl ⟨rfl, rfl, rfl⟩, fun _ _ h => by simp at h, fun _ _ _ _ _ h => by simp at h⟩
theorem TQ.shape (h : TQ w lo v l tl) : ∃ A c, v = .slice A l.length c ∧ l.length ≤ c ∧ c ≤ maxLen := by
  rcases h.row with ⟨rfl, rfl, _⟩ | ⟨g, c, R, rfl, _, _, _, h1, h2, _⟩
  · exact ⟨none, 0, rfl, Nat.le_refl _, Nat.zero_le _⟩
  · exact ⟨_, c, rfl, by omega, h2⟩
/-- Queue i: its cells. -/
theorem TQ.at_ (h : TQ w lo v l tl) {i : Nat} {p : QV} (hp : l[i]? = some p) : ∃ g c, v = .slice (some ⟨g, 0, none⟩) l.length c ∧ l.length ≤ c ∧
    w.cell? ⟨g, i * 4, none⟩ = some (.int .i64 p.1.id) ∧ w.cell? ⟨g, i * 4 + 1, none⟩ = some (.int .i64 p.1.qu) ∧ w.cell? ⟨g, i * 4 + 2, none⟩ = some (.int .i64 p.1.de) ∧ w.cell? ⟨g, i * 4 + 3, none⟩ = some p.2.1 ∧ ∀ k, w.frozen? ⟨g, k, none⟩ = false := by
  have hi := (List.getElem?_eq_some_iff.1 hp).1
  rcases h.row with ⟨_, rfl, _⟩ | ⟨g, c, R, rfl, _, hq, _, h1, h2, h3⟩
  · simp at hi
  · have hr := h3 i (qrow p) (by rw [List.getElem?_append_left (by simpa using hi), List.getElem?_map, hp]; rfl)
    obtain ⟨c0, c1, c2, c3⟩ := hq.cells hr
    exact ⟨g, c, rfl, by omega, c0, c1, c2, c3, Blk.frozen hq⟩
/-- It reads as queues. -/
theorem TQ.read (h : TQ w lo v l tl) {A : Option Addr} {n c : Nat} (hv : v = .slice A n c) : QsAt w w.heap.size A (l.map (·.1)) := fun h0 => by
  rw [List.length_map] at h0
  rcases h.row with ⟨_, rfl, _⟩ | ⟨g, c', R, e, _, hq, _⟩
  · simp at h0
  · rw [hv] at e
    injection e with e _ _
    refine ⟨g, 0, e, Blk.lt hq, fun i q hqi => ?_⟩
    rw [List.getElem?_map] at hqi
    obtain ⟨p, hp, rfl⟩ := Option.map_eq_some_iff.1 hqi
    obtain ⟨g', c'', e', _, c0, c1, c2, c3, _⟩ := h.at_ hp
    rw [hv, e] at e'
    injection e' with e' _ _
    injection e' with e'
    injection e' with e' _ _
    subst e'
    rw [Nat.zero_add]
    obtain ⟨A', k, hs, hc, hm, hin⟩ := (h.own i p hp).read (Nat.le_refl _)
    exact ⟨c0, c1, c2, A', k, by rw [c3]; exact congrArg some hs, hc, hm, hin⟩
/-- A queue is written anew. -/
theorem TQ.put (h : TQ w lo v l tl) {i : Nat} {p : QV} (hp : l[i]? = some p) {g n c : Nat} (hv : v = .slice (some ⟨g, 0, none⟩) n c) (hw : ∀ b, b ≠ g → w'.heap[b]? = w.heap[b]?) {q : Qu} {u : Value} {sp : List Int}
    (hs : ∀ R, QBlk w g R → R[i]? = some (qrow p) → QBlk w' g (R.set i (qrow (q, u, sp)))) (hi : IR w' lo u q.cs sp) (hb : ∀ b, u.ownBlock = some b → p.2.1.ownBlock = some b) : TQ w' lo v (l.set i (q, u, sp)) tl := by
  have hil := (List.getElem?_eq_some_iff.1 hp).1
  rcases h.row with ⟨e, _⟩ | ⟨g', c', R, e, hg, hq, hR, h1, h2, h3⟩
  · rw [hv] at e; cases e
  · rw [hv] at e
    injection e with e e2 e3
    injection e with e
    injection e with e _ _
    subst e e2 e3 hv
    have hri := h3 i (qrow p) (by rw [List.getElem?_append_left (by simpa using hil), List.getElem?_map, hp]; rfl)
    have hold : ∀ (j : Nat) (p' : QV), (l.set i (q, u, sp))[j]? = some p' → (j = i ∧ p' = (q, u, sp)) ∨ (j ≠ i ∧ l[j]? = some p') := fun j p' hj => by
      by_cases hji : i = j
      · subst hji
        rw [List.getElem?_set_self hil] at hj
        injection hj with hj
        exact .inl ⟨rfl, hj.symm⟩
      · rw [List.getElem?_set_ne hji] at hj
        exact .inr ⟨fun e => hji e.symm, hj⟩
    refine ⟨.inr ⟨g, c, _, by rw [List.length_set], hg, hs R hq hri, by simpa using hR, by simpa using h1, h2, fun j r hr => ?_⟩, fun j p' hj => ?_, fun j k p' q' hjk hj hk b hb1 hb2 => ?_⟩
    · rw [List.map_set] at hr
      by_cases hji : i = j
      · subst hji
        rw [List.getElem?_append_left (by simpa using hil), List.getElem?_set_self (by simpa using hil)] at hr
        injection hr with hr
        subst hr
        rw [List.getElem?_set_self (List.getElem?_eq_some_iff.1 hri).1]
      · rw [List.getElem?_set_ne hji]
        refine h3 j r ?_
        rcases Nat.lt_or_ge j l.length with hl | hl
        · rw [List.getElem?_append_left (by simpa using hl), List.getElem?_set_ne hji] at hr
          rw [List.getElem?_append_left (by simpa using hl)]
          exact hr
        · rw [List.getElem?_append_right (by simpa using hl)] at hr
          rw [List.getElem?_append_right (by simpa using hl)]
          simpa using hr
    · rcases hold j p' hj with ⟨rfl, rfl⟩ | ⟨_, hj⟩
      · exact hi
      · exact (h.own j p' hj).keep fun b hb' => hw b fun e => (h.own j p' hj).ne_blk hq (by decide) (by rw [hb', e])
    · rcases hold j p' hj with ⟨rfl, rfl⟩ | ⟨_, hj2⟩
      · rcases hold k q' hk with ⟨e1, _⟩ | ⟨_, hk2⟩
        · exact hjk e1.symm
        · exact h.apart _ _ _ _ hjk hp hk2 b (hb b hb1) hb2
      · rcases hold k q' hk with ⟨e1, e2⟩ | ⟨_, hk2⟩
        · rw [e2] at hb2
          exact h.apart _ _ _ _ (fun e => hjk (e.trans e1.symm)) hj2 hp b hb1 (hb b hb2)
        · exact h.apart _ _ _ _ hjk hj2 hk2 b hb1 hb2
section
variable {i : Nat} {p : QV} {g n c : Nat}
theorem TQ.ne_g (h : TQ w lo v l tl) (hp : l[i]? = some p) (hv : v = .slice (some ⟨g, 0, none⟩) n c) : p.2.1.ownBlock ≠ some g := by
  rcases h.row with ⟨e, _⟩ | ⟨g', c', R, e, hg, hq, _⟩
  · rw [hv] at e; cases e
  · rw [hv] at e
    injection e with e _ _
    injection e with e
    injection e with e _ _
    subst e
    exact (h.own i p hp).ne_blk hq (by decide)
theorem TQ.setId (h : TQ w lo v l tl) (hp : l[i]? = some p) (hv : v = .slice (some ⟨g, 0, none⟩) n c) (x : Int) : TQ (w.setCell ⟨g, i * 4, none⟩ (.int .i64 x)) lo v (l.set i ({ p.1 with id := x }, p.2.1, p.2.2)) tl :=
  h.put hp hv (fun b hb => Below.heap_setCell w _ _ b hb) (fun R hq hr => hq.set0 hr (.int .i64 x)) ((h.own i p hp).keep fun b hb => Below.heap_setCell w _ _ b fun e => h.ne_g hp hv (by rw [hb, e])) (fun _ hb => hb)
theorem TQ.setDe (h : TQ w lo v l tl) (hp : l[i]? = some p) (hv : v = .slice (some ⟨g, 0, none⟩) n c) (x : Int) : TQ (w.setCell ⟨g, i * 4 + 2, none⟩ (.int .i64 x)) lo v (l.set i ({ p.1 with de := x }, p.2.1, p.2.2)) tl :=
  h.put hp hv (fun b hb => Below.heap_setCell w _ _ b hb) (fun R hq hr => hq.set2 hr (.int .i64 x)) ((h.own i p hp).keep fun b hb => Below.heap_setCell w _ _ b fun e => h.ne_g hp hv (by rw [hb, e])) (fun _ hb => hb)
theorem TQ.setCs (h : TQ w lo v l tl) (hp : l[i]? = some p) (hv : v = .slice (some ⟨g, 0, none⟩) n c) {u : Value} {cs sp : List Int} (hi : IR w lo u cs sp) (hb : ∀ b, u.ownBlock = some b → p.2.1.ownBlock = some b) :
    TQ (w.setCell ⟨g, i * 4 + 3, none⟩ u) lo v (l.set i ({ p.1 with cs := cs }, u, sp)) tl :=
  h.put hp hv (fun b hb => Below.heap_setCell w _ _ b hb) (fun R hq hr => hq.set3 hr u) (hi.keep fun b hb' => Below.heap_setCell w _ _ b fun e => h.ne_g hp hv (by rw [hb b hb', e])) hb
/-- A whole queue is stored. -/
theorem TQ.setAll (h : TQ w lo v l tl) (hp : l[i]? = some p) (hv : v = .slice (some ⟨g, 0, none⟩) n c) {q : Qu} {u : Value} {sp : List Int} (hi : IR w lo u q.cs sp) (hb : ∀ b, u.ownBlock = some b → p.2.1.ownBlock = some b) :
    TQ ((((w.setCell ⟨g, i * 4, none⟩ (.int .i64 q.id)).setCell ⟨g, i * 4 + 1, none⟩ (.int .i64 q.qu)).setCell ⟨g, i * 4 + 2, none⟩ (.int .i64 q.de)).setCell ⟨g, i * 4 + 3, none⟩ u) lo v (l.set i (q, u, sp)) tl := by
  have hw : ∀ b, b ≠ g → ((((w.setCell ⟨g, i * 4, none⟩ (.int .i64 q.id)).setCell ⟨g, i * 4 + 1, none⟩ (.int .i64 q.qu)).setCell ⟨g, i * 4 + 2, none⟩ (.int .i64 q.de)).setCell ⟨g, i * 4 + 3, none⟩ u).heap[b]? = w.heap[b]? := fun b hb' =>
    (((Below.heap_setCell _ _ _ b hb').trans (Below.heap_setCell _ _ _ b hb')).trans (Below.heap_setCell _ _ _ b hb')).trans (Below.heap_setCell _ _ _ b hb')
  exact h.put hp hv hw (fun R hq hr => hq.setAll hr (qrow (q, u, sp))) (hi.keep fun b hb' => hw b fun e => h.ne_g hp hv (by rw [hb b hb', e])) hb
/-- A cost is written. -/
theorem TQ.setInt (h : TQ w lo v l tl) (hp : l[i]? = some p) {b o : Nat} (hv : p.2.1 = .slice (some ⟨b, o, none⟩) n c) {k : Nat} (hk : k < p.1.cs.length) (x : Int) :
    TQ (w.setCell ⟨b, o + k, none⟩ (.int .i64 x)) lo v (l.set i ({ p.1 with cs := p.1.cs.set k x }, p.2.1, p.2.2)) tl := by
  have hil := (List.getElem?_eq_some_iff.1 hp).1
  have hbp : p.2.1.ownBlock = some b := by rw [hv]; rfl
  have hold : ∀ (j : Nat) (p' : QV), (l.set i ({ p.1 with cs := p.1.cs.set k x }, p.2.1, p.2.2))[j]? = some p' → (j = i ∧ p' = ({ p.1 with cs := p.1.cs.set k x }, p.2.1, p.2.2)) ∨ (j ≠ i ∧ l[j]? = some p') := fun j p' hj => by
    by_cases hji : i = j
    · subst hji
      rw [List.getElem?_set_self hil] at hj
      injection hj with hj
      exact .inl ⟨rfl, hj.symm⟩
    · rw [List.getElem?_set_ne hji] at hj
      exact .inr ⟨fun e => hji e.symm, hj⟩
  refine ⟨?_, fun j p' hj => ?_, fun j k p' q' hjk hj hk b' hb1 hb2 => ?_⟩
  · rcases h.row with ⟨_, rfl, _⟩ | ⟨g, c, R, e, hg, hq, hR, h1, h2, h3⟩
    · simp at hil
    · have hbg : g ≠ b := fun e => (h.own i p hp).ne_blk hq (by decide) (by rw [hbp, e])
      refine .inr ⟨g, c, R, by rw [List.length_set]; exact e, hg, hq.far hbg _, hR, by simpa using h1, h2, fun j r hr => h3 j r ?_⟩
      rw [List.map_set] at hr
      have : (l.map qrow).set i (qrow ({ p.1 with cs := p.1.cs.set k x }, p.2.1, p.2.2)) = l.map qrow := Trn.set_same (by rw [List.getElem?_map, hp]; rfl)
      rwa [this] at hr
  · rcases hold j p' hj with ⟨rfl, rfl⟩ | ⟨hne, hj⟩
    · have := h.own _ _ hp
      rw [hv] at this
      show IR _ lo p.2.1 _ _
      rw [hv]
      exact this.set_ hk x
    · exact (h.own j p' hj).keep fun b' hb' => Below.heap_setCell w _ _ b' fun e => h.apart _ _ _ _ hne hj hp b' hb' (by rw [hbp, e])
  · rcases hold j p' hj with ⟨rfl, rfl⟩ | ⟨_, hj2⟩
    · rcases hold k q' hk with ⟨e1, _⟩ | ⟨_, hk2⟩
      · exact hjk e1.symm
      · exact h.apart _ _ _ _ hjk hp hk2 b' hb1 hb2
    · rcases hold k q' hk with ⟨e1, e2⟩ | ⟨_, hk2⟩
      · rw [e2] at hb2
        exact h.apart _ _ _ _ (fun e => hjk (e.trans e1.symm)) hj2 hp b' hb1 hb2
      · exact h.apart _ _ _ _ hjk hj2 hk2 b' hb1 hb2
end
/-- Who holds no other blocks. -/
theorem FQ.of_set {i : Nat} {q : Qu} {u : Value} {sp : List Int} {p : QV} (hp : l[i]? = some p) (hb : ∀ b, u.ownBlock = some b → p.2.1.ownBlock = some b) {b : Nat} (h : FQ v (l.set i (q, u, sp)) b) : FQ v l b := by
  rcases h with h | ⟨j, p', hj, hb'⟩
  · exact .inl h
  · by_cases hji : i = j
    · subst hji
      rw [List.getElem?_set_self (List.getElem?_eq_some_iff.1 hp).1] at hj
      injection hj with hj
      subst hj
      exact .inr ⟨i, p, hp, hb b hb'⟩
    · rw [List.getElem?_set_ne hji] at hj
      exact .inr ⟨j, p', hj, hb'⟩
end
/-- Out of what Next holds. -/
theorem TQ.of_own {w : World} {lo g : Nat} {l : List (Qu × Value)} (h : OwnQs w lo g l) (hl : l.length ≤ maxLen) : TQ w lo (.slice (some ⟨g, 0, none⟩) l.length l.length) (l.map fun p => (p.1, p.2, [])) [] := by
  have hold : ∀ (i : Nat) (p : QV), (l.map fun p => ((p.1, p.2, []) : QV))[i]? = some p → ∃ p0, l[i]? = some p0 ∧ p = (p0.1, p0.2, []) := fun i p hp => by
    rw [List.getElem?_map] at hp
    obtain ⟨p0, h1, h2⟩ := Option.map_eq_some_iff.1 hp
    exact ⟨p0, h1, h2.symm⟩
  refine ⟨.inr ⟨g, l.length, rows l, by rw [List.length_map], h.ge, h.blk, by simp [rows], by simp, hl, fun i r hr => ?_⟩, fun i p hp => ?_, fun i j p q hij hp hq => ?_⟩
  · rw [List.append_nil, List.map_map] at hr
    exact hr
  · obtain ⟨p0, h1, rfl⟩ := hold i p hp
    exact IR.of_own (h.own i p0 h1)
  · obtain ⟨p0, h1, rfl⟩ := hold i p hp
    obtain ⟨q0, h2, rfl⟩ := hold j q hq
    exact h.apart i j p0 q0 hij h1 h2
/-- Out of what grew by appends. -/
theorem TQ.of_grown {w : World} {lo : Nat} {v : Value} {l : List (Qu × Value)} (h : GQ w lo v l) : TQ w lo v (l.map fun p => (p.1, p.2, [])) [] := by
  have hold : ∀ (i : Nat) (p : QV), (l.map fun p => ((p.1, p.2, []) : QV))[i]? = some p → ∃ p0, l[i]? = some p0 ∧ p = (p0.1, p0.2, []) := fun i p hp => by
    rw [List.getElem?_map] at hp
    obtain ⟨p0, h1, h2⟩ := Option.map_eq_some_iff.1 hp
    exact ⟨p0, h1, h2.symm⟩
  refine ⟨?_, fun i p hp => ?_, fun i j p q hij hp hq => ?_⟩
  · obtain ⟨_, hr⟩ := h.row
    rcases hr with ⟨rfl, h0⟩ | ⟨g, cap, cur, rfl, hg, hh, hn, hm, hcs, ht⟩
    · exact .inl ⟨rfl, by rw [List.eq_nil_of_length_eq_zero h0]; rfl, rfl⟩
    · obtain ⟨R, h1, h2⟩ := unflat cap cur.toList (by simpa using hcs)
      refine .inr ⟨g, cap, R, by rw [List.length_map], hg, ?_, h2, by simpa using hn, hm, fun i r hr => ?_⟩
      · show w.heap[g]? = _
        rw [h1, hh]
      · rw [List.append_nil, List.map_map] at hr
        rw [← h1, flat_take] at ht
        have e : ∀ l : List (Qu × Value), l.flatMap quCells = flat (l.map (fun p => qrow (p.1, p.2, []))) := fun l => by
          induction l with
          | nil => rfl
          | cons a l ih => rw [List.flatMap_cons, ih]; rfl
        rw [e] at ht
        have ht := flat_inj _ _ ht
        have hr' : (l.map (fun p => qrow (p.1, p.2, [])))[i]? = some r := hr
        rw [← ht] at hr'
        have hi : i < l.length := by have := (List.getElem?_eq_some_iff.1 hr).1; simpa using this
        rwa [List.getElem?_take_of_lt hi] at hr'
  · obtain ⟨p0, h1, rfl⟩ := hold i p hp
    exact IR.of_own (h.own i p0 h1)
  · obtain ⟨p0, h1, rfl⟩ := hold i p hp
    obtain ⟨q0, h2, rfl⟩ := hold j q hq
    exact h.apart i j p0 q0 hij h1 h2
/-- Turns of their own. -/
def TuOwn (w : World) (lo : Nat) (v : Value) (t : Tu) : Prop := ∃ vq l, v = .agg #[vq, .int .i64 t.at_, .bool t.fr] ∧ TQ w lo vq l [] ∧ l.map (·.1) = t.qs
theorem TQ.tu {w : World} {lo : Nat} {vq : Value} {l : List QV} {tl : List R4} (h : TQ w lo vq l tl) {t : Tu} (hl : l.map (·.1) = t.qs) : TuAt w w.heap.size (.agg #[vq, .int .i64 t.at_, .bool t.fr]) t := by
  obtain ⟨A, c, e, h1, h2⟩ := h.shape
  have hlen : l.length = t.qs.length := by rw [← hl, List.length_map]
  exact ⟨A, c, by rw [e, hlen], by omega, h2, by rw [← hl]; exact h.read e⟩
theorem TuOwn.at_ {w : World} {lo : Nat} {v : Value} {t : Tu} (h : TuOwn w lo v t) : TuAt w w.heap.size v t := by
  obtain ⟨vq, l, rfl, h, hl⟩ := h
  exact h.tu hl
end Go.Proofs.Ytgbjhkgbjnobcaa
