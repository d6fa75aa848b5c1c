/- Memory of 'sched.Ask': a cost is appended to a queue's own list. The plain law of Ask. -/
import Derived.Test.YtgbjhkgbjnobcaaWaiting
import Derived.Deep.AppendLies
namespace Go.Proofs.Ytgbjhkgbjnobcaa
open Go.RowKit Trn

theorem Blk.grownBy {w w1 : World} {b : Nat} {ty : TypeId} {cs : Array Value} {row : Option Nat} (h : Blk w b ty cs) (hg : w.grownBy w1 row) (hne : row ≠ some b) : Blk w1 b ty cs :=
  (hg.block b h.lt (fun e => hne e.symm)).trans h
/-- A cost more. -/
def Trn.asked (t : Tu) (a : Nat) (q : Qu) (x : Int) : Tu := { t with qs := t.qs.set a { q with cs := q.cs ++ [x] } }
/-- A queue's list, owned; and the turns behind an append to it. -/
theorem NM.grow {w wr : World} {g cb a : Nat} {t : Tu} {q : Qu} (h : NM w g cb t wr) (hq : t.qs[a]? = some q) : ∃ v, OwnInts wr (w.heap.size + 2) v q.cs ∧ wr.cell? ⟨g, a * 4 + 3, none⟩ = some v ∧ v.ownBlock ≠ some g ∧ v.ownBlock ≠ some cb ∧
    ∀ w2 w1 x g' cap, Below wr.heap.size wr w2 → w2.grownBy w1 v.ownBlock → OwnInts w1 (w.heap.size + 2) (.slice (some ⟨g', 0, none⟩) (q.cs.length + 1) cap) (q.cs ++ [x]) → (v.ownBlock = some g' ∨ g' = w2.heap.size) →
      NM w g cb (asked t a q x) (w1.setCell ⟨g, a * 4 + 3, none⟩ (.slice (some ⟨g', 0, none⟩) (q.cs.length + 1) cap)) := by
  have hne := h.ne
  have hgg := h.gg
  have hgc := h.gc
  obtain ⟨l, ho, hl⟩ := h.own
  have hla : ∃ v, l[a]? = some (q, v) := by
    rw [← hl, List.getElem?_map] at hq
    obtain ⟨p, hp, hpq⟩ := Option.map_eq_some_iff.1 hq
    exact ⟨p.2, by rw [hp, ← hpq]⟩
  obtain ⟨v, hv⟩ := hla
  have hall := (List.getElem?_eq_some_iff.1 hv).1
  have hown := ho.own a _ hv
  have hrow : (rows l)[a]? = some (row q v) := by rw [rows, List.getElem?_map, hv]; rfl
  have hv1 : v.ownBlock ≠ some g := hown.ne_q ho.blk
  have hv2 : v.ownBlock ≠ some cb := hown.ne_blk h.cblk (by decide)
  refine ⟨v, hown, (QBlk.cells ho.blk hrow).2.2.2, hv1, hv2, fun w2 w1 x g' cap hb hg ho1 hat => ?_⟩
  have hsz := hb.size
  have hvb : ∀ b, v.ownBlock = some b → w.heap.size + 2 ≤ b ∧ b < wr.heap.size := fun b hb => hown.lt hb
  have hvr : v.ownBlock ≠ some (w.heap.size + 1) := fun e => by have := (hvb _ e).1; omega
  have hgl := Blk.lt ho.blk
  have hgn : g' ≠ g := fun e => by rcases hat with h1 | h1; exact hv1 (by rw [h1, e]); omega
  have hbw : Below w.heap.size w w2 := h.below.trans (hb.mono h.below.size)
  have hb1 : Below w.heap.size w w1 := hbw.grown hg hbw.size (fun k hk => by have := (hvb k hk).1; omega)
  have hq1 : QBlk w1 g (rows l) := Blk.grownBy (Blk.below ho.blk hb hgl) hg hv1
  refine ⟨hb1.setCell (by simp <;> omega) _, ((h.res.below hb h.res.lt).grownBy hg hvr).far (by simp <;> omega) _, hgg, hgc, ?_, l.set a ({ q with cs := q.cs ++ [x] }, .slice (some ⟨g', 0, none⟩) (q.cs.length + 1) cap), ⟨?_, ho.ge, ?_, ?_⟩, ?_⟩
  · have := ((h.cblk.below hb h.cblk.lt).grownBy hg hv2).far (p := ⟨g, a * 4 + 3, none⟩) (fun e => hne e.symm) (.slice (some ⟨g', 0, none⟩) (q.cs.length + 1) cap)
    simpa [asked] using this
  · have := hq1.set3 hrow (.slice (some ⟨g', 0, none⟩) (q.cs.length + 1) cap)
    rw [rows, List.map_set]
    exact this
  · intro i p hp
    by_cases hi : a = i
    · subst hi
      rw [List.getElem?_set_self hall] at hp
      injection hp with hp
      subst hp
      exact ho1.setCell (by simp [Value.ownBlock, hgn]) _
    · rw [List.getElem?_set_ne hi] at hp
      have hop := ho.own i p hp
      have hopl : ∀ b, p.2.ownBlock = some b → b < wr.heap.size := fun b hb => (hop.lt hb).2
      refine OwnInts.setCell (hop.keep fun b hbb => ?_) (hop.ne_q ho.blk) _
      have h1 := hopl b hbb
      rw [hg.block b (by omega) (fun e => ho.apart i a p (q, v) (fun e => hi e.symm) hp hv b hbb e.symm), hb.block b h1]
  · have split : ∀ (i : Nat) (p : Qu × Value), (l.set a ({ q with cs := q.cs ++ [x] }, Value.slice (some ⟨g', 0, none⟩) (q.cs.length + 1) cap))[i]? = some p →
        (a = i ∧ p.2.ownBlock = some g') ∨ (a ≠ i ∧ l[i]? = some p) := by
      intro i p hp
      by_cases hi : a = i
      · subst hi
        rw [List.getElem?_set_self hall] at hp
        injection hp with hp
        subst hp
        exact .inl ⟨rfl, by simp [Value.ownBlock]⟩
      · rw [List.getElem?_set_ne hi] at hp
        exact .inr ⟨hi, hp⟩
    have far : ∀ (i : Nat) (p : Qu × Value), a ≠ i → l[i]? = some p → ∀ b, p.2.ownBlock = some b → b ≠ g' := by
      intro i p hi hp b hbb e
      subst e
      rcases hat with h1 | h1
      · exact ho.apart i a p (q, v) (fun e => hi e.symm) hp hv b hbb h1
      · have := ((ho.own i p hp).lt hbb).2
        omega
    intro i j p p' hij hi hj b hbp hbq
    rcases split i p hi with ⟨rfl, e1⟩ | ⟨a1, a2⟩ <;> rcases split j p' hj with ⟨b1, e2⟩ | ⟨b1, b2⟩
    · exact hij b1
    · rw [e1] at hbp; injection hbp with hbp; exact far j p' b1 b2 b hbq hbp.symm
    · rw [e2] at hbq; injection hbq with hbq; exact far i p a1 a2 b hbp hbq.symm
    · exact ho.apart i j p p' hij a2 b2 b hbp hbq
  · rw [List.map_set, hl]; rfl
end Go.Proofs.Ytgbjhkgbjnobcaa
