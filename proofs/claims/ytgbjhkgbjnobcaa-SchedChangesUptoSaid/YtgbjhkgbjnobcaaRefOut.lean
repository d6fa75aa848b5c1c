/- The memory of the document's Enter and Leave: a list that grows by queues of another. Conditions: none. -/
import Derived.Test.YtgbjhkgbjnobcaaRefAsk
namespace Go.Proofs.Ytgbjhkgbjnobcaa
open Go.RowKit Trn

/-- What is told of turns in any blocks. -/
theorem read_rows {w : World} {base lo : Nat} {v : Value} {l : List QV} (hrow : w.ownsRow base 51 4 v l.length (flat (l.map qrow))) (hir : ∀ p ∈ l, IR w lo p.2.1 p.1.cs p.2.2) :
    ∃ A c, v = .slice A l.length c ∧ l.length ≤ c ∧ c ≤ maxLen ∧ QsAt w w.heap.size A (l.map (·.1)) ∧ ∀ lo', lo' ≤ lo → lo' ≤ base → QsFrom w lo' A (l.map (·.1)) := by
  obtain ⟨A, c, hv, h1, h2⟩ := row_shape hrow
  refine ⟨A, c, hv, h1, h2, fun h0 => ?_, fun lo' hl1 hl2 h0 => ?_⟩
  case refine_2 =>
    rw [List.length_map] at h0
    obtain ⟨g, cap, e, hgb, hg⟩ := hrow.form h0
    have hrow' := hrow
    rw [e] at hrow'
    rw [hv] at e
    injection e with e _ _
    refine ⟨g, 0, e, by omega, fun i q hq hpos => ?_⟩
    rw [List.getElem?_map] at hq
    obtain ⟨p, hp, rfl⟩ := Option.map_eq_some_iff.1 hq
    have hi := (List.getElem?_eq_some_iff.1 hp).1
    have hr : (l.map qrow)[i]? = some (qrow p) := by rw [List.getElem?_map, hp]; rfl
    have f3 := (flat_at _ i _ hr).2.2.2
    rw [Nat.zero_add]
    rcases hir p (List.mem_of_getElem? hp) with ⟨_, e1, _⟩ | ⟨b', o', c', cur, e1, hb', _⟩
    · rw [e1] at hpos
      simp at hpos
    · exact ⟨b', o', _, c', by rw [hrow'.cellAt _ (by omega), f3]; exact congrArg some e1, by omega⟩
  rw [List.length_map] at h0
  obtain ⟨g, cap, e, _, hg⟩ := hrow.form h0
  have hrow' := hrow
  rw [e] at hrow'
  rw [hv] at e
  injection e with e _ _
  refine ⟨g, 0, e, hg, fun i q hq => ?_⟩
  rw [List.getElem?_map] at hq
  obtain ⟨p, hp, rfl⟩ := Option.map_eq_some_iff.1 hq
  have hi := (List.getElem?_eq_some_iff.1 hp).1
  have hr : (l.map qrow)[i]? = some (qrow p) := by rw [List.getElem?_map, hp]; rfl
  obtain ⟨f0, f1, f2, f3⟩ := flat_at _ i _ hr
  rw [Nat.zero_add]
  obtain ⟨A', c', hs, hc, hm, hin⟩ := (hir p (List.mem_of_getElem? hp)).read (Nat.le_refl _)
  refine ⟨?_, ?_, ?_, A', c', ?_, hc, hm, hin⟩
  · rw [hrow'.cellAt _ (by omega), f0]; rfl
  · rw [hrow'.cellAt _ (by omega), f1]; rfl
  · rw [hrow'.cellAt _ (by omega), f2]; rfl
  · rw [hrow'.cellAt _ (by omega), f3]; exact congrArg some hs
/-- A copy that is read, and a list that grows. -/
structure ON (w : World) (cb ob : Nat) (vq : Value) (l : List QV) (at_ : Int) (fr : Bool) (vo : Value) (lo : List QV) (at' : Int) (fr' : Bool) (wr : World) : Prop where
  rn : RN w cb vq l at_ fr wr
  go_ : w.heap.size + 1 < ob
  oblk : Blk wr ob 34 #[vo, .int .i64 at', .bool fr']
  row : wr.ownsRow (w.heap.size + 2) 51 4 vo lo.length (flat (lo.map qrow))
  far : ∀ b, vo.ownBlock = some b → ¬ FQ vq l b
  ne : cb ≠ ob
section
variable {w wr wb w1 : World} {cb ob : Nat} {vq vo : Value} {l lo : List QV} {at_ at' : Int} {fr fr' : Bool}
theorem ON.more (h : ON w cb ob vq l at_ fr vo lo at' fr' wr) (hb : Below wr.heap.size wr wb) : ON w cb ob vq l at_ fr vo lo at' fr' wb :=
  ⟨h.rn.more hb, h.go_, h.oblk.below hb h.oblk.lt, row_keep h.row fun b hb' => hb.block b (h.row.lt b hb').2, h.far, h.ne⟩
theorem row_ne {w : World} {base x : Nat} {v : Value} {n : Nat} {xs : List Value} {ty : TypeId} {cs : Array Value} (h : w.ownsRow base 51 4 v n xs) (hx : Blk w x ty cs) (ht : ty ≠ 51) : v.ownBlock ≠ some x := by
  rcases h.2 with ⟨rfl, _⟩ | ⟨g, cap, cur, rfl, _, hh, _⟩
  · simp [Value.ownBlock]
  · intro e
    injection e with e
    subst e
    exact Blk.ne (show Blk w g 51 cur from hh) hx (fun e => ht e.symm) rfl
/-- One box of the answer's is written. -/
theorem ON.obox (h : ON w cb ob vq l at_ fr vo lo at' fr' wr) (ht : Touch ob wr w1) {at2 : Int} {fr2 : Bool} (hc : Blk w1 ob 34 #[vo, .int .i64 at2, .bool fr2]) : ON w cb ob vq l at_ fr vo lo at2 fr2 w1 := by
  have hgo := h.go_
  have hgc := h.rn.gc
  refine ⟨⟨h.rn.below.trans (ht.below (by omega)), ht.blk h.rn.res (by omega), h.rn.gc, ht.blk h.rn.cblk h.ne, h.rn.tq.keep fun b hb => ht.block b fun e => h.rn.tq.ne_blk h.oblk (by decide) (by decide) (by rw [← e]; exact hb)⟩, h.go_, hc, row_keep h.row fun b hb => ht.block b fun e => row_ne h.row h.oblk (by decide) (by rw [hb, e]), h.far, h.ne⟩
/-- A queue more. -/
theorem ON.add (h : ON w cb ob vq l at_ fr vo lo at' fr' wr) (hb : Below wr.heap.size wr wb) (p : QV) {g' cap : Nat}
    (hr : w1.ownsRow (w.heap.size + 2) 51 4 (.slice (some ⟨g', 0, none⟩) (lo.length + 1) cap) (lo.length + 1) (flat (lo.map qrow) ++ flat [qrow p])) (hg : wb.grownBy w1 vo.ownBlock) (hat : vo.ownBlock = some g' ∨ g' = wb.heap.size) :
    ON w cb ob vq l at_ fr (.slice (some ⟨g', 0, none⟩) (lo.length + 1) cap) (lo ++ [p]) at' fr' (w1.setCell ⟨ob, 0, none⟩ (.slice (some ⟨g', 0, none⟩) (lo.length + 1) cap)) := by
  have hm := h.more hb
  have hgo := h.go_
  have hgc := h.rn.gc
  have hvo : ∀ b, vo.ownBlock = some b → w.heap.size + 2 ≤ b := fun b hb' => (h.row.lt b hb').1
  have hx : ∀ (x : Nat) (ty : TypeId) (cs : Array Value), Blk wb x ty cs → ty ≠ 51 → Blk w1 x ty cs := fun x ty cs hx ht => hx.grownBy hg (row_ne hm.row hx ht)
  have hq1 : TQ w1 (w.heap.size + 2) vq l [] := hm.rn.tq.keep fun b hb' => hg.block b (hm.rn.tq.lt hb').2 fun e => h.far b e.symm hb'
  have hob1 := hx _ _ _ hm.oblk (by decide)
  have hrn1 : RN w cb vq l at_ fr w1 := ⟨hm.rn.below.grown hg hm.rn.below.size fun j hj => by have := hvo j hj; omega, hx _ _ _ hm.rn.res (by decide), hgc, hx _ _ _ hm.rn.cblk (by decide), hq1⟩
  have hfar : ∀ b, (Value.slice (some ⟨g', 0, none⟩) (lo.length + 1) cap).ownBlock = some b → ¬ FQ vq l b := fun b hb' hf => by
    have e : some g' = some b := hb'
    injection e with e
    rcases hat with h1 | h1
    · exact h.far b (by rw [h1, e]) hf
    · have := (hm.rn.tq.lt hf).2
      omega
  have hl : (lo ++ [p]).length = lo.length + 1 := by simp
  have hr' : w1.ownsRow (w.heap.size + 2) 51 4 (.slice (some ⟨g', 0, none⟩) (lo.length + 1) cap) (lo ++ [p]).length (flat ((lo ++ [p]).map qrow)) := by
    rw [hl, List.map_append, flat_append]
    exact hr
  have ht : Touch ob w1 (w1.setCell ⟨ob, 0, none⟩ (.slice (some ⟨g', 0, none⟩) (lo.length + 1) cap)) := (Touch.refl _ _).set_ _ _
  refine ⟨⟨hrn1.below.trans (ht.below (by omega)), ht.blk hrn1.res (by omega), hgc, ht.blk hrn1.cblk h.ne, hq1.keep fun b hb' => ht.block b fun e => hq1.ne_blk hob1 (by decide) (by decide) (by rw [← e]; exact hb')⟩, hgo, ?_, row_keep hr' fun b hb' => ht.block b fun e => row_ne hr' hob1 (by decide) (by rw [hb', e]), hfar, h.ne⟩
  have := hob1.set_ 0 (.slice (some ⟨g', 0, none⟩) (lo.length + 1) cap)
  simpa using this
theorem ON.keepBlk (h : ON w cb ob vq l at_ fr vo lo at' fr' wr) (hb : Below wr.heap.size wr wb) (hg : wb.grownBy w1 vo.ownBlock) {x : Nat} {ty : TypeId} {cs : Array Value} (hx : Blk wr x ty cs) (ht : ty ≠ 51) (hxo : x ≠ ob) (u : Value) : Blk (w1.setCell ⟨ob, 0, none⟩ u) x ty cs :=
  (Blk.grownBy (hx.below hb hx.lt) hg (row_ne (h.more hb).row (hx.below hb hx.lt) ht)).far hxo u
/-- The answer is written. -/
theorem ON.ret (h : ON w cb ob vq l at_ fr vo lo at' fr' wr) (hlo : ∀ p ∈ lo, p ∈ l ∨ (p.2.1 = .slice none 0 0 ∧ p.1.cs = [] ∧ p.2.2 = [])) (t' : Tu) (hq : lo.map (·.1) = t'.qs) (ha : at' = t'.at_) (hf : fr' = t'.fr) :
    TuNew (((wr.setCell ⟨w.heap.size + 1, 0, none⟩ vo).setCell ⟨w.heap.size + 1, 1, none⟩ (.int .i64 at')).setCell ⟨w.heap.size + 1, 2, none⟩ (.bool fr')) w.heap.size wr.heap.size (.agg #[vo, .int .i64 at', .bool fr']) t' ∧
    Below w.heap.size w (((wr.setCell ⟨w.heap.size + 1, 0, none⟩ vo).setCell ⟨w.heap.size + 1, 1, none⟩ (.int .i64 at')).setCell ⟨w.heap.size + 1, 2, none⟩ (.bool fr')) ∧
    Blk (((wr.setCell ⟨w.heap.size + 1, 0, none⟩ vo).setCell ⟨w.heap.size + 1, 1, none⟩ (.int .i64 at')).setCell ⟨w.heap.size + 1, 2, none⟩ (.bool fr')) (w.heap.size + 1) 34 #[vo, .int .i64 at', .bool fr'] := by
  obtain ⟨h1, h2, h3⟩ := h.rn.ret vo (.int .i64 at') (.bool fr')
  have ht : Touch (w.heap.size + 1) wr (((wr.setCell ⟨w.heap.size + 1, 0, none⟩ vo).setCell ⟨w.heap.size + 1, 1, none⟩ (.int .i64 at')).setCell ⟨w.heap.size + 1, 2, none⟩ (.bool fr')) :=
    (((Touch.refl _ _).set_ 0 _).set_ 1 _).set_ 2 _
  refine ⟨?_, h2, h3⟩
  have hrow := row_keep h.row (w' := (((wr.setCell ⟨w.heap.size + 1, 0, none⟩ vo).setCell ⟨w.heap.size + 1, 1, none⟩ (.int .i64 at')).setCell ⟨w.heap.size + 1, 2, none⟩ (.bool fr'))) fun b hb => ht.block b (by have := (h.row.lt b hb).1; omega)
  obtain ⟨A, c, hv, hc1, hc2, hqs, hfr⟩ := read_rows (lo := w.heap.size) hrow (fun p hp => by
    rcases hlo p hp with hp | ⟨e1, e2, e3⟩
    · obtain ⟨i, hi, rfl⟩ := List.mem_iff_getElem.1 hp
      exact h1.own i _ (List.getElem?_eq_getElem hi)
    · exact .inl ⟨e1, e2, e3⟩)
  have hln : lo.length = t'.qs.length := by rw [← hq, List.length_map]
  rw [ht.size] at hqs
  refine ⟨A, c, by rw [hv, hln, ha, hf], by omega, hc2, ?_⟩
  rw [← hq]
  exact ⟨hqs, hfr _ (Nat.le_refl _) (by omega)⟩
end
theorem TuNew.mono {w : World} {lo B B' : Nat} {v : Value} {t : Tu} (h : TuNew w lo B v t) (hB : B ≤ B') : TuNew w lo B' v t := by
  obtain ⟨A, c, e, h1, h2, h3⟩ := h
  exact ⟨A, c, e, h1, h2, h3.mono hB⟩
theorem Trn.spot_ex {qs : List Qu} {id : Int} (h : Asc qs) (hno : ∀ (i : Nat) (q : Qu), qs[i]? = some q → q.id ≠ id) : ∃ p, Spot qs id p false := by
  have : ∀ n : Nat, (∀ (i : Nat) (q : Qu), i < n → qs[i]? = some q → q.id < id) ∨ ∃ (p : Nat) (q : Qu), qs[p]? = some q ∧ id ≤ q.id ∧ ∀ (i : Nat) (q' : Qu), i < p → qs[i]? = some q' → q'.id < id := by
    intro n
    induction n with
    | zero => exact .inl fun i q h => by omega
    | succ n ih =>
      rcases ih with h | h
      · by_cases hq : ∃ q, qs[n]? = some q ∧ id ≤ q.id
        · obtain ⟨q, h1, h2⟩ := hq
          exact .inr ⟨n, q, h1, h2, h⟩
        · refine .inl fun i q hi hq' => ?_
          rcases Nat.lt_or_ge i n with hl | hl
          · exact h i q hl hq'
          · obtain rfl : i = n := by omega
            rcases Int.lt_or_le q.id id with h3 | h3
            · exact h3
            · exact absurd ⟨q, hq', h3⟩ hq
      · exact .inr h
  rcases this qs.length with h1 | ⟨p, q, h1, h2, h3⟩
  · exact ⟨qs.length, Nat.le_refl _, fun i q hi => h1 i q hi, fun i q hi hq => by have := (List.getElem?_eq_some_iff.1 hq).1; omega, (fun e => by cases e), fun _ => hno⟩
  · refine ⟨p, by have := (List.getElem?_eq_some_iff.1 h1).1; omega, h3, fun i q' hi hq' => ?_, (fun e => by cases e), fun _ => hno⟩
    rcases Nat.lt_or_ge p i with hl | hl
    · have := h.lt p i q q' hl h1 hq'
      omega
    · obtain rfl : i = p := by omega
      rw [h1] at hq'
      injection hq' with hq'
      rw [← hq']
      exact h2
theorem Trn.spot_one {qs : List Qu} {id : Int} {p p' : Nat} (h : Spot qs id p false) (k : Spot qs id p' false) : p = p' := by
  rcases Nat.lt_trichotomy p p' with hl | hl | hl
  · have hpl : p < qs.length := by have := k.le; omega
    have hq : qs[p]? = some qs[p] := List.getElem?_eq_getElem hpl
    have h1 := h.above p _ (Nat.le_refl _) hq
    have h2 := k.below p _ hl hq
    omega
  · exact hl
  · have hpl : p' < qs.length := by have := h.le; omega
    have hq : qs[p']? = some qs[p'] := List.getElem?_eq_getElem hpl
    have h1 := k.above p' _ (Nat.le_refl _) hq
    have h2 := h.below p' _ hl hq
    omega
end Go.Proofs.Ytgbjhkgbjnobcaa
