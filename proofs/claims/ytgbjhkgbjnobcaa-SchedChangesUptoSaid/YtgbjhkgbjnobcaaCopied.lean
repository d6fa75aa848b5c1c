/- The walk of 'sched.copied': the same turns in memory of their own. Conditions: at most 32 queues, lists of costs within reach. -/
import Derived.Test.YtgbjhkgbjnobcaaOwnMem
import Derived.Test.YtgbjhkgbjnobcaaCheckWalk
import Derived.StillTailTactics
namespace Go.Proofs.Ytgbjhkgbjnobcaa
open Go.RowKit Trn

theorem info51 : (Try.prog.info? 51).map (fun i => (i.zero, i.size, i.bytes)) = some (some (.agg #[.int .i64 0, .int .i64 0, .int .i64 0, .slice none 0 0]), 4, 48) := by kernel_rfl
/-- A row as 'make' lays it. -/
def zrow : R4 := ⟨.int .i64 0, .int .i64 0, .int .i64 0, .slice none 0 0⟩
theorem made_rows (n : Nat) : madeCells (Value.agg #[.int .i64 0, .int .i64 0, .int .i64 0, .slice none 0 0]).cells (n * 4) = (flat (List.replicate n zrow)).toArray := by
  apply Array.ext'
  simp only [madeCells, Array.toList_map, Array.toList_range]
  apply List.ext_getElem?
  intro m
  rw [List.getElem?_map]
  rcases Nat.lt_or_ge m (n * 4) with h | h
  · rw [List.getElem?_range h]
    have hr : (List.replicate n zrow)[m / 4]? = some zrow := by rw [List.getElem?_replicate, if_pos (by omega)]
    obtain ⟨h0, h1, h2, h3⟩ := flat_at _ _ _ hr
    have hm : m % 4 = 0 ∨ m % 4 = 1 ∨ m % 4 = 2 ∨ m % 4 = 3 := by omega
    rcases hm with e | e | e | e
    · rw [show m = m / 4 * 4 by omega, h0]; simp [Value.cells, zrow]
    · rw [show m = m / 4 * 4 + 1 by omega, h1]; simp [Value.cells, zrow]
    · rw [show m = m / 4 * 4 + 2 by omega, h2]; simp [Value.cells, zrow]
    · rw [show m = m / 4 * 4 + 3 by omega, h3]; simp [Value.cells, zrow]
  · rw [List.getElem?_eq_none (by simpa using h), List.getElem?_eq_none (by rw [flat_len]; simpa using h)]
    rfl

/-- The lists of costs are within reach. -/
def Reach (t : Tu) : Prop := ∀ q ∈ t.qs, q.cs.length * 8 ≤ 140737488351232

/-- The memory of 'copied': the queues done, and the rows that are left. -/
structure CM (w : World) (A : Option Addr) (c : Nat) (t : Tu) (k : Nat) (l : List (Qu × Value)) (rest : List R4) (wr : World) : Prop extends Boxed w A t.qs.length c t.at_ t.fr wr where
  res : Blk wr (w.heap.size + 1) 34 #[.slice none 0 0, .int .i64 0, .bool false]
  cbox : Blk wr (w.heap.size + 1 + 1) 34 #[.slice (some ⟨w.heap.size + 1 + 1 + 1, 0, none⟩) t.qs.length t.qs.length, .int .i64 t.at_, .bool t.fr]
  q : QBlk wr (w.heap.size + 1 + 1 + 1) (rows l ++ rest)
  len : l.length = k
  fst : l.map (·.1) = t.qs.take k
  own : ∀ (i : Nat) (p : Qu × Value), l[i]? = some p → OwnInts wr (w.heap.size + 1 + 1 + 1 + 1) p.2 p.1.cs
  apart : ∀ (i j : Nat) (p q : Qu × Value), i ≠ j → l[i]? = some p → l[j]? = some q → ∀ b, p.2.ownBlock = some b → q.2.ownBlock ≠ some b
theorem CM.start (w : World) (A : Option Addr) (c : Nat) (t : Tu) : CM w A c t 0 [] (List.replicate t.qs.length zrow) ((((w.alloc (.cells #[.slice A t.qs.length c, .int .i64 t.at_, .bool t.fr] 34)).alloc (.cells #[.slice none 0 0, .int .i64 0, .bool false] 34)).alloc
    (.cells #[.slice (some ⟨w.heap.size + 1 + 1 + 1, 0, none⟩) t.qs.length t.qs.length, .int .i64 t.at_, .bool t.fr] 34)).alloc (.cells (flat (List.replicate t.qs.length zrow)).toArray 51)) := by
  refine ⟨((((Boxed.start w _ _ _ _ _).alloc _).alloc _).alloc _), ?_, ?_, ?_, rfl, by simp, fun i p h => by simp at h, fun i j p q _ h => by simp at h⟩
  · have h := ((Blk.new (w.alloc (.cells #[.slice A t.qs.length c, .int .i64 t.at_, .bool t.fr] 34)) 34 #[.slice none 0 0, .int .i64 0, .bool false]).alloc
      (.cells #[.slice (some ⟨w.heap.size + 1 + 1 + 1, 0, none⟩) t.qs.length t.qs.length, .int .i64 t.at_, .bool t.fr] 34)).alloc (.cells (flat (List.replicate t.qs.length zrow)).toArray 51)
    simpa using h
  · have h := (Blk.new ((w.alloc (.cells #[.slice A t.qs.length c, .int .i64 t.at_, .bool t.fr] 34)).alloc (.cells #[.slice none 0 0, .int .i64 0, .bool false] 34)) 34
      #[.slice (some ⟨w.heap.size + 1 + 1 + 1, 0, none⟩) t.qs.length t.qs.length, .int .i64 t.at_, .bool t.fr]).alloc (.cells (flat (List.replicate t.qs.length zrow)).toArray 51)
    simpa using h
  · have h := Blk.new (((w.alloc (.cells #[.slice A t.qs.length c, .int .i64 t.at_, .bool t.fr] 34)).alloc (.cells #[.slice none 0 0, .int .i64 0, .bool false] 34)).alloc
      (.cells #[.slice (some ⟨w.heap.size + 1 + 1 + 1, 0, none⟩) t.qs.length t.qs.length, .int .i64 t.at_, .bool t.fr] 34)) 51 (flat (List.replicate t.qs.length zrow)).toArray
    simpa [QBlk, rows] using h
section
variable {w wr w1 : World} {A : Option Addr} {c k : Nat} {t : Tu} {l : List (Qu × Value)} {rest rest' : List R4} {r : R4}
theorem CM.here (h : CM w A c t k l (r :: rest) wr) : (rows l ++ r :: rest)[k]? = some r := by
  rw [List.getElem?_append_right (by rw [rows, List.length_map, h.len]; exact Nat.le_refl _), rows, List.length_map, h.len, Nat.sub_self]
  rfl
theorem CM.here_set (h : CM w A c t k l (r :: rest) wr) (r' : R4) : (rows l ++ r :: rest).set k r' = rows l ++ r' :: rest := by
  rw [List.set_append_right _ _ (by rw [rows, List.length_map, h.len]; exact Nat.le_refl _), rows, List.length_map, h.len, Nat.sub_self]
  rfl
theorem CM.more (h : CM w A c t k l rest wr) (hb : Below wr.heap.size wr w1) : CM w A c t k l rest w1 :=
  ⟨h.toBoxed.more hb, h.res.below hb h.res.lt, h.cbox.below hb h.cbox.lt, Blk.below h.q hb (Blk.lt h.q), h.len, h.fst, fun i p hp => (h.own i p hp).below hb (Nat.le_refl _), h.apart⟩
theorem CM.drew (h : CM w A c t k l rest wr) : CM w A c t k l rest wr.drew := h.more (Below.drew (Below.refl _ _))
theorem CM.store (h : CM w A c t k l rest wr) (o : Nat) (u : Value) (hq : QBlk (wr.setCell ⟨w.heap.size + 1 + 1 + 1, o, none⟩ u) (w.heap.size + 1 + 1 + 1) (rows l ++ rest')) :
    CM w A c t k l rest' (wr.setCell ⟨w.heap.size + 1 + 1 + 1, o, none⟩ u) :=
  ⟨⟨h.box.far (by simp <;> omega) _, h.below.setCell (by simp <;> omega) _⟩, h.res.far (by simp <;> omega) _, h.cbox.far (by simp <;> omega) _, hq, h.len, h.fst, fun i p hp => (h.own i p hp).setCell ((h.own i p hp).ne_q h.q) _, h.apart⟩
theorem CM.put (h : CM w A c t k l (r :: rest) wr) (r' : R4) : CM w A c t k l (r' :: rest)
    ((((wr.setCell ⟨w.heap.size + 1 + 1 + 1, k * 4, none⟩ r'.a).setCell ⟨w.heap.size + 1 + 1 + 1, k * 4 + 1, none⟩ r'.b).setCell ⟨w.heap.size + 1 + 1 + 1, k * 4 + 2, none⟩ r'.c).setCell ⟨w.heap.size + 1 + 1 + 1, k * 4 + 3, none⟩ r'.d) := by
  have s0 := h.store (rest' := { r with a := r'.a } :: rest) _ r'.a (by rw [← h.here_set]; exact h.q.set0 h.here _)
  have s1 := s0.store (rest' := { r with a := r'.a, b := r'.b } :: rest) _ r'.b (by rw [← s0.here_set]; exact s0.q.set1 s0.here _)
  have s2 := s1.store (rest' := { r with a := r'.a, b := r'.b, c := r'.c } :: rest) _ r'.c (by rw [← s1.here_set]; exact s1.q.set2 s1.here _)
  exact s2.store (rest' := r' :: rest) _ r'.d (by rw [← s2.here_set]; exact s2.q.set3 s2.here _)
theorem CM.fix {q : Qu} {raw v : Value} (h : CM w A c t k l (row q raw :: rest) wr) (hb : Below wr.heap.size wr w1) (hv : OwnInts w1 wr.heap.size v q.cs) (hq : t.qs[k]? = some q) :
    CM w A c t (k + 1) (l ++ [(q, v)]) rest (w1.setCell ⟨w.heap.size + 1 + 1 + 1, k * 4 + 3, none⟩ v) := by
  have h1 := h.more hb
  have h2 := h1.store (rest' := row q v :: rest) (k * 4 + 3) v (by rw [← h1.here_set]; exact h1.q.set3 h1.here _)
  have hlt : w.heap.size + 1 + 1 + 1 < wr.heap.size := Blk.lt h.q
  have hvn : v.ownBlock ≠ some (w.heap.size + 1 + 1 + 1) := fun e => by have := (hv.lt e).1; omega
  refine ⟨h2.toBoxed, h2.res, h2.cbox, ?_, by simp [h.len], ?_, ?_, ?_⟩
  · have := h2.q
    simpa [rows] using this
  · rw [List.take_add_one, hq, List.map_append, h.fst]; rfl
  · intro i p hp
    rcases Nat.lt_or_ge i l.length with hi | hi
    · rw [List.getElem?_append_left hi] at hp
      exact h2.own i p hp
    · rw [List.getElem?_append_right hi] at hp
      rcases Nat.eq_zero_or_pos (i - l.length) with h0 | h0
      · rw [h0] at hp
        simp only [List.getElem?_cons_zero, Option.some.injEq] at hp
        subst hp
        exact (hv.setCell hvn _).mono (by omega)
      · rw [List.getElem?_eq_none (by simp; omega)] at hp
        cases hp
  · have old : ∀ (i : Nat) (p : Qu × Value), l[i]? = some p → ∀ b, p.2.ownBlock = some b → b < wr.heap.size := fun i p hp b hb' => ((h.own i p hp).lt hb').2
    have new : ∀ b, v.ownBlock = some b → wr.heap.size ≤ b := fun b hb' => (hv.lt hb').1
    have split : ∀ (i : Nat) (p : Qu × Value), (l ++ [(q, v)])[i]? = some p → (l[i]? = some p ∧ i < l.length) ∨ (p = (q, v) ∧ i = l.length) := by
      intro i p hp
      rcases Nat.lt_or_ge i l.length with hi | hi
      · rw [List.getElem?_append_left hi] at hp
        exact .inl ⟨hp, hi⟩
      · rw [List.getElem?_append_right hi] at hp
        rcases Nat.eq_zero_or_pos (i - l.length) with h0 | h0
        · rw [h0] at hp
          simp only [List.getElem?_cons_zero, Option.some.injEq] at hp
          exact .inr ⟨hp.symm, by omega⟩
        · rw [List.getElem?_eq_none (by simp; omega)] at hp
          cases hp
    intro i j p p' hij hi hj b hbp hbq
    rcases split i p hi with ⟨a1, a2⟩ | ⟨rfl, a2⟩ <;> rcases split j p' hj with ⟨b1, b2⟩ | ⟨rfl, b2⟩
    · exact h.apart i j p p' hij a1 b1 b hbp hbq
    · have := old i p a1 b hbp; have := new b hbq; omega
    · have := old j p' b1 b hbq; have := new b hbp; omega
    · omega
end

theorem w2_ints {B : Nat} {A : Option Addr} {xs : List Int} (u w : World) (h : u.heap = w.heap) (hi : IntsAt w B A xs) : IntsAt u B A xs := fun h0 => by
  obtain ⟨b, o, e, hlt, hc⟩ := hi h0
  exact ⟨b, o, e, hlt, fun i x hx => (World.cell?_of_block (w := w) (a := ⟨b, o + i, none⟩) (by rw [h])).trans (hc i x hx)⟩
theorem OwnInts.shape {w : World} {base : Nat} {v : Value} {xs : List Int} (h : OwnInts w base v xs) : ∃ A n c, v = .slice A n c := by
  obtain ⟨_, h⟩ := h
  rcases h with ⟨rfl, _⟩ | ⟨b, cap, cur, rfl, _⟩
  · exact ⟨_, _, _, rfl⟩
  · exact ⟨_, _, _, rfl⟩
theorem below_undrew {B : Nat} {w w1 : World} (h : Below B w.drew w1) : Below B w w1 := ⟨h.os, h.tape, h.output, h.size, h.block⟩
set_option maxRecDepth 100000 in
set_option maxHeartbeats 2000000 in
theorem copied_any (v : Value) (t : Tu) (w : World) (B : Nat) (hB : B ≤ w.heap.size) (hv : TuAt w B v t) (hlen : t.qs.length ≤ 32) (hr : Reach t) :
    Calls Try.prog 32 #[v] w fun e w' => (∃ g l, e = .returned (.agg #[.slice (some ⟨g, 0, none⟩) t.qs.length t.qs.length, .int .i64 t.at_, .bool t.fr]) ∧ OwnQs w' w.heap.size g l ∧ l.map (·.1) = t.qs) ∧ Below w.heap.size w w' := by
  obtain ⟨A, c, rfl, hlc, hcm, hq⟩ := hv
  unfold maxLen at hcm
  obtain ⟨i0, hi, hz0, hz1, hz2⟩ := info_parts info51
  have hmk : ∀ u : World, (Instr.makeSlice 32 (.int .i64 (t.qs.length : Int)) (.int .i64 (t.qs.length : Int))).run Try.prog u =
      .ok (.slice (some ⟨u.heap.size, 0, none⟩) t.qs.length t.qs.length) (u.alloc (.cells (flat (List.replicate t.qs.length zrow)).toArray 51)) := fun u => by
    have h := run_make (P := Try.prog) u 32 51 i0 _ Try.underlying32 hi hz0 .i64 .i64 (t.qs.length : Int) (t.qs.length : Int) (by omega) (Int.le_refl _) (by rw [hz2]; omega) (by omega)
    rw [hz1, Int.toNat_natCast, made_rows] at h
    exact h
  have Hq := Lib.hid hq
  clear hq hi hz0 hz1 hz2
  go_enter Try.func32, Try.ntmps32
  go_wp2
  go_loopg [14] t.qs.length (fun g i wr => ∃ k l, g + k = t.qs.length ∧ i = .int .i64 (k : Nat) ∧ CM w A c t k l (List.replicate (t.qs.length - k) zrow) wr)
  case atStart => exact ⟨0, [], by omega, rfl, CM.start w A c t⟩
  case round =>
    obtain ⟨k, l, hk, rfl, hm⟩ := hrel
    have Hk := Lib.hid hk
    have hkn : k ≤ t.qs.length := by omega
    clear hk
    obtain ⟨c0, c1, c2⟩ := hm.toBoxed.cells
    have d0 := hm.cbox.cell 0
    have d1 := hm.cbox.cell 1
    have d2 := hm.cbox.cell 2
    simp at d0 d1 d2
    have hsz := hm.toBoxed.lt
    by_cases hlt : k < t.qs.length
    · have hki : (k : Int) < t.qs.length := by omega
      obtain ⟨b, o, q, rfl, hb, hqk, q0, q1, q2, Aq, cq, q3, hcq, hcqm, hin⟩ := (Hq.out.below (hm.below.mono hB)).at_ hlt
      rw [show t.qs.length - k = (t.qs.length - (k + 1)) + 1 by omega, List.replicate_succ] at hm
      have hz := hm.here
      obtain ⟨z0, z1, z2, z3⟩ := hm.q.cells hz
      have f0 := Blk.frozen hm.q (k * 4)
      have f1 := Blk.frozen hm.q (k * 4 + 1)
      have f2 := Blk.frozen hm.q (k * 4 + 2)
      have f3 := Blk.frozen hm.q (k * 4 + 3)
      have Hm := Lib.hid hm
      clear hm
      go_wp2_with fail
      go_still_tail 9, (by kernel_rfl)
      change wpList _ _ _ _ _ wr.drew
      simp only [zrow] at z0 z1 z2 z3
      go_wp2_with fail
      have hm2 := (Hm.out.put (row q (.slice Aq q.cs.length cq))).drew
      simp only [row] at hm2
      generalize hw2 : World.drew _ = w2
      rw [hw2] at hm2
      clear hw2 c1 c2 d0 d1 d2 hsz c0 q0 q1 q2 q3 hin z0 z1 z2 z3 f0 f1 f2 f3 Hm hz
      have c0 := hm2.toBoxed.cells.1
      have d0 := hm2.cbox.cell 0
      simp at d0
      have hsz := Blk.lt hm2.q
      obtain ⟨b', o', q', e, hb', hqk', q0, q1, q2, Aq', cq', q3, hcq', hcqm', hin⟩ := (Hq.out.below (hm2.below.mono hB)).at_ hlt
      injection e with e
      injection e with e1 e2 e3
      subst e1 e2
      rw [hqk] at hqk'
      injection hqk' with hqk'
      subst hqk'
      obtain ⟨z0, z1, z2, z3⟩ := hm2.q.cells hm2.here
      dsimp only at z3
      have f3 := Blk.frozen hm2.q (k * 4 + 3)
      have n1 : b < w2.heap.size := by omega
      have n2 : ¬ b = w.heap.size + 1 + 1 + 1 := by omega
      have n3 : w.heap.size < w2.heap.size := by omega
      have n5 : ¬ w.heap.size = w.heap.size + 1 + 1 + 1 := by omega
      have n6 : ¬ w.heap.size + 1 + 1 + 1 = w.heap.size := by omega
      have n7 : ¬ w.heap.size + 1 + 1 + 1 = b := by omega
      have n4 : w.heap.size + 1 + 1 < w2.heap.size := by omega
      have hln : q.cs.length * 8 ≤ 140737488355328 := by have := hr q (List.mem_of_getElem? hqk); omega
      have Hin := Lib.hid hin
      have Hm := Lib.hid hm2
      clear hm2 hin
      go_region_held3 (fun w' => w'.cell? ⟨w.heap.size, 0, none⟩ = some (.slice (some ⟨b, o, none⟩) t.qs.length c) ∧ w'.cell? ⟨w.heap.size + 1 + 1, 0, none⟩ = some (.slice (some ⟨w.heap.size + 1 + 1 + 1, 0, none⟩) t.qs.length t.qs.length) ∧ w'.cell? ⟨b, o + k * 4 + 3, none⟩ = some (.slice Aq' q.cs.length cq'))
        (go_keep)
        (first | (go_at_call 43; refine Calls.mono (clone_any Aq' cq' q.cs _ B (w2_ints _ _ rfl Hin.out) hln) ?_; rintro e w3 ⟨⟨v, rfl, hown⟩, hb3⟩; have hb3 : Below w2.heap.size w2 w3 := below_undrew hb3; have hown : OwnInts w3 w2.heap.size v q.cs := hown; obtain ⟨Av, nv, cv, rfl⟩ := hown.shape; obtain ⟨hcc, hff⟩ := bcell hb3))
      all_goals (go_wp2; go_roundg (gk - 1); (case measure => have := Hk.out; omega); (case rel => exact ⟨k + 1, _, by have := Hk.out; omega, by go_num, CM.fix (raw := .slice Aq q.cs.length cq) Hm.out hb3 hown hqk⟩))
    · have hke : k = t.qs.length := by omega
      subst hke
      have e0 := hm.res.cell 0
      have e1 := hm.res.cell 1
      have e2 := hm.res.cell 2
      have f0 := hm.res.frozen 0
      have f1 := hm.res.frozen 1
      have f2 := hm.res.frozen 2
      simp at e0 e1 e2
      have Hm := Lib.hid hm
      clear hm
      go_wp2
      have fin := ((Hm.out.res.set_ 0 (.slice (some ⟨w.heap.size + 1 + 1 + 1, 0, none⟩) t.qs.length t.qs.length)).set_ 1 (.int .i64 t.at_)).set_ 2 (.bool t.fr)
      have r0 := fin.cell 0
      have r1 := fin.cell 1
      have r2 := fin.cell 2
      simp at r0 r1 r2
      refine bodyPost_ret (v := .agg #[.slice (some ⟨w.heap.size + 1 + 1 + 1, 0, none⟩) t.qs.length t.qs.length, .int .i64 t.at_, .bool t.fr]) (by simp [results, Try.results32, go_sem, r0, r1, r2]) rfl ⟨⟨_, l, rfl, ?_, ?_⟩, ?_⟩
      · have hm := Hm.out
        rw [Nat.sub_self, List.replicate_zero] at hm
        have hq := hm.q
        rw [List.append_nil] at hq
        refine ⟨((Blk.far (Blk.far (Blk.far hq ?_ _) ?_ _) ?_ _) : Blk _ _ _ _), by omega, fun i p hp => ?_, hm.apart⟩
        · simp <;> omega
        · simp <;> omega
        · simp <;> omega
        · have ho := hm.own i p hp
          have hne : p.2.ownBlock ≠ some (w.heap.size + 1) := fun e => by have := (ho.lt e).1; omega
          exact (((ho.setCell hne _).setCell hne _).setCell hne _).mono (by omega)
      · rw [Hm.out.fst, List.take_length]
      · exact ((Hm.out.below.setCell (by simp <;> omega) _).setCell (by simp <;> omega) _).setCell (by simp <;> omega) _
end Go.Proofs.Ytgbjhkgbjnobcaa
