/- The walk of 'DedupeFolds'. Conditions: the arguments are readable, a little less than a slice bears. -/
import Derived.Test.YtmcahimapoddfaaRefFold
import Derived.Test.YtmcahimapoddfaaRoomy
import Derived.Test.YtmcahimapoddfaaSameRecs
namespace Go.Proofs.Ytmcahimapoddfaa
open Go.RowKit Go.Maps

theorem flat_set7 : ∀ (l : List Rc) (i : Nat) (r : Rc), i < l.length → (l.set i r).flatMap rcCells =
    (((((((l.flatMap rcCells).set (i * 7) (.int .i64 r.kind)).set (i * 7 + 1) (.int .i64 r.off)).set (i * 7 + 2) (.int .i64 r.tim)).set (i * 7 + 3) (.int .i64 r.pid)).set (i * 7 + 4) (.int .i64 r.seq)).set (i * 7 + 5) (.string r.key)).set (i * 7 + 6) (.string r.val)
  | [], _, _, h => by simp at h
  | x :: l, 0, r, _ => by simp [rcCells]
  | x :: l, i + 1, r, h => by
    have hi : i < l.length := by simpa using h
    have e : ∀ j, (i + 1) * 7 + j = i * 7 + j + 1 + 1 + 1 + 1 + 1 + 1 + 1 := fun j => by omega
    have e0 : (i + 1) * 7 = i * 7 + 1 + 1 + 1 + 1 + 1 + 1 + 1 := by omega
    rw [List.set_cons_succ, List.flatMap_cons, List.flatMap_cons, flat_set7 l i r hi, e 1, e 2, e 3, e 4, e 5, e 6, e0]
    simp only [rcCells, List.cons_append, List.nil_append, List.set_cons_succ]
section
variable {w w' : World} {base g cap n : Nat} {ys : List Rc}
/-- A record is written over another. -/
theorem OwnR.set7 (h : OwnR w base (.slice (some ⟨g, 0, none⟩) ys.length cap) ys) {i : Nat} (hi : i < ys.length) (r : Rc) :
    OwnR (((((((w.setCell ⟨g, i * 7, none⟩ (.int .i64 r.kind)).setCell ⟨g, i * 7 + 1, none⟩ (.int .i64 r.off)).setCell ⟨g, i * 7 + 2, none⟩ (.int .i64 r.tim)).setCell ⟨g, i * 7 + 3, none⟩ (.int .i64 r.pid)).setCell ⟨g, i * 7 + 4, none⟩ (.int .i64 r.seq)).setCell ⟨g, i * 7 + 5, none⟩ (.string r.key)).setCell ⟨g, i * 7 + 6, none⟩ (.string r.val)) base (.slice (some ⟨g, 0, none⟩) ys.length cap) (ys.set i r) ∧
    Kp (fun j => j = g) w (((((((w.setCell ⟨g, i * 7, none⟩ (.int .i64 r.kind)).setCell ⟨g, i * 7 + 1, none⟩ (.int .i64 r.off)).setCell ⟨g, i * 7 + 2, none⟩ (.int .i64 r.tim)).setCell ⟨g, i * 7 + 3, none⟩ (.int .i64 r.pid)).setCell ⟨g, i * 7 + 4, none⟩ (.int .i64 r.seq)).setCell ⟨g, i * 7 + 5, none⟩ (.string r.key)).setCell ⟨g, i * 7 + 6, none⟩ (.string r.val)) := by
  have s0 := World.ownsRow.stored h (i * 7) (.int .i64 r.kind)
  have s1 := s0.1.stored (i * 7 + 1) (.int .i64 r.off)
  have s2 := s1.1.stored (i * 7 + 2) (.int .i64 r.tim)
  have s3 := s2.1.stored (i * 7 + 3) (.int .i64 r.pid)
  have s4 := s3.1.stored (i * 7 + 4) (.int .i64 r.seq)
  have s5 := s4.1.stored (i * 7 + 5) (.string r.key)
  have s6 := s5.1.stored (i * 7 + 6) (.string r.val)
  refine ⟨?_, ?_⟩
  · unfold OwnR
    rw [List.length_set, flat_set7 ys i r hi]
    exact s6.1
  · have k : ∀ {u u' : World}, u.grownBy u' (some g) → Kp (fun j => j = g) u u' := fun hg => (Kp.of_grown hg).mono (fun j e => by injection e with e; exact .inl e.symm)
    exact (k s0.2).trans ((k s1.2).trans ((k s2.2).trans ((k s3.2).trans ((k s4.2).trans ((k s5.2).trans (k s6.2) (fun j e => .inl e)) (fun j e => .inl e)) (fun j e => .inl e)) (fun j e => .inl e)) (fun j e => .inl e)) (fun j e => .inl e)
/-- An element's cells. -/
theorem OwnR.at7 (h : OwnR w base (.slice (some ⟨g, 0, none⟩) ys.length cap) ys) {i : Nat} {r : Rc} (hr : ys[i]? = some r) :
    w.cell? ⟨g, i * 7, none⟩ = some (.int .i64 r.kind) ∧ w.cell? ⟨g, i * 7 + 1, none⟩ = some (.int .i64 r.off) ∧ w.cell? ⟨g, i * 7 + 2, none⟩ = some (.int .i64 r.tim) ∧ w.cell? ⟨g, i * 7 + 3, none⟩ = some (.int .i64 r.pid) ∧
    w.cell? ⟨g, i * 7 + 4, none⟩ = some (.int .i64 r.seq) ∧ w.cell? ⟨g, i * 7 + 5, none⟩ = some (.string r.key) ∧ w.cell? ⟨g, i * 7 + 6, none⟩ = some (.string r.val) := by
  have hi := (List.getElem?_eq_some_iff.1 hr).1
  have hf := flat_getR ys i r hr
  refine ⟨?_, ?_, ?_, ?_, ?_, ?_, ?_⟩
  · rw [World.ownsRow.cellAt h _ (by omega), ← Nat.add_zero (i * 7), hf 0 (by omega)]; rfl
  · rw [World.ownsRow.cellAt h _ (by omega), hf 1 (by omega)]; rfl
  · rw [World.ownsRow.cellAt h _ (by omega), hf 2 (by omega)]; rfl
  · rw [World.ownsRow.cellAt h _ (by omega), hf 3 (by omega)]; rfl
  · rw [World.ownsRow.cellAt h _ (by omega), hf 4 (by omega)]; rfl
  · rw [World.ownsRow.cellAt h _ (by omega), hf 5 (by omega)]; rfl
  · rw [World.ownsRow.cellAt h _ (by omega), hf 6 (by omega)]; rfl
/-- A list with one record more: the list without it, in its place. -/
theorem OwnR.less {rs : List Rc} {x : Rc} (h : OwnR w base (.slice (some ⟨g, 0, none⟩) (rs.length + 1) cap) (rs ++ [x])) :
    RS w (.slice (some ⟨g, 0, none⟩) rs.length cap) rs ∧ w.cell? ⟨g, rs.length * 7, none⟩ = some (.int .i64 x.kind) := by
  unfold OwnR at h
  rw [List.length_append, List.flatMap_append] at h
  have hx := World.ownsRow.cellAt h (rs.length * 7) (by show _ < (rs.length + 1) * 7; omega)
  rw [List.getElem?_append_right (by rw [flat_lenR]; exact Nat.le_refl _), flat_lenR, Nat.sub_self] at hx
  refine ⟨?_, hx⟩
  refine OwnR.toS (base := base) ⟨flat_lenR rs, ?_⟩
  rcases h.2 with ⟨h', _⟩ | ⟨g', cap', cur, e, hb, hh, h1, h2, h3, h4⟩
  · cases h'
  · injection e with e1 _ e2
    injection e1 with e1
    injection e1 with e1 _ _
    subst e1 e2
    have h1' : rs.length + 1 ≤ cap := h1
    refine .inr ⟨g, cap, cur, rfl, hb, hh, by omega, h2, h3, ?_⟩
    have := congrArg (List.take (rs.length * 7)) h4
    rw [List.take_take, Nat.min_eq_left (by show _ ≤ (rs.length + 1) * 7; omega), List.take_append_of_le_length (by rw [flat_lenR]; exact Nat.le_refl _)] at this
    have h5 : List.take (rs.length * 7) (rs.flatMap rcCells) = rs.flatMap rcCells := List.take_of_length_le (by rw [flat_lenR]; exact Nat.le_refl _)
    rw [h5] at this
    exact this
end
end Go.Proofs.Ytmcahimapoddfaa
