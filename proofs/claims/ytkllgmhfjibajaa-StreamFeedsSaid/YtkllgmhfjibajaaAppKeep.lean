/- An append of a byte to bytes that are owned: what was read of them stays. Conditions: none. -/
import Derived.Test.YtkllgmhfjibajaaStands
import Derived.ArgAppend
namespace Go.Proofs.Ytkllgmhfjibajaa
open Go.RowKit St
theorem RB.set_ {w : World} {base b n : Nat} {v : Value} {xs : List Int} (h : RB w base v xs) (hn : xs.length ≤ n) (u : Value) : RB (w.setCell ⟨b, n, none⟩ u) base v xs := by
  obtain ⟨A, c, rfl, h1, h2, hx, hA⟩ := h
  refine ⟨A, c, rfl, h1, h2, fun h0 => ?_, fun a e => by simpa using hA a e⟩
  obtain ⟨b', o, rfl, hlt, hc⟩ := hx h0
  have ho : o = 0 := (hA _ rfl).1
  subst ho
  refine ⟨b', 0, rfl, by simpa using hlt, fun i x hi => ?_⟩
  have hil := (List.getElem?_eq_some_iff.1 hi).1
  rw [← hc i x hi]
  exact World.cell?_setCell_other (a := ⟨b, n, none⟩) (b := ⟨b', 0 + i, none⟩) (w := w) (v := u) (h := fun e => by injection e with _ e; omega)
theorem OwnB.put {w : World} {base b n cap : Nat} {ys : List Int} (h : OwnB w base (.slice (some ⟨b, 0, none⟩) n cap) ys) (hn : n = ys.length) (hr : n + 1 ≤ cap) (y : Int) : OwnB (w.setCell ⟨b, n, none⟩ (.int .u8 y)) base (.slice (some ⟨b, 0, none⟩) (n + 1) cap) (ys ++ [y]) := by
  subst hn
  rcases h.2 with ⟨e, _⟩ | ⟨b', cap', cur, e, hb, hh, h1, h2, h3, h4⟩
  · cases e
  · injection e with e _ e2
    injection e with e
    injection e with e
    subst e e2
    have hcs : cur.size = cap := by omega
    refine ⟨by simp, .inr ⟨b, cap, cur.setIfInBounds ys.length (.int .u8 y), by simp, hb, ?_, by simp; omega, h2, by simp; omega, ?_⟩⟩
    · exact heap_setCell_same w b ys.length cur 5 _ hh
    · have h4' : cur.toList.take ys.length = ys.map (Value.int .u8) := by rw [← h4, Nat.mul_one]
      rw [Array.toList_setIfInBounds, List.length_append, List.length_singleton, Nat.mul_one, List.map_append, ← h4']
      have hl : ys.length < cur.toList.length := by simp; omega
      rw [List.set_eq_take_append_cons_drop, if_pos hl]
      have htl : (cur.toList.take ys.length).length = ys.length := by rw [List.length_take]; omega
      rw [List.take_append, htl, Nat.add_sub_cancel_left, List.take_of_length_le (by omega)]
      rfl
theorem wpList_appK {w : World} {ops : Array Oper} {rest : List Oper} {o : Oper} {a : Act} {Q : Exit → Act → World → Prop} (hgd : o.guard = none) (s x : Operand)
    (ho : o.op = .call { callee := .builtin .append, args := #[s, x], argTypes := #[22, 22] })
    {base : Nat} {v : Value} {ys : List Int} (hs : a.eval s = v) (hown : OwnB w base v ys) (g0 : Nat) (y : Int) (c : Nat) (hx : a.eval x = .slice (some ⟨g0, 0, none⟩) 1 c) (hg0 : BytesAt w (some ⟨g0, 0, none⟩) [y])
    (hlen : ys.length + 1 ≤ 140737488355328) (hbase : base ≤ w.heap.size)
    (h : ∀ A' c' w', OwnB w' base (.slice A' (ys.length + 1) c') (ys ++ [y]) → ((Value.slice A' (ys.length + 1) c').ownBlock = v.ownBlock ∨ ∀ b, (Value.slice A' (ys.length + 1) c').ownBlock = some b → w.heap.size ≤ b) → Kp (fun j => v.ownBlock = some j) w w' →
      (∀ bv xs0, RB w base bv xs0 → xs0.length ≤ ys.length → RB w' base bv xs0) → wpList Try.prog ops Q rest (a.put o.dst (.slice A' (ys.length + 1) c')) w') : wpList Try.prog ops Q (o :: rest) a w := by
  rcases hown.2 with ⟨e, h0⟩ | ⟨b, cap, cur, e, hb, hh, h1, h2, h3, h4⟩
  · subst e
    refine wpList_app5 hgd s x ho hs hown ⟨g0, 0, none⟩ 1 c [y] hx rfl hg0 (by decide) hlen hbase fun g cap w' k1 k2 k3 k4 => ?_
    have hk : Kp (fun _ => False) w w' := (Kp.of_grown k2).mono (fun j hj => by cases hj)
    refine h _ cap w' k1 (.inr fun b hb => ?_) (hk.mono (fun j hj => hj.elim)) fun bv xs0 hr _ => hr.kp hk (fun _ _ h => h)
    rcases k3 with k3 | k3
    · cases k3
    · injection hb with hb
      simp only at hb
      omega
  · subst e
    obtain ⟨i0, hi, hz0, hz1, hz2⟩ : ∃ i, Try.prog.info? 5 = some i ∧ i.zero = some (.int .u8 0) ∧ i.size = 1 ∧ i.bytes = 1 := by
      have h := info5
      cases hh : Try.prog.info? 5 with
      | none => rw [hh] at h; cases h
      | some i => rw [hh] at h; simp at h; exact ⟨i, rfl, h⟩
    have hB : Blk w b 5 cur := hh
    have hcs : cur.size = cap := by omega
    have holds : ∀ j u, (ys.map (Value.int .u8))[j]? = some u → w.cell? ⟨b, 0 + j, none⟩ = some u := fun j u hu => by
      have hj := (List.getElem?_eq_some_iff.1 hu).1
      rw [List.length_map] at hj
      rw [Nat.zero_add, World.ownsRow.cellAt hown j (by omega)]
      exact hu
    refine wpList_append_arg w hgd s x 22 ho 5 i0 (.int .u8 0) 1 1 Try.underlying22 hi hz0 hz1 hz2 rfl (by decide) b 0 ys.length cap (ys.map (Value.int .u8)) hs (by simp) holds ⟨g0, 0, none⟩ 1 c ([y].map (Value.int .u8)) hx rfl hg0.news (bytes_one _) (fun hr j hj => ?_) (by unfold maxLen at h2 ⊢; omega) (by omega) (fun hr => ?_) (fun hg v' w' k1 k2 => ?_)
    · simp at hj
      subst hj
      refine ⟨?_, hB.frozen _⟩
      rw [hB.cell]
      have : ys.length < cur.size := by omega
      simp [this]
    · have e1 : w.setCells b (0 + ys.length * 1) ([y].map (Value.int .u8)) = w.setCell ⟨b, ys.length, none⟩ (.int .u8 y) := by
        simp [World.setCells]
      rw [e1]
      exact h _ cap _ (OwnB.put hown rfl hr y) (.inl rfl) (Kp.set_ (fun j => (Value.slice (some ⟨b, 0, none⟩) ys.length cap).ownBlock = some j) w (p := ⟨b, ys.length, none⟩) rfl _) fun bv xs0 hr hl => hr.set_ hl _
    · have h1' : OwnB w' w.heap.size v' (ys ++ [y]) := by
        refine ⟨by simp, ?_⟩
        have := k1.2
        rw [← List.map_append] at this
        rw [List.length_append]
        exact this
      obtain ⟨A', c', rfl, _, _⟩ := h1'.shape
      have hk : Kp (fun _ => False) w w' := (Kp.of_grown k2).mono (fun j hj => by cases hj)
      have e1 : (ys ++ [y]).length = ys.length + 1 := by simp
      rw [e1] at h1' ⊢
      exact h A' c' w' (h1'.mono hbase) (.inr fun b hb => (h1'.lt hb).1) (hk.mono (fun j hj => hj.elim)) fun bv xs0 hr _ => hr.kp hk (fun _ _ h => h)
end Go.Proofs.Ytkllgmhfjibajaa
