/- An append of bytes to the rest of bytes that are owned. Conditions: none. -/
import Derived.Test.YtkllgmhfjibajaaRd
import Derived.ArgAppend
namespace Go.Proofs.Ytkllgmhfjibajaa
open Go.RowKit
theorem Kp.setCells (g : Nat) : ∀ (vs : List Value) (o : Nat) (w : World), Kp (fun j => j = g) w (w.setCells g o vs)
  | [], _, w => Kp.refl _ w
  | v :: r, o, w => (Kp.set_ (fun j => j = g) w (p := ⟨g, o, none⟩) rfl v).trans (Kp.setCells g r (o + 1) _) (fun _ hj => .inl hj)
theorem wpList_app_rest {ops : Array Oper} {rest : List Oper} {o : Oper} {a : Act} {Q : Exit → Act → World → Prop} {w : World} (hgd : o.guard = none) (s x : Operand)
    (ho : o.op = .call { callee := .builtin .append, args := #[s, x], argTypes := #[22, 22] })
    {base g cap k : Nat} {bs : List Int} (hown : OwnB w base (.slice (some ⟨g, 0, none⟩) bs.length cap) bs) (hk : k ≤ bs.length) (hs : a.eval s = .slice (some ⟨g, k, none⟩) (bs.length - k) (cap - k))
    (ad : Addr) (m c : Nat) (news : List Int) (hx : a.eval x = .slice (some ad) m c) (hm : m = news.length) (hnews : BytesAt w (some ad) news) (h0 : 0 < m) (hlen : bs.length + m ≤ 140737488355328)
    (h : ∀ A' c' w', BytesAt w' A' (bs.drop k ++ news) → bs.length - k + m ≤ c' → c' ≤ maxLen → Kp (fun j => j = g) w w' → (∀ a, A' = some a → a.block = g ∨ (w.heap.size ≤ a.block ∧ a.block < w'.heap.size)) →
      wpList Try.prog ops Q rest (a.put o.dst (.slice A' (bs.length - k + m) c')) w') : wpList Try.prog ops Q (o :: rest) a w := by
  obtain ⟨i0, hi, hz0, hz1, hz2⟩ : ∃ i, Try.prog.info? 5 = some i ∧ i.zero = some (.int .u8 0) ∧ i.size = 1 ∧ i.bytes = 1 := by
    have h := info5
    cases hh : Try.prog.info? 5 with
    | none => rw [hh] at h; cases h
    | some i => rw [hh] at h; simp at h; exact ⟨i, rfl, h⟩
  obtain ⟨_, hrow⟩ := id hown
  rcases hrow with ⟨e, _⟩ | ⟨b', cap', cur, e, hb, hh, hn, hmx, hcs, ht⟩
  · cases e
  injection e with e _ e2
  injection e with e
  injection e with e
  subst e e2
  have hB : Blk w g 5 cur := hh
  have hcell : ∀ i y, bs[i]? = some y → w.cell? ⟨g, i, none⟩ = some (.int .u8 y) := fun i y hy => by
    obtain ⟨A', c', e', _, _, hr, _⟩ := hown.read
    obtain ⟨e', _, _⟩ := Value.slice.inj e'
    obtain ⟨b1, o1, e1, _, h5⟩ := hr (by have := (List.getElem?_eq_some_iff.1 hy).1; omega)
    rw [e1] at e'
    have e1' : g = b1 := congrArg Addr.block (Option.some.inj e')
    have e2' : 0 = o1 := congrArg Addr.off (Option.some.inj e')
    rw [← e1', ← e2'] at h5
    have := h5 i y hy
    rwa [Nat.zero_add] at this
  have hspare : ∀ j, bs.length + j < cap → (w.cell? ⟨g, bs.length + j, none⟩).isSome = true := fun j hj => by
    rw [hB.cell]
    have : bs.length + j < cur.size := by rw [hcs]; omega
    simp [this]
  refine wpList_append_arg w hgd s x 22 ho 5 i0 (.int .u8 0) 1 1 Try.underlying22 hi hz0 hz1 hz2 rfl (by decide) g k (bs.length - k) (cap - k) ((bs.drop k).map (Value.int .u8)) hs (by simp) (fun j u hu => ?_) ad m c (news.map (Value.int .u8)) hx (by simp [hm]) hnews.news (bytes_one _) (fun hr j hj => ?_) (by unfold maxLen at hmx ⊢; omega) (by omega) (fun hr => ?_) (fun hg v' w' h1 h2 => ?_)
  · rw [List.getElem?_map, List.getElem?_drop] at hu
    obtain ⟨y, hy, rfl⟩ := Option.map_eq_some_iff.1 hu
    exact hcell _ y hy
  · rw [List.length_map] at hj
    have e1 : k + (bs.length - k) * 1 + j = bs.length + j := by omega
    rw [e1]
    exact ⟨hspare j (by omega), hB.frozen _⟩
  · have e1 : k + (bs.length - k) * 1 = bs.length := by omega
    rw [e1]
    have hkp := Kp.setCells g (news.map (Value.int .u8)) bs.length w
    refine h (some ⟨g, k, none⟩) (cap - k) _ (fun _ => ⟨g, k, rfl, Nat.lt_of_lt_of_le hB.lt hkp.size, fun i y hy => ?_⟩) hr (by omega) hkp (fun a e => by injection e with e; subst e; exact .inl rfl)
    rcases Nat.lt_or_ge i (bs.drop k).length with hlt | hge
    · rw [List.getElem?_append_left hlt, List.getElem?_drop] at hy
      rw [List.length_drop] at hlt
      rw [World.cell?_setCells_out g _ _ _ _ (fun _ _ => .inl (by simp only; omega))]
      exact hcell _ y hy
    · rw [List.getElem?_append_right hge, List.length_drop] at hy
      rw [List.length_drop] at hge
      have hi2 := (List.getElem?_eq_some_iff.1 hy).1
      have := World.cell?_setCells_in g (news.map (Value.int .u8)) bs.length w (fun j hj => by rw [List.length_map] at hj; exact hspare j (by omega)) (i - (bs.length - k)) (by rw [List.length_map]; exact hi2)
      have e2 : bs.length + (i - (bs.length - k)) = k + i := by omega
      rw [e2] at this
      rw [this]
      have e3 : (news.map (Value.int .u8))[i - (bs.length - k)]? = some (.int .u8 y) := by rw [List.getElem?_map, hy]; rfl
      have e4 := List.getElem?_eq_getElem (l := news.map (Value.int .u8)) (i := i - (bs.length - k)) (by rw [List.length_map]; exact hi2)
      rw [← e4]
      exact e3
  · have h1' : OwnB w' w.heap.size v' (bs.drop k ++ news) := by
      refine ⟨by simp, ?_⟩
      have := h1.2
      rw [← List.map_append] at this
      have e1 : bs.length - k + m = (bs.drop k ++ news).length := by simp [hm]
      rw [← e1]
      exact this
    obtain ⟨A', c', rfl, k1, k2, kx, kA⟩ := h1'.read
    have e1 : (bs.drop k ++ news).length = bs.length - k + m := by simp [hm]
    rw [e1] at k1 ⊢
    refine h A' c' w' kx k1 k2 ((Kp.of_grown h2).mono (fun j hj => by cases hj)) (fun a e => .inr (h1'.lt (kA a e)))
end Go.Proofs.Ytkllgmhfjibajaa
