/- Slices that can be read, as values; the contracts in these words. Conditions: none. -/
import Derived.Test.YtmcahimapoddfaaPartsPlain
import Derived.Test.YtmcahimapoddfaaSame
import Derived.Test.YtmcahimapoddfaaRecs
namespace Go.Proofs.Ytmcahimapoddfaa
open Go.RowKit Go.Maps

/-- v is a slice of the producers ps. -/
def PS (w : World) (v : Value) (ps : List Pr) : Prop := ∃ A c, v = .slice A ps.length c ∧ ps.length ≤ c ∧ c ≤ maxLen ∧ (A = none → ps.length = 0 ∧ c = 0) ∧ ProdsAt w w.heap.size A ps
/-- v is a slice of the records rs. -/
def RS (w : World) (v : Value) (rs : List Rc) : Prop := ∃ A c, v = .slice A rs.length c ∧ rs.length ≤ c ∧ c ≤ maxLen ∧ (A = none → rs.length = 0 ∧ c = 0) ∧ RecsAt w w.heap.size A rs
/-- v is a slice of the bools bs. -/
def BS (w : World) (v : Value) (bs : List Bool) : Prop := ∃ A c, v = .slice A bs.length c ∧ bs.length ≤ c ∧ c ≤ maxLen ∧ (A = none → bs.length = 0 ∧ c = 0) ∧
  (0 < bs.length → ∃ b o, A = some ⟨b, o, none⟩ ∧ b < w.heap.size ∧ ∀ i x, bs[i]? = some x → w.cell? ⟨b, o + i, none⟩ = some (.bool x))
section
variable {w w' : World} {v u : Value} {ps qs : List Pr} {rs xs : List Rc} {bs : List Bool}
theorem PS.below (h : PS w v ps) (hb : Below w.heap.size w w') : PS w' v ps := by
  obtain ⟨A, c, e, h1, h2, h3, h4⟩ := h
  exact ⟨A, c, e, h1, h2, h3, (h4.below hb).mono hb.size⟩
theorem RS.below (h : RS w v rs) (hb : Below w.heap.size w w') : RS w' v rs := by
  obtain ⟨A, c, e, h1, h2, h3, h4⟩ := h
  exact ⟨A, c, e, h1, h2, h3, (h4.below hb).mono hb.size⟩
theorem BS.below (h : BS w v bs) (hb : Below w.heap.size w w') : BS w' v bs := by
  obtain ⟨A, c, e, h1, h2, h3, h4⟩ := h
  refine ⟨A, c, e, h1, h2, h3, fun h0 => ?_⟩
  obtain ⟨b, o, e', hlt, hc⟩ := h4 h0
  exact ⟨b, o, e', by have := hb.size; omega, fun i x hx => (hb.cell (p := ⟨b, o + i, none⟩) hlt).trans (hc i x hx)⟩
theorem PS.nil (w : World) : PS w (.slice none 0 0) [] := ⟨none, 0, rfl, Nat.le_refl _, Nat.zero_le _, fun _ => ⟨rfl, rfl⟩, fun h => absurd h (by decide)⟩
theorem RS.nil (w : World) : RS w (.slice none 0 0) [] := ⟨none, 0, rfl, Nat.le_refl _, Nat.zero_le _, fun _ => ⟨rfl, rfl⟩, fun h => absurd h (by decide)⟩
theorem OwnP.toS {base : Nat} (h : OwnP w base v ps) : PS w v ps := by
  rcases h.2 with ⟨rfl, h0⟩ | ⟨b, cap, cur, rfl, hb, hh, hn, hm, hcs, ht⟩
  · have e : ps = [] := List.eq_nil_of_length_eq_zero h0
    subst e
    exact PS.nil w
  · obtain ⟨A, c, e, h1, h2, h3⟩ := h.read (Nat.le_refl _)
    refine ⟨A, c, e, h1, h2, fun hA => ?_, h3⟩
    subst hA
    simp at e
theorem OwnR.toS {base : Nat} (h : OwnR w base v rs) : RS w v rs := by
  rcases h.2 with ⟨rfl, h0⟩ | ⟨b, cap, cur, rfl, hb, hh, hn, hm, hcs, ht⟩
  · have e : rs = [] := List.eq_nil_of_length_eq_zero h0
    subst e
    exact RS.nil w
  · obtain ⟨A, c, e, h1, h2, h3⟩ := h.read (Nat.le_refl _)
    refine ⟨A, c, e, h1, h2, fun hA => ?_, h3⟩
    subst hA
    simp at e
theorem foldS {code : Int} {L : List Pr} (hp : PS w v ps) (hr : RS w u rs) (hf : foldR ps rs = (code, L)) :
    Calls Try.prog 10 #[v, u] w fun e w' => ∃ v', e = .returned (.tuple #[v', .int .i64 code]) ∧ OwnP w' w.heap.size v' L ∧ Below w.heap.size w w' := by
  obtain ⟨A, c, rfl, h1, h2, h3, h4⟩ := hp
  obtain ⟨A2, c2, rfl, k1, k2, k3, k4⟩ := hr
  refine (fold_any A A2 ps rs c c2 w w.heap.size (Nat.le_refl _) ⟨h1, h2⟩ ⟨k1, k2⟩ h4 k4).mono ?_
  rintro e w' ⟨hb, v', he, ho⟩
  rw [hf] at he ho
  exact ⟨v', he, ho, hb⟩
theorem joinedS (hp : RS w v xs) (hr : RS w u rs) (hb : (xs.length + rs.length) * 72 ≤ 140737488355328) :
    Calls Try.prog 17 #[v, u] w fun e w' => ∃ v', e = .returned v' ∧ OwnR w' w.heap.size v' (xs ++ rs) ∧ Below w.heap.size w w' := by
  obtain ⟨A, c, rfl, h1, h2, h3, h4⟩ := hp
  obtain ⟨A2, c2, rfl, k1, k2, k3, k4⟩ := hr
  exact joined_any A A2 xs rs c c2 w _ _ (Nat.le_refl _) (Nat.le_refl _) h3 k3 h4 k4 hb
theorem sameS (hp : PS w v ps) (hr : PS w u qs) : Calls Try.prog 12 #[v, u] w fun e w' => e = .returned (.bool (decide (ps = qs))) ∧ Below w.heap.size w w' := by
  obtain ⟨A, c, rfl, h1, h2, h3, h4⟩ := hp
  obtain ⟨A2, c2, rfl, k1, k2, k3, k4⟩ := hr
  refine (same_any A A2 ps qs c c2 w _ _ ⟨h1, h2⟩ ⟨k1, k2⟩ h4 k4).mono ?_
  rintro e w' ⟨he, n, rfl⟩
  exact ⟨he, below_drewN (Below.refl _ _) n⟩
theorem PS.len (h : PS w v ps) (ty : TypeId) (W : World) : (Builtin.len_ #[22] ty #[v]).run Try.prog W = .ok (.int .i64 ps.length) W := by
  obtain ⟨A, c, rfl, _⟩ := h
  have := Try.underlying22
  go_simp
end
end Go.Proofs.Ytmcahimapoddfaa
