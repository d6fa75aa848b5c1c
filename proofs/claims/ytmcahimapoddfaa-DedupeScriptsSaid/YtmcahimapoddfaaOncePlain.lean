/- Plain: what was given to each producer goes with the table. Conditions: none. -/
import Derived.Test.YtmcahimapoddfaaNote
namespace Go.Proofs.Ytmcahimapoddfaa

structure Gv where
  pid : Int
  offs : List Int
/-- The list of what was given, against the table. -/
structure Once (G : List Gv) (tb : List Pr) : Prop where
  has : ∀ (k : Nat) (g : Gv), G[k]? = some g → ∃ o, g.offs[g.offs.length - 1]? = some o ∧ look tb g.pid = some ⟨g.pid, g.offs.length, o⟩
  non : ∀ pid, (∀ (k : Nat) (g : Gv), G[k]? = some g → g.pid ≠ pid) → look tb pid = none
  one : ∀ (i j : Nat) (g h : Gv), G[i]? = some g → G[j]? = some h → g.pid = h.pid → i = j
  len : G.length = tb.length
  ok : NewOk tb
/-- Where a producer stands. -/
def PlaceIs (G : List Gv) (pid r : Int) : Prop :=
  (r = -1 ∧ ∀ (k : Nat) (g : Gv), G[k]? = some g → g.pid ≠ pid) ∨ (∃ (k : Nat) (g : Gv), r = k ∧ G[k]? = some g ∧ g.pid = pid)

theorem once_nil : Once [] [] :=
  ⟨(by intro k g h; cases h), fun _ _ => rfl, (by intro i j g h e; cases e), rfl, newOk_iff.2 ⟨by decide, List.Pairwise.nil, (by intro q h; cases h)⟩⟩

section
variable {G : List Gv} {tb : List Pr} {p s o : Int}
theorem Once.rising (h : Once G tb) : Rising tb := (newOk_iff.1 h.ok).2.1
/-- A new producer's first number. -/
theorem Once.fresh (h : Once G tb) (hn : ∀ (k : Nat) (g : Gv), G[k]? = some g → g.pid ≠ p) (hp : okPr ⟨p, 1, o⟩) (hl : tb.length < 64) : Once (G ++ [⟨p, [o]⟩]) (put tb ⟨p, 1, o⟩) := by
  have hlk := h.non p hn
  have hat : ∀ k g, (G ++ [⟨p, [o]⟩])[k]? = some g → (G[k]? = some g ∧ g.pid ≠ p) ∨ (k = G.length ∧ g = ⟨p, [o]⟩) := fun k g hk => by
    rcases Nat.lt_or_ge k G.length with hlt | hge
    · rw [List.getElem?_append_left hlt] at hk
      exact .inl ⟨hk, hn k g hk⟩
    · have hk2 := (List.getElem?_eq_some_iff.1 hk).1
      simp at hk2
      obtain rfl : k = G.length := by omega
      simp at hk
      exact .inr ⟨rfl, hk.symm⟩
  refine ⟨fun k g hk => ?_, fun q hq => ?_, fun i j g g' hi hj e => ?_, ?_, newOk_put h.ok hp fun _ => hl⟩
  · rcases hat k g hk with ⟨hk, hne⟩ | ⟨_, rfl⟩
    · obtain ⟨o', h1, h2⟩ := h.has k g hk
      exact ⟨o', h1, by rw [look_put h.rising, if_neg hne]; exact h2⟩
    · exact ⟨o, rfl, by rw [look_put h.rising, if_pos rfl]; rfl⟩
  · have hne : p ≠ q := hq G.length ⟨p, [o]⟩ (by simp)
    rw [look_put h.rising, if_neg (fun e => hne e.symm)]
    refine h.non q fun k g hk => hq k g ?_
    rw [List.getElem?_append_left (List.getElem?_eq_some_iff.1 hk).1]
    exact hk
  · rcases hat i g hi with ⟨hi, hne⟩ | ⟨rfl, rfl⟩ <;> rcases hat j g' hj with ⟨hj, hne'⟩ | ⟨rfl, rfl⟩
    · exact h.one i j g g' hi hj e
    · exact absurd e hne
    · exact absurd e.symm hne'
    · rfl
  · rw [length_put h.rising, if_pos hlk, List.length_append, h.len]
    rfl
/-- A known producer's next number. -/
theorem Once.next (h : Once G tb) {k : Nat} {g : Gv} (hk : G[k]? = some g) (hp : okPr ⟨g.pid, g.offs.length + 1, o⟩) : Once (G.set k ⟨g.pid, g.offs ++ [o]⟩) (put tb ⟨g.pid, g.offs.length + 1, o⟩) := by
  obtain ⟨o', h1, h2⟩ := h.has k g hk
  have hkl := (List.getElem?_eq_some_iff.1 hk).1
  have hat : ∀ j g', (G.set k ⟨g.pid, g.offs ++ [o]⟩)[j]? = some g' → (j = k ∧ g' = ⟨g.pid, g.offs ++ [o]⟩) ∨ (j ≠ k ∧ G[j]? = some g' ∧ g'.pid ≠ g.pid) := fun j g' hj => by
    by_cases e : j = k
    · subst e
      rw [List.getElem?_set_self hkl] at hj
      injection hj with hj
      exact .inl ⟨rfl, hj.symm⟩
    · rw [List.getElem?_set_ne (Ne.symm e)] at hj
      exact .inr ⟨e, hj, fun e' => e (h.one j k g' g hj hk e')⟩
  refine ⟨fun j g' hj => ?_, fun q hq => ?_, fun i j a b hi hj e => ?_, ?_, newOk_put h.ok hp fun hn => ?_⟩
  · rcases hat j g' hj with ⟨_, rfl⟩ | ⟨_, hj, hne⟩
    · refine ⟨o, by simp, ?_⟩
      rw [look_put h.rising, if_pos rfl]
      simp
    · obtain ⟨o', h1, h2⟩ := h.has j g' hj
      exact ⟨o', h1, by rw [look_put h.rising, if_neg hne]; exact h2⟩
  · have hne : g.pid ≠ q := hq k ⟨g.pid, g.offs ++ [o]⟩ (List.getElem?_set_self hkl)
    rw [look_put h.rising, if_neg (fun e => hne e.symm)]
    refine h.non q fun j g' hj => ?_
    by_cases e : j = k
    · subst e
      rw [hk] at hj
      injection hj with hj
      rw [← hj]
      exact hne
    · exact hq j g' (by rw [List.getElem?_set_ne (Ne.symm e)]; exact hj)
  · rcases hat i a hi with ⟨rfl, rfl⟩ | ⟨hi', hi, hne⟩ <;> rcases hat j b hj with ⟨rfl, rfl⟩ | ⟨hj', hj, hne'⟩
    · rfl
    · exact absurd e.symm hne'
    · exact absurd e hne
    · exact h.one i j a b hi hj e
  · rw [length_put h.rising, if_neg (by dsimp only; rw [h2]; intro e; cases e), List.length_set, h.len]
  · have hn' : look tb g.pid = none := hn
    rw [h2] at hn'
    cases hn'
theorem Once.size (h : Once G tb) : G.length ≤ 64 := by rw [h.len]; exact h.ok.1
theorem Once.count (h : Once G tb) {k : Nat} {g : Gv} (hk : G[k]? = some g) : 1 ≤ g.offs.length ∧ (g.offs.length : Int) < 1099511627776 := by
  obtain ⟨o', h1, h2⟩ := h.has k g hk
  have := (newOk_iff.1 h.ok).2.2 _ (look_mem h2).1
  unfold okPr at this
  dsimp only at this
  omega
/-- The record of a number that was given. -/
def given (p s o : Int) : Rc := ⟨1, o, 0, p, s, ⟨#[107]⟩, ByteArray.empty⟩
theorem chk_given (hg : goodB p s = true ∨ (p = 0 ∧ s = 0)) (ho : 0 ≤ o ∧ o < 1099511627776) : chkR (given p s o) = 0 := by
  have h0 : (p = 0 ∧ s = 0) ∨ (1 ≤ p ∧ p < 4294967296 ∧ 1 ≤ s ∧ s < 1099511627776) := by
    rcases hg with h | h
    · exact .inr (of_decide_eq_true h)
    · exact .inl h
  have e1 : inB o 0 1099511627776 = true := decide_eq_true ho
  have e2 : inB p 0 4294967296 = true := decide_eq_true (by omega)
  have e3 : inB 0 0 1125899906842624 = true := rfl
  have e4 : ¬ ((p = 0 ∧ ¬ s = 0) ∨ (0 < p ∧ inB s 1 1099511627776 = false)) := by
    rintro (h | ⟨h, h'⟩)
    · omega
    · have := of_decide_eq_false h'
      omega
  unfold chkR given
  dsimp only
  rw [if_neg (by omega), e1, e2, e3, if_neg (by decide), if_neg e4, if_neg (by decide), if_neg (by decide)]
theorem fold_snoc {rs : List Rc} {r : Rc} {l l' : List Pr} (h : foldGo [] rs = (0, l)) (hr : step1 l r = (0, l')) : foldGo [] (rs ++ [r]) = (0, l') := by
  rw [fold_append, if_neg (by rw [h]; exact not_not_intro rfl), h]
  show foldGo l [r] = _
  rw [fold_cons, hr, if_neg (not_not_intro rfl)]
  rfl
theorem step_free (ho : 0 ≤ o ∧ o < 1099511627776) : step1 tb (given 0 0 o) = (0, tb) := by
  unfold step1
  rw [chk_given (.inr ⟨rfl, rfl⟩) ho, if_neg (by decide)]
  rfl
theorem step_put (hg : goodB p s = true) (ho : 0 ≤ o ∧ o < 1099511627776) (h1 : look tb p = none → tb.length < 64) (h2 : ∀ q, look tb p = some q → q.seq < s) : step1 tb (given p s o) = (0, put tb ⟨p, s, o⟩) := by
  have hb := of_decide_eq_true hg
  unfold step1
  rw [chk_given (.inl hg) ho, if_neg (by decide), if_neg (by show ¬ p = 0; omega)]
  have e : look tb (given p s o).pid = look tb p := rfl
  rw [e]
  rcases hq : look tb p with _ | q
  · exact if_neg (by have := h1 hq; omega)
  · exact if_pos (h2 q hq)
/-- What Note says, verdict by verdict. -/
theorem note_not (h : errOf (judge tb p s).1 ≠ 0) : noteR tb p s o = (errOf (judge tb p s).1, tb) := if_pos h
theorem note_again (h : errOf (judge tb p s).1 = 0) (h1 : ¬ (judge tb p s).1 = 1) (ho : goodO o = true) : noteR tb p s o = (0, tb) := by
  unfold noteR
  rw [if_neg (not_not_intro h), if_neg (by rw [ho]; decide), if_neg h1]
theorem note_put (h1 : (judge tb p s).1 = 1) (ho : goodO o = true) : noteR tb p s o = (0, put tb ⟨p, s, o⟩) := by
  unfold noteR
  rw [if_neg (by rw [h1]; decide), if_neg (by rw [ho]; decide), if_pos h1]
end
end Go.Proofs.Ytmcahimapoddfaa
