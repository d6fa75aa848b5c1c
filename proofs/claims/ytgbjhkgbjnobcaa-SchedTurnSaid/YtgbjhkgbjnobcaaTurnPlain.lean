/- The plain law of coming and going. No program in sight. -/
import Derived.Test.YtgbjhkgbjnobcaaLeave
import Derived.Test.YtgbjhkgbjnobcaaFairPlain
namespace Go.Proofs.Ytgbjhkgbjnobcaa
open Trn

theorem entered_at {t : Tu} {p : Nat} {id qm : Int} (hp : p ≤ t.qs.length) (i : Nat) : (entered t p id qm).qs[i]? = if i < p then t.qs[i]? else if i = p then some ⟨id, qm, 0, []⟩ else t.qs[i - 1]? := by
  have hl : (t.qs.take p).length = p := by rw [List.length_take]; omega
  show (t.qs.take p ++ ⟨id, qm, 0, []⟩ :: t.qs.drop p)[i]? = _
  by_cases h1 : i < p
  · rw [if_pos h1, List.getElem?_append_left (by omega), List.getElem?_take, if_pos h1]
  · rw [if_neg h1, List.getElem?_append_right (by omega), hl]
    by_cases h2 : i = p
    · rw [if_pos h2, h2, Nat.sub_self]; rfl
    · rw [if_neg h2, show i - p = (i - 1 - p) + 1 by omega, List.getElem?_cons_succ, List.getElem?_drop, show p + (i - 1 - p) = i - 1 by omega]
theorem entered_len {t : Tu} {p : Nat} {id qm : Int} : (entered t p id qm).qs.length = t.qs.length + 1 := by
  simp [entered]
  omega
theorem entered_mem {t : Tu} {p : Nat} {id qm : Int} {q : Qu} (h : q ∈ (entered t p id qm).qs) : q ∈ t.qs ∨ q = ⟨id, qm, 0, []⟩ := by
  rcases List.mem_append.1 h with h | h
  · exact .inl (List.mem_of_mem_take h)
  · rcases List.mem_cons.1 h with h | h
    · exact .inr h
    · exact .inl (List.mem_of_mem_drop h)
theorem entered_valid {t : Tu} {p : Nat} {id qm : Int} (hv : Valid t) (hc : comes t id qm) (hs : Spot t.qs id p false) : Valid (entered t p id qm) := by
  obtain ⟨c0, c1, c2, c3, c4⟩ := hc
  obtain ⟨a0, a1, a2⟩ := hv.at_
  have hp := hs.le
  refine ⟨by rw [entered_len]; omega, fun i q hq => ?_, ⟨?_, ?_, fun _ => by rw [entered_len]; omega⟩, fun q hq => ?_⟩
  · have hq' := hq
    rw [entered_at hp] at hq'
    have hlast : lastId (entered t p id qm) i < q.id := by
      cases i with
      | zero =>
        show (-1 : Int) < q.id
        by_cases h1 : 0 < p
        · rw [if_pos h1] at hq'
          exact (hv.qs 0 q hq').1
        · rw [if_neg h1, if_pos (by omega)] at hq'
          injection hq' with hq'
          rw [← hq']
          show (-1 : Int) < id
          omega
      | succ i =>
        have hil := (List.getElem?_eq_some_iff.1 hq).1
        rw [entered_len] at hil
        obtain ⟨r, hr⟩ : ∃ r, (entered t p id qm).qs[i]? = some r := ⟨_, List.getElem?_eq_getElem (show i < (entered t p id qm).qs.length by rw [entered_len]; omega)⟩
        have hl : lastId (entered t p id qm) (i + 1) = r.id := by
          simp only [lastId, List.getD_eq_getElem?_getD, hr, Option.getD_some]
        rw [hl]
        rw [entered_at hp] at hr
        by_cases h1 : i + 1 < p
        · rw [if_pos h1] at hq'
          rw [if_pos (by omega)] at hr
          exact hv.lt i (i + 1) r q (by omega) hr hq'
        · rw [if_neg h1] at hq'
          by_cases h2 : i + 1 = p
          · rw [if_pos h2] at hq'
            rw [if_pos (by omega)] at hr
            injection hq' with hq'
            rw [← hq']
            exact hs.below i r (by omega) hr
          · rw [if_neg h2, Nat.add_sub_cancel] at hq'
            rw [if_neg (by omega)] at hr
            by_cases h3 : i = p
            · rw [if_pos h3] at hr
              injection hr with hr
              rw [← hr]
              have h4 := hs.above i q (by omega) hq'
              have h5 := c1 i q hq'
              show id < q.id
              omega
            · rw [if_neg h3] at hr
              exact hv.lt (i - 1) i r q (by omega) hr hq'
    have hold : ∀ k : Nat, t.qs[k]? = some q → ((k : Int) = t.at_ → (i : Int) = (entered t p id qm).at_) → okQ (entered t p id qm) i q := fun k hk hat => by
      obtain ⟨_, u0, u1, d0, d1, e⟩ := hv.qs k q hk
      refine ⟨hlast, u0, u1, d0, ?_, e⟩
      unfold most at d1 ⊢
      by_cases hf : t.fr = true ∧ (k : Int) = t.at_
      · rw [if_pos hf] at d1
        rw [if_pos ⟨hf.1, hat hf.2⟩]
        exact d1
      · rw [if_neg hf] at d1
        split <;> omega
    have hpos : ∀ k : Nat, t.qs[k]? = some q → 0 < t.qs.length := fun k hk => by have := (List.getElem?_eq_some_iff.1 hk).1; omega
    by_cases h1 : i < p
    · rw [if_pos h1] at hq'
      refine hold i hq' fun e => ?_
      show (i : Int) = if 0 < t.qs.length ∧ (p : Int) ≤ t.at_ then t.at_ + 1 else t.at_
      rw [if_neg (by omega)]
      exact e
    · rw [if_neg h1] at hq'
      by_cases h2 : i = p
      · rw [if_pos h2] at hq'
        injection hq' with hq'
        rw [← hq']
        rw [← hq'] at hlast
        exact ⟨hlast, c3, c4, Int.le_refl _, by show (0 : Int) ≤ most _ _; unfold most; split <;> omega, fun _ => Int.le_refl _⟩
      · rw [if_neg h2] at hq'
        refine hold (i - 1) hq' fun e => ?_
        show (i : Int) = if 0 < t.qs.length ∧ (p : Int) ≤ t.at_ then t.at_ + 1 else t.at_
        have := hpos _ hq'
        rw [if_pos ⟨this, by omega⟩]
        omega
  · show 0 ≤ if 0 < t.qs.length ∧ (p : Int) ≤ t.at_ then t.at_ + 1 else t.at_
    split <;> omega
  · rw [entered_len]
    show (if 0 < t.qs.length ∧ (p : Int) ≤ t.at_ then t.at_ + 1 else t.at_) < _ ∨ (if 0 < t.qs.length ∧ (p : Int) ≤ t.at_ then t.at_ + 1 else t.at_) = 0
    left
    split <;> omega
  · rcases entered_mem hq with h | rfl
    · exact hv.cs q h
    · intro c hc; cases hc
theorem entered_reach {t : Tu} {p : Nat} {id qm : Int} (h : Reach t) : Reach (entered t p id qm) := fun q hq => by
  rcases entered_mem hq with h1 | rfl
  · exact h q h1
  · show 0 * 8 ≤ _; omega
theorem entered_ids {t : Tu} {p : Nat} {id qm : Int} (h : Ids t) (hid : id ≤ 9223372036854775807) : Ids (entered t p id qm) := fun q hq => by
  rcases entered_mem hq with h1 | rfl
  · exact h q h1
  · exact hid
/-- Who goes again leaves nothing behind. -/
theorem left_entered {t : Tu} {p : Nat} {id qm : Int} (hp : p ≤ t.qs.length) (hn : 0 < t.qs.length) : left (entered t p id qm) p = t := by
  have hl : (t.qs.take p).length = p := by rw [List.length_take]; omega
  have hlen := entered_len (t := t) (p := p) (id := id) (qm := qm)
  have hqs : (entered t p id qm).qs.take p ++ (entered t p id qm).qs.drop (p + 1) = t.qs := by
    show (t.qs.take p ++ ⟨id, qm, 0, []⟩ :: t.qs.drop p).take p ++ (t.qs.take p ++ ⟨id, qm, 0, []⟩ :: t.qs.drop p).drop (p + 1) = _
    rw [List.take_append_of_le_length (by omega), List.take_take, Nat.min_self, List.drop_append, hl, List.drop_eq_nil_of_le (by omega), show p + 1 - p = 1 by omega]
    simp
  unfold left
  rw [hqs, hlen]
  by_cases h : (p : Int) ≤ t.at_
  · have ha : (entered t p id qm).at_ = t.at_ + 1 := by show (if 0 < t.qs.length ∧ (p : Int) ≤ t.at_ then t.at_ + 1 else t.at_) = _; rw [if_pos ⟨hn, h⟩]
    rw [ha, if_pos (by omega), if_neg (by omega)]
    show Tu.mk t.qs (t.at_ + 1 - 1) t.fr = t
    rw [show t.at_ + 1 - 1 = t.at_ by omega]
  · have ha : (entered t p id qm).at_ = t.at_ := by show (if 0 < t.qs.length ∧ (p : Int) ≤ t.at_ then t.at_ + 1 else t.at_) = _; rw [if_neg (by omega)]
    rw [ha, if_neg (by omega), if_neg (by omega), if_neg (by omega)]
    rfl
/-- Where it stands. -/
theorem entered_spot {t : Tu} {p : Nat} {id qm : Int} (hs : Spot t.qs id p false) (hc : comes t id qm) {i : Nat} {q : Qu} (hq : (entered t p id qm).qs[i]? = some q) : (q.id = id ↔ i = p) ∧ (i = p → q = ⟨id, qm, 0, []⟩) := by
  rw [entered_at hs.le] at hq
  by_cases h1 : i < p
  · rw [if_pos h1] at hq
    exact ⟨⟨fun e => absurd e (hc.2.1 i q hq), fun e => by omega⟩, fun e => by omega⟩
  · rw [if_neg h1] at hq
    by_cases h2 : i = p
    · rw [if_pos h2] at hq
      injection hq with hq
      rw [← hq]
      exact ⟨⟨fun _ => h2, fun _ => rfl⟩, fun _ => rfl⟩
    · rw [if_neg h2] at hq
      exact ⟨⟨fun e => absurd e (hc.2.1 _ q hq), fun e => absurd e h2⟩, fun e => absurd e h2⟩
theorem entered_here {t : Tu} {p : Nat} {id qm : Int} (hp : p ≤ t.qs.length) : (entered t p id qm).qs[p]? = some ⟨id, qm, 0, []⟩ := by
  rw [entered_at hp, if_neg (by omega), if_pos rfl]
/-- Leave, behind Enter. -/
theorem leave_entered {t t' : Tu} {p : Nat} {id qm e : Int} (hv : Valid t) (hc : comes t id qm) (hs : Spot t.qs id p false) (h : LeaveIs (entered t p id qm) id t' e) : e = 0 ∧ (0 < t.qs.length → t' = t) := by
  rcases h with ⟨h, _⟩ | ⟨_, h, _⟩ | ⟨_, rfl, a, q, hq, hqi, rfl⟩
  · exact absurd (entered_valid hv hc hs) h
  · exact absurd rfl (h p _ (entered_here hs.le))
  · obtain rfl := (entered_spot hs hc hq).1.1 hqi
    exact ⟨rfl, left_entered hs.le⟩
/-- Ask, behind Enter. -/
theorem ask_entered {t t' : Tu} {p : Nat} {id qm cost e : Int} (hv : Valid t) (hc : comes t id qm) (hs : Spot t.qs id p false) (h : AskIs (entered t p id qm) id cost t' e) :
    (¬ (1 ≤ cost ∧ cost ≤ 1048576) ∧ e = 191) ∨ (e = 0 ∧ t'.qs.length = t.qs.length + 1 ∧ (∀ (i : Nat) (q : Qu), t'.qs[i]? = some q → (q.id = id ↔ i = p)) ∧ t'.qs[p]? = some ⟨id, qm, 0, [cost]⟩) := by
  rcases h with ⟨h, _⟩ | ⟨_, h, _⟩ | ⟨_, h, e, _⟩ | ⟨_, _, rfl, a, q, hq, hqi, rfl⟩
  · exact absurd (entered_valid hv hc hs) h
  · exact absurd rfl (h p _ (entered_here hs.le))
  · exact .inl ⟨h, e⟩
  · obtain ⟨h1, h2⟩ := entered_spot hs hc hq
    obtain rfl := h1.1 hqi
    obtain rfl := h2 rfl
    have hal := (List.getElem?_eq_some_iff.1 hq).1
    refine .inr ⟨rfl, by simp [asked, entered_len], fun i x hx => ?_, by simp [asked, List.getElem?_set_self hal]⟩
    have hx' : ((entered t a id qm).qs.set a { (⟨id, qm, 0, []⟩ : Qu) with cs := ([] : List Int) ++ [cost] })[i]? = some x := hx
    by_cases e : a = i
    · subst e
      rw [List.getElem?_set_self hal] at hx'
      injection hx' with hx'
      rw [← hx']
      exact ⟨fun _ => rfl, fun _ => rfl⟩
    · rw [List.getElem?_set_ne e] at hx'
      exact (entered_spot hs hc hx').1
end Go.Proofs.Ytgbjhkgbjnobcaa
