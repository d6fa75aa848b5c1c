/- The plain law of 'works': two queues served in turns. No program in sight. -/
import Derived.Test.YtgbjhkgbjnobcaaEnter
namespace Go.Proofs.Ytgbjhkgbjnobcaa
open Trn

def Trn.one_ : Tu := ⟨[⟨1, 4, 0, []⟩], 0, false⟩
def Trn.two_ (a b : List Int) (p : Int) : Tu := ⟨[⟨1, 4, 0, a⟩, ⟨2, 2, 0, b⟩], p, false⟩
theorem valid_none : Valid none_ := ⟨by decide, fun i q h => by simp [none_] at h, ⟨by decide, .inr rfl, by decide⟩, fun q h => by simp [none_] at h⟩
theorem valid_one : Valid one_ := by
  refine ⟨by decide, fun i q h => ?_, ⟨by decide, .inr rfl, by decide⟩, fun q h c hc => ?_⟩
  · match i with
    | 0 =>
      simp only [one_, List.getElem?_cons_zero, Option.some.injEq] at h
      subst h
      exact ⟨by decide, by decide, by decide, by decide, by simp [most, one_], fun _ => by decide⟩
    | n + 1 => simp [one_] at h
  · simp only [one_, List.mem_singleton] at h
    subst h
    simp at hc
theorem valid_two {a b : List Int} {p : Int} (hp : p = 0 ∨ p = 1) (ha : ∀ c ∈ a, 1 ≤ c ∧ c ≤ 1048576) (hb : ∀ c ∈ b, 1 ≤ c ∧ c ≤ 1048576) : Valid (two_ a b p) := by
  refine ⟨by simp [two_], fun i q h => ?_, ⟨by show 0 ≤ p; omega, .inl (by show p < 2; omega), by intro h; cases h⟩, fun q h c hc => ?_⟩
  · match i with
    | 0 =>
      simp only [two_, List.getElem?_cons_zero, Option.some.injEq] at h
      subst h
      exact ⟨by show (-1 : Int) < 1; decide, by show (1 : Int) ≤ 4; decide, by show (4 : Int) ≤ 65536; decide, by show (0 : Int) ≤ 0; decide, by simp [most, two_], fun _ => by show (0 : Int) ≤ 0; decide⟩
    | 1 =>
      simp only [two_, List.getElem?_cons_succ, List.getElem?_cons_zero, Option.some.injEq] at h
      subst h
      exact ⟨by show (1 : Int) < 2; decide, by show (1 : Int) ≤ 2; decide, by show (2 : Int) ≤ 65536; decide, by show (0 : Int) ≤ 0; decide, by simp [most, two_], fun _ => by show (0 : Int) ≤ 0; decide⟩
    | n + 2 => simp [two_] at h
  · simp only [two_, List.mem_cons, List.not_mem_nil, or_false] at h
    rcases h with rfl | rfl
    · exact ha c hc
    · exact hb c hc
theorem enter1 {t' : Tu} {e : Int} (h : EnterIs none_ 1 4 t' e) : t' = one_ ∧ e = 0 := by
  have hc : comes none_ 1 4 := ⟨by decide, fun i q h => by simp [none_] at h, by decide, by decide, by decide⟩
  rcases h with ⟨h, _⟩ | ⟨_, h, _⟩ | ⟨_, _, rfl, p, hs, rfl⟩
  · exact absurd valid_none h
  · exact absurd hc h
  · have hp : p = 0 := by have := hs.le; simpa [none_] using this
    subst hp
    exact ⟨by simp [entered, none_, one_], rfl⟩
theorem enter2 {t' : Tu} {e : Int} (h : EnterIs one_ 2 2 t' e) : t' = two_ [] [] 0 ∧ e = 0 := by
  have hc : comes one_ 2 2 := ⟨by decide, fun i q h => by
    match i with
    | 0 =>
      simp only [one_, List.getElem?_cons_zero, Option.some.injEq] at h
      subst h
      decide
    | n + 1 => simp [one_] at h, by decide, by decide, by decide⟩
  rcases h with ⟨h, _⟩ | ⟨_, h, _⟩ | ⟨_, _, rfl, p, hs, rfl⟩
  · exact absurd valid_one h
  · exact absurd hc h
  · have hp : p ≤ 1 := by have := hs.le; simpa [one_] using this
    have hp1 : p = 1 := by
      rcases Nat.eq_zero_or_pos p with e | e
      · have := hs.above 0 ⟨1, 4, 0, []⟩ (by omega) rfl
        exact absurd this (by decide)
      · omega
    subst hp1
    exact ⟨by simp [entered, one_, two_], rfl⟩
theorem at_two {a b : List Int} {p : Int} {i : Nat} {q : Qu} (h : (two_ a b p).qs[i]? = some q) : (i = 0 ∧ q = ⟨1, 4, 0, a⟩) ∨ (i = 1 ∧ q = ⟨2, 2, 0, b⟩) := by
  match i with
  | 0 => simp only [two_, List.getElem?_cons_zero, Option.some.injEq] at h; exact .inl ⟨rfl, h.symm⟩
  | 1 => simp only [two_, List.getElem?_cons_succ, List.getElem?_cons_zero, Option.some.injEq] at h; exact .inr ⟨rfl, h.symm⟩
  | n + 2 => simp [two_] at h
theorem ask1 {t' : Tu} {e : Int} (h : AskIs (two_ [] [] 0) 1 3 t' e) : t' = two_ [3] [] 0 ∧ e = 0 := by
  have hv : Valid (two_ [] [] 0) := valid_two (.inl rfl) (by simp) (by simp)
  rcases h with ⟨h, _⟩ | ⟨_, h, _⟩ | ⟨_, h, _⟩ | ⟨_, _, rfl, a, q, hq, hi, rfl⟩
  · exact absurd hv h
  · exact absurd rfl (h 0 ⟨1, 4, 0, []⟩ rfl)
  · exact absurd (by decide) h
  · rcases at_two hq with ⟨rfl, rfl⟩ | ⟨rfl, rfl⟩
    · exact ⟨rfl, rfl⟩
    · exact absurd hi (by decide)
theorem ask2 {t' : Tu} {e : Int} (h : AskIs (two_ [3] [] 0) 2 1 t' e) : t' = two_ [3] [1] 0 ∧ e = 0 := by
  have hv : Valid (two_ [3] [] 0) := valid_two (.inl rfl) (by simp) (by simp)
  rcases h with ⟨h, _⟩ | ⟨_, h, _⟩ | ⟨_, h, _⟩ | ⟨_, _, rfl, a, q, hq, hi, rfl⟩
  · exact absurd hv h
  · exact absurd rfl (h 1 ⟨2, 2, 0, []⟩ rfl)
  · exact absurd (by decide) h
  · rcases at_two hq with ⟨rfl, rfl⟩ | ⟨rfl, rfl⟩
    · exact absurd hi (by decide)
    · exact ⟨rfl, rfl⟩
theorem next1 {t' : Tu} {id c : Int} {ok : Bool} (h : NextIs (two_ [3] [1] 0) t' id c ok) : t' = two_ [] [1] 1 ∧ id = 1 ∧ c = 3 ∧ ok = true := by
  rcases h with ⟨h, _⟩ | ⟨_, h, _⟩ | ⟨_, _, rfl, f, hf⟩
  · exact absurd (valid_two (.inl rfl) (by simp) (by simp)) h
  · exact absurd ⟨0, ⟨1, 4, 0, [3]⟩, rfl, by decide⟩ h
  · have h1 : Trn.step (two_ [3] [1] 0) = .inr (two_ [] [1] 1, 1, 3) := by rfl
    have := Trn.go_inr hf h1
    injection this with e1 e2
    injection e2 with e2 e3
    exact ⟨e1.symm, e2.symm, e3.symm, rfl⟩
theorem next2 {t' : Tu} {id c : Int} {ok : Bool} (h : NextIs (two_ [] [1] 1) t' id c ok) : t' = two_ [] [] 0 ∧ id = 2 ∧ c = 1 ∧ ok = true := by
  rcases h with ⟨h, _⟩ | ⟨_, h, _⟩ | ⟨_, _, rfl, f, hf⟩
  · exact absurd (valid_two (.inr rfl) (by simp) (by simp)) h
  · exact absurd ⟨1, ⟨2, 2, 0, [1]⟩, rfl, by decide⟩ h
  · have h1 : Trn.step (two_ [] [1] 1) = .inr (two_ [] [] 0, 2, 1) := by rfl
    have := Trn.go_inr hf h1
    injection this with e1 e2
    injection e2 with e2 e3
    exact ⟨e1.symm, e2.symm, e3.symm, rfl⟩
theorem next3 {t' : Tu} {id c : Int} {ok : Bool} (h : NextIs (two_ [] [] 0) t' id c ok) : ok = false := by
  rcases h with ⟨_, _, _, _, h⟩ | ⟨_, _, _, _, _, h⟩ | ⟨_, ⟨i, q, hq, hl⟩, _⟩
  · exact h
  · exact h
  · rcases at_two hq with ⟨rfl, rfl⟩ | ⟨rfl, rfl⟩
    · simp at hl
    · simp at hl
theorem reach_two {a b : List Int} {p : Int} (ha : a.length ≤ 1) (hb : b.length ≤ 1) : Reach (two_ a b p) := fun q h => by
  simp only [two_, List.mem_cons, List.not_mem_nil, or_false] at h
  rcases h with rfl | rfl <;> (simp only; omega)
theorem ids_two {a b : List Int} {p : Int} : Ids (two_ a b p) := fun q h => by
  simp only [two_, List.mem_cons, List.not_mem_nil, or_false] at h
  rcases h with rfl | rfl
  · show (1 : Int) ≤ _; decide
  · show (2 : Int) ≤ _; decide
theorem reach_one : Reach one_ := fun q h => by
  simp only [one_, List.mem_singleton] at h
  subst h
  decide
theorem ids_one : Ids one_ := fun q h => by
  simp only [one_, List.mem_singleton] at h
  subst h
  decide
theorem reach_none : Reach none_ := fun q h => by simp [none_] at h
theorem ids_none : Ids none_ := fun q h => by simp [none_] at h
end Go.Proofs.Ytgbjhkgbjnobcaa
