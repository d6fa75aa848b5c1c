/- The plain law of patience: no class that has work waits more than fifteen picks. No program in sight. -/
import Derived.Test.YtgbjhkgbjnobcaaClassPlain
namespace Go.Proofs.Ytgbjhkgbjnobcaa.Cls

theorem best_over (c : Nat → Int) (wk : Nat → Bool) (k : Nat) : 0 ≤ best c wk k → wk (best c wk k).toNat = true ∧ 13 ≤ cl (c (best c wk k).toNat) := by
  induction k with
  | zero => simp [best]
  | succ k ih =>
    simp only [best]
    split
    · rename_i h
      intro _
      simp only [takes, Bool.and_eq_true, decide_eq_true_eq] at h
      simpa using ⟨h.1, h.2.1⟩
    · exact ih
theorem best_max (c : Nat → Int) (wk : Nat → Bool) (k : Nat) : ∀ i, i < k → wk i = true → 13 ≤ cl (c i) → 0 ≤ best c wk k ∧ cl (c i) ≤ cl (c (best c wk k).toNat) := by
  induction k with
  | zero => intro i hi; omega
  | succ k ih =>
    intro i hi hw h13
    simp only [best]
    by_cases ht : takes c wk (best c wk k) k = true
    · rw [if_pos ht]
      refine ⟨by omega, ?_⟩
      by_cases e : i = k
      · subst e; simp
      · obtain ⟨h0, hle⟩ := ih i (by omega) hw h13
        simp only [takes, Bool.and_eq_true, Bool.or_eq_true, decide_eq_true_eq] at ht
        simp only [Int.toNat_natCast]
        omega
    · rw [if_neg ht]
      by_cases e : i = k
      · subst e
        simp only [takes, Bool.and_eq_true, Bool.or_eq_true, decide_eq_true_eq, hw, h13, true_and, not_or] at ht
        omega
      · exact ih i (by omega) hw h13

/-- The counts as the picks leave them: at most three of 13 and more, two of 14, one of 15, none beyond. -/
structure Ok (c : Nat → Int) : Prop where
  at_ : ∀ {i : Nat}, i < 4 → 0 ≤ c i ∧ c i ≤ 15
  one : ∀ i j, i < 4 → j < 4 → i ≠ j → c i < 15 ∨ c j < 15
  two : ∀ i j k, i < 4 → j < 4 → k < 4 → i ≠ j → i ≠ k → j ≠ k → c i < 14 ∨ c j < 14 ∨ c k < 14
  three : ∀ i j k l, i < 4 → j < 4 → k < 4 → l < 4 → i ≠ j → i ≠ k → j ≠ k → i ≠ l → j ≠ l → k ≠ l → c i < 13 ∨ c j < 13 ∨ c k < 13 ∨ c l < 13

theorem cl_id {x : Int} (h : 0 ≤ x ∧ x ≤ 15) : cl x = x := by unfold cl mn mx; split <;> split <;> omega
theorem Ok.zero : Ok fun _ => 0 := ⟨by intros; omega, by intros; omega, by intros; omega, by intros; omega⟩

theorem served_work (c : Nat → Int) (wk : Nat → Bool) (pick : Int) (h : 0 ≤ served c wk pick) : wk (served c wk pick).toNat = true := by
  unfold served at *
  by_cases hb : best c wk 4 < 0
  · rw [if_pos hb] at *; exact look_work _ _ _ h
  · rw [if_neg hb] at *; exact best_work _ _ _ h
theorem served_any (c : Nat → Int) (wk : Nat → Bool) (pick : Int) (h : anyw wk 4 = true) : 0 ≤ served c wk pick := by
  unfold served
  by_cases hb : best c wk 4 < 0
  · rw [if_pos hb]
    rcases Int.lt_or_le (look wk (first pick) 4) 0 with h1 | h1
    · rw [anyw_all wk _ (first_lt pick) h1] at h; cases h
    · exact h1
  · rw [if_neg hb]; omega
/-- Nobody overdue and the pick has work: the pick is served. -/
theorem served_first (c : Nat → Int) (wk : Nat → Bool) (pick : Int) (he : ∀ i, i < 4 → c i < 13) (hw : wk (first pick) = true) : served c wk pick = (first pick : Int) := by
  have hb : best c wk 4 < 0 := by
    rcases Int.lt_or_le (best c wk 4) 0 with h | h
    · exact h
    · have h1 := (best_over c wk 4 h).2
      have h2 := he (best c wk 4).toNat (by have := best_bd c wk 4; omega)
      unfold cl mn mx at h1
      split at h1 <;> split at h1 <;> omega
  unfold served
  rw [if_pos hb]
  have h1 : look wk (first pick) 1 = (first pick : Int) := by
    simp only [look]
    rw [if_pos (by omega), Nat.add_zero, Nat.mod_eq_of_lt (first_lt pick), hw, if_pos rfl]
  have := look_more wk (first pick) 1 3 (by omega)
  rw [show 1 + 3 = 4 from rfl] at this
  omega
/-- An overdue class with work: the one that is served is overdue no less. -/
theorem served_max (c : Nat → Int) (wk : Nat → Bool) (pick : Int) (ho : Ok c) {i : Nat} (hi : i < 4) (hw : wk i = true) (h : 13 ≤ c i) :
    c i ≤ c (served c wk pick).toNat := by
  have h1 := best_max c wk 4 i hi hw (by rw [cl_id (ho.at_ hi)]; exact h)
  have hb := best_bd c wk 4
  unfold served
  rw [if_neg (by omega)]
  rw [cl_id (ho.at_ hi), cl_id (ho.at_ (by omega))] at h1
  exact h1.2

theorem wait_of (c : Nat → Int) (wk : Nat → Bool) (pick : Int) (ho : Ok c) {i : Nat} (hi : i < 4) :
    wait c wk (served c wk pick) i = 0 ∨ (wait c wk (served c wk pick) i = c i + 1 ∧ wk i = true ∧ (i : Int) ≠ served c wk pick) := by
  unfold wait
  split
  · rename_i h
    simp only [Bool.and_eq_true, decide_eq_true_eq] at h
    rw [cl_id (ho.at_ hi)]
    exact .inr ⟨rfl, h.1, h.2⟩
  · exact .inl rfl

theorem wait_self (c : Nat → Int) (wk : Nat → Bool) (pick : Int) (k : Nat) (h : (k : Int) = served c wk pick) : wait c wk (served c wk pick) k = 0 := by
  simp [wait, h]

/-- The step: what is left is in order again. -/
theorem Ok.next {c : Nat → Int} (wk : Nat → Bool) (pick : Int) (ho : Ok c) : Ok (wait c wk (served c wk pick)) := by
  have hs := served_bd c wk pick
  by_cases hn : served c wk pick < 0
  · have ha : anyw wk 4 = false := by
      cases h : anyw wk 4
      · rfl
      · have := served_any c wk pick h; omega
    have hz := wait_no c wk (served c wk pick) ha
    exact ⟨fun hi => by rw [hz _ hi]; omega, fun i j hi hj _ => by rw [hz i hi]; omega, fun i j k hi hj hk _ _ _ => by rw [hz i hi]; omega,
      fun i j k l hi hj hk hl _ _ _ _ _ _ => by rw [hz i hi]; omega⟩
  · have hself := wait_self c wk pick (served c wk pick).toNat (by omega)
    have hk : (served c wk pick).toNat < 4 := by omega
    have key : ∀ i, i < 4 → 0 ≤ wait c wk (served c wk pick) i ∧ (wait c wk (served c wk pick) i = 0 ∨ (wait c wk (served c wk pick) i = c i + 1 ∧ i ≠ (served c wk pick).toNat ∧ (13 ≤ c i → c i ≤ c (served c wk pick).toNat))) := fun i hi => by
      have hb := ho.at_ hi
      rcases wait_of c wk pick ho hi with h | ⟨h, h1, h2⟩
      · rw [h]; exact ⟨by omega, .inl rfl⟩
      · rw [h]; exact ⟨by omega, .inr ⟨rfl, by omega, fun h3 => served_max c wk pick ho hi h1 h3⟩⟩
    clear hs hn
    generalize (served c wk pick).toNat = s at *
    generalize wait c wk (served c wk pick) = n at *
    refine ⟨fun {i} hi => ?_, fun i j hi hj hij => ?_, fun i j k hi hj hk' hij hik hjk => ?_, fun i j k l hi hj hk' hl hij hik hjk hil hjl hkl => ?_⟩
    · have k0 := key i hi
      by_cases e : i = s
      · subst e; omega
      · have := ho.one i s hi hk e
        have := ho.at_ hi
        omega
    · have k0 := key i hi
      have k1 := key j hj
      by_cases e : i = s
      · subst e; omega
      · by_cases e1 : j = s
        · subst e1; omega
        · have := ho.two i j s hi hj hk hij e e1
          omega
    · have k0 := key i hi
      have k1 := key j hj
      have k2 := key k hk'
      by_cases e : i = s
      · subst e; omega
      · by_cases e1 : j = s
        · subst e1; omega
        · by_cases e2 : k = s
          · subst e2; omega
          · have := ho.three i j k s hi hj hk' hk hij hik hjk e e1 e2
            omega
    · by_cases e : i = s
      · subst e; omega
      · by_cases e1 : j = s
        · subst e1; omega
        · by_cases e2 : k = s
          · subst e2; omega
          · obtain rfl : l = s := by omega
            omega

/-- Are the first k counts all below 13? -/
def early (c : Nat → Int) : Nat → Bool
  | 0 => true
  | k + 1 => early c k && decide (c k < 13)
theorem early_at (c : Nat → Int) (k : Nat) (h : early c k = true) : ∀ i, i < k → c i < 13 := by
  induction k with
  | zero => intro i hi; omega
  | succ k ih =>
    simp only [early, Bool.and_eq_true, decide_eq_true_eq] at h
    intro i hi
    by_cases e : i = k
    · subst e; exact h.2
    · exact ih h.1 i (by omega)
/-- The first k counts of n, the others of c. -/
def upto (c n : Nat → Int) (k j : Nat) : Int := if j < k then n j else c j
theorem upto_next (c n : Nat → Int) (k : Nat) : (fun j => if j = k then n k else upto c n k j) = upto c n (k + 1) := by
  funext j
  unfold upto
  by_cases h : j = k
  · subst h; simp
  · rw [if_neg h]
    by_cases h2 : j < k
    · rw [if_pos h2, if_pos (by omega)]
    · rw [if_neg h2, if_neg (by omega)]
end Go.Proofs.Ytgbjhkgbjnobcaa.Cls
