/- The plain law of the classes: what 'sched.Class' and the document's 'Class' compute, said once, on lists of four. No program in sight. -/
namespace Go.Proofs.Ytgbjhkgbjnobcaa.Cls

/-- The greater, the lesser of two: as the builtins have them. -/
def mx (x y : Int) : Int := if y > x then y else x
def mn (x y : Int) : Int := if y < x then y else x
/-- A count brought into its bounds. -/
def cl (x : Int) : Int := mn (mx x 0) 16
theorem cl_bd (x : Int) : 0 ≤ cl x ∧ cl x ≤ 16 := by unfold cl mn mx; split <;> split <;> omega
theorem cl_ref (x : Int) : mx 0 (mn x 16) = cl x := by unfold cl mn mx; split <;> split <;> (try split) <;> (try split) <;> omega

/-- Does class k take the place of the best one so far? -/
def takes (c : Nat → Int) (wk : Nat → Bool) (b : Int) (k : Nat) : Bool :=
  wk k && (decide (13 ≤ cl (c k)) && (decide (b < 0) || decide (cl (c b.toNat) < cl (c k))))
/-- The overdue class that has waited longest, among the first k; -1: none. -/
def best (c : Nat → Int) (wk : Nat → Bool) : Nat → Int
  | 0 => -1
  | k + 1 => if takes c wk (best c wk k) k then k else best c wk k
theorem best_bd (c : Nat → Int) (wk : Nat → Bool) (k : Nat) : -1 ≤ best c wk k ∧ best c wk k < k := by
  induction k with
  | zero => simp [best]
  | succ k ih => simp only [best]; split <;> omega

/-- The first class with work from class f on, round the four, in n looks; -1: none. -/
def look (wk : Nat → Bool) (f : Nat) : Nat → Int
  | 0 => -1
  | n + 1 => if look wk f n < 0 then (if wk ((f + n) % 4) then ((f + n) % 4 : Nat) else -1) else look wk f n
theorem look_bd (wk : Nat → Bool) (f : Nat) (n : Nat) : -1 ≤ look wk f n ∧ look wk f n < 4 := by
  induction n with
  | zero => simp [look]
  | succ n ih => simp only [look]; split <;> (try split) <;> omega

theorem look_more (wk : Nat → Bool) (f : Nat) (n m : Nat) (h : 0 ≤ look wk f n) : look wk f (n + m) = look wk f n := by
  induction m with
  | zero => rfl
  | succ m ih => rw [← Nat.add_assoc]; simp only [look]; rw [if_neg (by omega), ih]
theorem look_work (wk : Nat → Bool) (f : Nat) (n : Nat) : 0 ≤ look wk f n → wk (look wk f n).toNat = true := by
  induction n with
  | zero => simp [look]
  | succ n ih =>
    simp only [look]
    split
    · split
      · intro _; simpa
      · intro h; omega
    · exact ih
/-- Where a pick points. -/
def first (pick : Int) : Nat := ((pick.tmod 4 + 4).tmod 4).toNat
theorem first_eq (pick : Int) : (first pick : Int) = (pick.tmod 4 + 4).tmod 4 := by
  have h2 : -4 < pick.tmod 4 := by
    have := Int.lt_tmod_of_pos pick (show (0 : Int) < 4 by omega)
    omega
  have h3 : 0 ≤ (pick.tmod 4 + 4).tmod 4 := Int.tmod_nonneg _ (by omega)
  unfold first
  omega
theorem first_eq' (pick : Int) : (pick.tmod 4 + 4) % 4 = (first pick : Int) := by
  have h2 : -4 < pick.tmod 4 := by
    have := Int.lt_tmod_of_pos pick (show (0 : Int) < 4 by omega)
    omega
  rw [first_eq]
  exact (Int.tmod_eq_emod_of_nonneg (by omega)).symm
theorem tmod4 (pick : Int) : -4 < pick.tmod 4 ∧ pick.tmod 4 < 4 := by
  have h1 : pick.tmod 4 < 4 := Int.tmod_lt_of_pos _ (by omega)
  have := Int.lt_tmod_of_pos pick (show (0 : Int) < 4 by omega)
  omega
theorem first_lt (pick : Int) : first pick < 4 := by
  unfold first
  have h1 : pick.tmod 4 < 4 := Int.tmod_lt_of_pos _ (by omega)
  have h2 : -4 < pick.tmod 4 := by
    have := Int.lt_tmod_of_pos pick (show (0 : Int) < 4 by omega)
    omega
  have h3 : (pick.tmod 4 + 4).tmod 4 < 4 := Int.tmod_lt_of_pos _ (by omega)
  omega

/-- Who is served. -/
def served (c : Nat → Int) (wk : Nat → Bool) (pick : Int) : Int := if best c wk 4 < 0 then look wk (first pick) 4 else best c wk 4
theorem served_bd (c : Nat → Int) (wk : Nat → Bool) (pick : Int) : -1 ≤ served c wk pick ∧ served c wk pick < 4 := by
  have h1 := best_bd c wk 4
  have h2 := look_bd wk (first pick) 4
  unfold served
  split <;> omega
/-- Who is served, as far as i looks tell. -/
def sofar (c : Nat → Int) (wk : Nat → Bool) (pick : Int) (i : Nat) : Int := if best c wk 4 < 0 then look wk (first pick) i else best c wk 4
theorem sofar_zero (c : Nat → Int) (wk : Nat → Bool) (pick : Int) : sofar c wk pick 0 = best c wk 4 := by
  have := best_bd c wk 4
  unfold sofar look
  split <;> omega
theorem sofar_bd (c : Nat → Int) (wk : Nat → Bool) (pick : Int) (i : Nat) : -1 ≤ sofar c wk pick i ∧ sofar c wk pick i < 4 := by
  have h1 := best_bd c wk 4
  have h2 := look_bd wk (first pick) i
  unfold sofar
  split <;> omega
theorem sofar_next (c : Nat → Int) (wk : Nat → Bool) (pick : Int) (i : Nat) (h : sofar c wk pick i < 0) :
    sofar c wk pick (i + 1) = if wk ((first pick + i) % 4) then (((first pick + i) % 4 : Nat) : Int) else -1 := by
  unfold sofar at *
  by_cases hb : best c wk 4 < 0
  · rw [if_pos hb] at *
    simp only [look]
    rw [if_pos h]
  · rw [if_neg hb] at h; omega
theorem sofar_end (c : Nat → Int) (wk : Nat → Bool) (pick : Int) (i : Nat) (hi : i ≤ 4) (h : 0 ≤ sofar c wk pick i ∨ i = 4) : sofar c wk pick i = served c wk pick := by
  unfold sofar served at *
  split
  · rename_i hb
    rw [if_pos hb] at h
    rcases h with h | rfl
    · have := look_more wk (first pick) i (4 - i) h
      rw [← this]
      congr 1
      omega
    · rfl
  · rfl
/-- How long class k has waited behind it. -/
def wait (c : Nat → Int) (wk : Nat → Bool) (s : Int) (k : Nat) : Int := if wk k && decide ((k : Int) ≠ s) then cl (c k) + 1 else 0
theorem best_work (c : Nat → Int) (wk : Nat → Bool) (k : Nat) : 0 ≤ best c wk k → wk (best c wk k).toNat = true := by
  induction k with
  | zero => simp [best]
  | succ k ih =>
    simp only [best]
    split
    · rename_i h
      intro _
      simp only [takes, Bool.and_eq_true] at h
      simpa using h.1
    · exact ih
/-- Has one of the first k classes work? -/
def anyw (wk : Nat → Bool) : Nat → Bool
  | 0 => false
  | k + 1 => anyw wk k || wk k
theorem anyw_no (wk : Nat → Bool) (k : Nat) (h : anyw wk k = false) : ∀ i, i < k → wk i = false := by
  induction k with
  | zero => intro i hi; omega
  | succ k ih =>
    simp only [anyw, Bool.or_eq_false_iff] at h
    intro i hi
    by_cases e : i = k
    · subst e; exact h.2
    · exact ih h.1 i (by omega)
theorem look_no (wk : Nat → Bool) (f n : Nat) (h : ∀ i, i < n → wk ((f + i) % 4) = false) : look wk f n = -1 := by
  induction n with
  | zero => rfl
  | succ n ih =>
    simp only [look]
    rw [ih (fun i hi => h i (by omega)), if_pos (by omega), h n (by omega)]
    rfl
theorem best_no (c : Nat → Int) (wk : Nat → Bool) (n : Nat) (h : ∀ i, i < n → wk i = false) : best c wk n = -1 := by
  induction n with
  | zero => rfl
  | succ n ih =>
    have e : takes c wk (best c wk n) n = false := by simp [takes, h n (by omega)]
    simp only [best, e]
    exact ih (fun i hi => h i (by omega))
theorem served_no (c : Nat → Int) (wk : Nat → Bool) (pick : Int) (h : anyw wk 4 = false) : served c wk pick = -1 := by
  have h1 := anyw_no wk 4 h
  unfold served
  rw [best_no c wk 4 h1, if_pos (by omega)]
  exact look_no wk _ 4 (fun i _ => h1 _ (by omega))
theorem wait_no (c : Nat → Int) (wk : Nat → Bool) (s : Int) (h : anyw wk 4 = false) (k : Nat) (hk : k < 4) : wait c wk s k = 0 := by
  simp [wait, anyw_no wk 4 h k hk]
theorem look_none (wk : Nat → Bool) (f n : Nat) (h : look wk f n < 0) : ∀ i, i < n → wk ((f + i) % 4) = false := by
  induction n with
  | zero => intro i hi; omega
  | succ n ih =>
    intro i hi
    by_cases h0 : look wk f n < 0
    · by_cases e : i = n
      · subst e
        simp only [look] at h
        rw [if_pos h0] at h
        cases hw : wk ((f + i) % 4)
        · rfl
        · rw [hw, if_pos rfl] at h; omega
      · exact ih h0 i (by omega)
    · simp only [look] at h
      rw [if_neg h0] at h
      omega
theorem anyw_all (wk : Nat → Bool) (f : Nat) (hf : f < 4) (h : look wk f 4 < 0) : anyw wk 4 = false := by
  have h1 := look_none wk f 4 h
  have h2 : ∀ i, i < 4 → wk i = false := fun i hi => by
    have := h1 ((i + 4 - f) % 4) (by omega)
    have e : (f + (i + 4 - f) % 4) % 4 = i := by omega
    rwa [e] at this
  simp [anyw, h2 0 (by omega), h2 1 (by omega), h2 2 (by omega), h2 3 (by omega)]
/-- Behind i looks in vain one more is owed, where there is work. -/
theorem sofar_more (c : Nat → Int) (wk : Nat → Bool) (pick : Int) (i : Nat) (ha : anyw wk 4 = true) (h : sofar c wk pick i < 0) : i < 4 := by
  unfold sofar at h
  by_cases hb : best c wk 4 < 0
  · rw [if_pos hb] at h
    rcases Nat.lt_or_ge i 4 with h4 | h4
    · exact h4
    · have h5 : look wk (first pick) 4 < 0 := by
        rcases Int.lt_or_le (look wk (first pick) 4) 0 with h6 | h6
        · exact h6
        · have := look_more wk (first pick) 4 (i - 4) h6
          rw [show 4 + (i - 4) = i by omega] at this
          omega
      rw [anyw_all wk _ (first_lt pick) h5] at ha
      cases ha
  · rw [if_neg hb] at h; omega
end Go.Proofs.Ytgbjhkgbjnobcaa.Cls
