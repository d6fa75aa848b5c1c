/- Plain: the document's list with a producer laid in is the table with it put in. Conditions: none. -/
import Derived.Test.YtmcahimapoddfaaPartsPlain
namespace Go.Proofs.Ytmcahimapoddfaa

section
variable {p y : Pr} {l r : List Pr}
theorem ins_low : ∀ {l : List Pr}, (∀ z ∈ l, z.pid < p.pid) → ins p (l ++ r) = l ++ ins p r
  | [], _ => rfl
  | x :: l, h => by
    have h1 := h x (List.mem_cons_self ..)
    show (if p.pid < x.pid then p :: x :: (l ++ r) else x :: ins p (l ++ r)) = _
    rw [if_neg (by omega), ins_low fun z hz => h z (List.mem_cons_of_mem _ hz)]
    rfl
theorem ins_high (hy : p.pid < y.pid) : ∀ l : List Pr, ins p (l ++ [y]) = ins p l ++ [y]
  | [] => by show (if p.pid < y.pid then [p, y] else y :: ins p []) = _; rw [if_pos hy]; rfl
  | x :: l => by
    show (if p.pid < x.pid then p :: x :: (l ++ [y]) else x :: ins p (l ++ [y])) = (if p.pid < x.pid then p :: x :: l else x :: ins p l) ++ [y]
    split
    · rfl
    · rw [ins_high hy l]; rfl
theorem put_low (h : ∀ z ∈ l, z.pid < p.pid) : put (l ++ r) p = l ++ put r p := by
  unfold put
  rw [List.filter_append, List.filter_eq_self.2, ins_low h]
  intro z hz
  have := h z hz
  simp
  omega
theorem put_high (hy : p.pid < y.pid) : put (l ++ [y]) p = put l p ++ [y] := by
  unfold put
  rw [List.filter_append]
  have : List.filter (fun z => !(z.pid == p.pid)) [y] = [y] := by simp; omega
  rw [this, ins_high hy]
/-- Behind k elements: is the producer laid, the list so far. -/
def LaidIs (tb : List Pr) (p : Pr) (k : Nat) (done : Bool) (m : List Pr) : Prop :=
  (done = false ∧ (∀ z ∈ tb.take k, z.pid < p.pid) ∧ m = tb.take k) ∨ (done = true ∧ (∃ z ∈ tb.take k, p.pid ≤ z.pid) ∧ m = put (tb.take k) p)
variable {tb m : List Pr} {k : Nat} {d : Bool}
theorem laid_zero : LaidIs tb p 0 false [] := .inl ⟨rfl, (by intro z h; simp at h), by simp⟩
theorem laid_take (hk : tb[k]? = some y) : tb.take (k + 1) = tb.take k ++ [y] := take_snoc tb k y hk
theorem laid_end (h : LaidIs tb p tb.length d m) : (d = false → m ++ [p] = put tb p) ∧ (d = true → m = put tb p) := by
  rcases h with ⟨rfl, h1, rfl⟩ | ⟨rfl, _, rfl⟩
  · refine ⟨fun _ => ?_, (by intro h; cases h)⟩
    rw [List.take_length] at h1 ⊢
    have := put_low (r := []) h1
    rw [List.append_nil] at this
    rw [this]
    rfl
  · rw [List.take_length]
    exact ⟨(by intro h; cases h), fun _ => rfl⟩
theorem laid_low (h : LaidIs tb p k false m) (hk : tb[k]? = some y) (hy : y.pid < p.pid) : LaidIs tb p (k + 1) false (m ++ [y]) := by
  rcases h with ⟨_, h1, rfl⟩ | ⟨h, _⟩
  · refine .inl ⟨rfl, fun z hz => ?_, (laid_take hk).symm⟩
    rw [laid_take hk] at hz
    rcases List.mem_append.1 hz with hz | hz
    · exact h1 z hz
    · simp at hz; subst hz; exact hy
  · cases h
theorem laid_at (h : LaidIs tb p k false m) (hk : tb[k]? = some y) (hy : y.pid = p.pid) : LaidIs tb p (k + 1) true (m ++ [p]) := by
  rcases h with ⟨_, h1, rfl⟩ | ⟨h, _⟩
  · refine .inr ⟨rfl, ⟨y, by rw [laid_take hk]; simp, by omega⟩, ?_⟩
    rw [laid_take hk, put_low h1]
    congr 1
    show [p] = ins p (List.filter (fun z => !(z.pid == p.pid)) [y])
    have : List.filter (fun z => !(z.pid == p.pid)) [y] = [] := by simp [hy]
    rw [this]
    rfl
  · cases h
theorem laid_over (h : LaidIs tb p k false m) (hk : tb[k]? = some y) (hy : p.pid < y.pid) : LaidIs tb p (k + 1) true ((m ++ [p]) ++ [y]) := by
  rcases h with ⟨_, h1, rfl⟩ | ⟨h, _⟩
  · refine .inr ⟨rfl, ⟨y, by rw [laid_take hk]; simp, by omega⟩, ?_⟩
    rw [laid_take hk, put_high hy]
    have := put_low (r := []) h1
    rw [List.append_nil] at this
    rw [this]
    rfl
  · cases h
theorem laid_on (h : LaidIs tb p k true m) (hr : Rising tb) (hk : tb[k]? = some y) : p.pid < y.pid ∧ LaidIs tb p (k + 1) true (m ++ [y]) := by
  rcases h with ⟨h, _⟩ | ⟨_, ⟨z, hz, hzp⟩, rfl⟩
  · cases h
  · have hy : p.pid < y.pid := by
      obtain ⟨j, hj⟩ := List.mem_iff_getElem?.1 hz
      have hjk : j < k := by have := (List.getElem?_eq_some_iff.1 hj).1; simp at this; omega
      rw [List.getElem?_take_of_lt hjk] at hj
      have hkl := (List.getElem?_eq_some_iff.1 hk)
      have hjl := (List.getElem?_eq_some_iff.1 hj)
      have := List.pairwise_iff_getElem.1 hr j k hjl.1 hkl.1 hjk
      rw [hjl.2, hkl.2] at this
      omega
    refine ⟨hy, .inr ⟨rfl, ⟨z, by rw [laid_take hk]; exact List.mem_append_left _ hz, hzp⟩, ?_⟩⟩
    rw [laid_take hk, put_high hy]
end
end Go.Proofs.Ytmcahimapoddfaa
