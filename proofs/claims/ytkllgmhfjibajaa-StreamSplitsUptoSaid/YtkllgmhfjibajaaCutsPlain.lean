/- The plain law of places for cuts: to sort and to take what is equal once is to insert one by one. No program in sight. -/
import Derived.Lib.SlicesCompact
namespace Go.Proofs.Ytkllgmhfjibajaa.Ct
open Go.Lib

/-- A number, inserted into numbers that ascend. -/
def ins (x : Int) : List Int → List Int
  | [] => [x]
  | y :: ys => if x ≤ y then (if x < y then x :: y :: ys else y :: ys) else y :: ins x ys
/-- Is one of them x or more? -/
def ge (x : Int) (l : List Int) : Bool := l.any fun y => decide (x ≤ y)
def cuts (xs : List Int) : List Int := xs.foldl (fun l x => ins x l) []
theorem cuts_snoc (xs : List Int) (x : Int) : cuts (xs ++ [x]) = ins x (cuts xs) := by simp [cuts, List.foldl_append]
theorem ins_done (x : Int) (r : List Int) : ∀ l, ge x l = true → ins x (l ++ r) = ins x l ++ r
  | [], h => by simp [ge] at h
  | y :: l, h => by
    simp only [List.cons_append, ins]
    by_cases h1 : x ≤ y
    · rw [if_pos h1, if_pos h1]
      split <;> rfl
    · rw [if_neg h1, if_neg h1, ins_done x r l (by simpa [ge, h1] using h)]
      rfl
theorem ins_not (x : Int) (r : List Int) : ∀ l, ge x l = false → ins x (l ++ r) = l ++ ins x r
  | [], _ => rfl
  | y :: l, h => by
    have h1 : ¬ x ≤ y := by
      intro h1
      simp [ge, h1] at h
    simp only [List.cons_append, ins]
    rw [if_neg h1, ins_not x r l (by simpa [ge, h1] using h)]
theorem ge_snoc (x y : Int) (l : List Int) : ge x (l ++ [y]) = (ge x l || decide (x ≤ y)) := by simp [ge]
theorem mem_ins (x z : Int) : ∀ l, z ∈ ins x l ↔ z = x ∨ z ∈ l
  | [] => by simp [ins]
  | y :: l => by
    simp only [ins]
    by_cases h1 : x ≤ y
    · rw [if_pos h1]
      by_cases h2 : x < y
      · rw [if_pos h2]; simp
      · rw [if_neg h2]
        have : x = y := by omega
        subst this
        simp
    · rw [if_neg h1]
      simp only [List.mem_cons, mem_ins x z l]
      constructor
      · rintro (h | h | h)
        · exact .inr (.inl h)
        · exact .inl h
        · exact .inr (.inr h)
      · rintro (h | h | h)
        · exact .inr (.inl h)
        · exact .inl h
        · exact .inr (.inr h)
theorem ins_up (x : Int) : ∀ l, l.Pairwise (· < ·) → (ins x l).Pairwise (· < ·)
  | [], _ => by simp [ins]
  | y :: l, h => by
    simp only [ins]
    obtain ⟨h1, h2⟩ := List.pairwise_cons.1 h
    by_cases hx : x ≤ y
    · rw [if_pos hx]
      by_cases hy : x < y
      · rw [if_pos hy]
        refine List.pairwise_cons.2 ⟨fun z hz => ?_, h⟩
        rcases List.mem_cons.1 hz with e | e
        · omega
        · have := h1 z e; omega
      · rw [if_neg hy]; exact h
    · rw [if_neg hx]
      refine List.pairwise_cons.2 ⟨fun z hz => ?_, ins_up x l h2⟩
      rcases (mem_ins x z l).1 hz with e | e
      · omega
      · exact h1 z e
theorem cuts_both : ∀ (xs : List Int) (l : List Int), l.Pairwise (· < ·) → (xs.foldl (fun l x => ins x l) l).Pairwise (· < ·) ∧ ∀ z, z ∈ xs.foldl (fun l x => ins x l) l ↔ z ∈ l ∨ z ∈ xs
  | [], l, h => ⟨h, fun z => by simp⟩
  | x :: xs, l, h => by
    obtain ⟨h1, h2⟩ := cuts_both xs (ins x l) (ins_up x l h)
    refine ⟨h1, fun z => ?_⟩
    show z ∈ xs.foldl (fun l x => ins x l) (ins x l) ↔ _
    rw [h2 z, mem_ins, List.mem_cons]
    constructor
    · rintro ((h | h) | h)
      · exact .inr (.inl h)
      · exact .inl h
      · exact .inr (.inr h)
    · rintro (h | h | h)
      · exact .inl (.inr h)
      · exact .inl (.inl h)
      · exact .inr h
/-- Lists that ascend and hold the same are the same. -/
theorem up_eq : ∀ (l m : List Int), l.Pairwise (· < ·) → m.Pairwise (· < ·) → (∀ z, z ∈ l ↔ z ∈ m) → l = m
  | [], [], _, _, _ => rfl
  | [], y :: m, _, _, h => by have := (h y).2 (by simp); simp at this
  | x :: l, [], _, _, h => by have := (h x).1 (by simp); simp at this
  | x :: l, y :: m, hl, hm, h => by
    obtain ⟨a1, a2⟩ := List.pairwise_cons.1 hl
    obtain ⟨b1, b2⟩ := List.pairwise_cons.1 hm
    have e : x = y := by
      have h1 := (h x).1 (by simp)
      have h2 := (h y).2 (by simp)
      rcases List.mem_cons.1 h1 with e | e
      · exact e
      · rcases List.mem_cons.1 h2 with e' | e'
        · exact e'.symm
        · have := b1 x e; have := a1 y e'; omega
    subst e
    rw [up_eq l m a2 b2 fun z => ?_]
    constructor
    · intro hz
      rcases List.mem_cons.1 ((h z).1 (List.mem_cons_of_mem _ hz)) with e | e
      · have := a1 z hz; omega
      · exact e
    · intro hz
      rcases List.mem_cons.1 ((h z).2 (List.mem_cons_of_mem _ hz)) with e | e
      · have := b1 z hz; omega
      · exact e
/-- What is equal once, of numbers that do not fall. -/
theorem compact_up (d : Array Int) (hs : ∀ i j, i ≤ j → j < d.size → d[i]! ≤ d[j]!) : ∀ m, m ≤ d.size → (compactUpTo d m).Pairwise (· < ·) ∧ (∀ z, z ∈ compactUpTo d m ↔ ∃ j, j < m ∧ d[j]! = z)
  | 0, _ => by simp [compactUpTo]
  | m + 1, hm => by
    obtain ⟨h1, h2⟩ := compact_up d hs m (by omega)
    rw [compactUpTo_succ]
    by_cases hk : keeps d m = true
    · rw [if_pos hk]
      refine ⟨List.pairwise_append.2 ⟨h1, by simp, fun z hz u hu => ?_⟩, fun z => ?_⟩
      · obtain rfl := List.mem_singleton.1 hu
        obtain ⟨j, hj, rfl⟩ := (h2 z).1 hz
        have hne : d[m]! ≠ d[m - 1]! := by
          intro e
          rw [keeps_neg (by omega) e] at hk
          cases hk
        have := hs j (m - 1) (by omega) (by omega)
        have := hs (m - 1) m (by omega) (by omega)
        omega
      · rw [List.mem_append, h2 z, List.mem_singleton]
        constructor
        · rintro (⟨j, hj, e⟩ | e)
          · exact ⟨j, by omega, e⟩
          · exact ⟨m, by omega, e.symm⟩
        · rintro ⟨j, hj, e⟩
          by_cases hjm : j = m
          · subst hjm; exact .inr e.symm
          · exact .inl ⟨j, by omega, e⟩
    · rw [if_neg hk, List.append_nil]
      refine ⟨h1, fun z => ?_⟩
      rw [h2 z]
      have hm0 : 0 < m := by
        rcases Nat.eq_zero_or_pos m with e | e
        · subst e; exact absurd (keeps_lt_one d 0 (by omega)) hk
        · exact e
      have heq : d[m]! = d[m - 1]! := by
        by_cases e : d[m]! = d[m - 1]!
        · exact e
        · exact absurd (keeps_pos e) hk
      constructor
      · rintro ⟨j, hj, e⟩; exact ⟨j, by omega, e⟩
      · rintro ⟨j, hj, e⟩
        by_cases hjm : j = m
        · subst hjm; exact ⟨j - 1, by omega, heq ▸ e⟩
        · exact ⟨j, by omega, e⟩
theorem cuts_eq (xs : List Int) : compact (xs.mergeSort fun x y => decide (x ≤ y)) = cuts xs := by
  have hp : (xs.mergeSort fun x y => decide (x ≤ y)).Pairwise (fun a b => decide (a ≤ b) = true) := List.pairwise_mergeSort (fun a b c h1 h2 => by simp at *; omega) (fun a b => by simp; omega) xs
  have hm : ∀ z, z ∈ (xs.mergeSort fun x y => decide (x ≤ y)) ↔ z ∈ xs := fun z => List.mem_mergeSort
  generalize (xs.mergeSort fun x y => decide (x ≤ y)) = s at hp hm
  have hget : ∀ i (hi : i < s.length), s.toArray[i]! = s[i] := fun i hi => by simp [getElem!_pos, hi]
  have hs : ∀ i j, i ≤ j → j < s.toArray.size → s.toArray[i]! ≤ s.toArray[j]! := fun i j hij hj => by
    have hj' : j < s.length := by simpa using hj
    rw [hget i (by omega), hget j hj']
    rcases Nat.lt_or_ge i j with h | h
    · have := List.pairwise_iff_getElem.1 hp i j (by omega) hj' h
      simpa using this
    · have : i = j := by omega
      subst this
      omega
  obtain ⟨c1, c2⟩ := compact_up s.toArray hs s.length (by simp)
  obtain ⟨d1, d2⟩ := cuts_both xs [] (by simp)
  refine up_eq _ _ c1 d1 fun z => ?_
  show z ∈ compactUpTo s.toArray s.length ↔ _
  rw [c2 z]
  have : z ∈ cuts xs ↔ z ∈ xs := by
    rw [show cuts xs = xs.foldl (fun l x => ins x l) [] from rfl, d2 z]
    simp
  rw [this, ← hm z]
  constructor
  · rintro ⟨j, hj, e⟩
    rw [hget j hj] at e
    exact List.mem_of_getElem e
  · intro hz
    obtain ⟨j, hj, e⟩ := List.getElem_of_mem hz
    exact ⟨j, hj, by rw [hget j hj]; exact e⟩
theorem ins_len (x : Int) : ∀ l, (ins x l).length ≤ l.length + 1
  | [] => by simp [ins]
  | y :: l => by
    have := ins_len x l
    simp only [ins]
    split
    · split <;> simp
    · simp; omega
theorem cuts_len : ∀ (xs l : List Int), (xs.foldl (fun l x => ins x l) l).length ≤ l.length + xs.length
  | [], l => by simp
  | x :: xs, l => by
    have h1 := cuts_len xs (ins x l)
    have h2 := ins_len x l
    simp only [List.foldl_cons, List.length_cons]
    omega
end Go.Proofs.Ytkllgmhfjibajaa.Ct
