/- The plain law of the turns: queues, which turns may be. No program in sight. -/
namespace Go.Proofs.Ytgbjhkgbjnobcaa.Trn

/-- A queue, and turns. -/
structure Qu where
  id : Int
  qu : Int
  de : Int
  cs : List Int
  deriving Inhabited
structure Tu where
  qs : List Qu
  at_ : Int
  fr : Bool
  deriving Inhabited

/-- The greatest deficit that queue i may have. -/
def most (t : Tu) (i : Nat) : Int := 1048575 + if t.fr = true ∧ (i : Int) = t.at_ then 65536 else 0
/-- The id ahead of queue i. -/
def lastId (t : Tu) : Nat → Int
  | 0 => -1
  | i + 1 => (t.qs.getD i default).id
/-- May queue i be? -/
def okQ (t : Tu) (i : Nat) (q : Qu) : Prop := lastId t i < q.id ∧ 1 ≤ q.qu ∧ q.qu ≤ 65536 ∧ 0 ≤ q.de ∧ q.de ≤ most t i ∧ (q.cs.length = 0 → q.de ≤ 0)
def okQs (t : Tu) : Prop := ∀ i q, t.qs[i]? = some q → okQ t i q
def okAt (t : Tu) : Prop := 0 ≤ t.at_ ∧ (t.at_ < t.qs.length ∨ t.at_ = 0) ∧ (t.fr = true → 0 < t.qs.length)
def okCs (t : Tu) : Prop := ∀ q ∈ t.qs, ∀ c ∈ q.cs, 1 ≤ c ∧ c ≤ 1048576
/-- Turns that may be. -/
structure Valid (t : Tu) : Prop where
  len : t.qs.length ≤ 32
  qs : okQs t
  at_ : okAt t
  cs : okCs t
open Classical in
/-- What Check says. -/
noncomputable def chk (t : Tu) : Int := if t.qs.length ≤ 32 ∧ okQs t ∧ okAt t then (if okCs t then 0 else 191) else 190
theorem chk_zero {t : Tu} : chk t = 0 ↔ Valid t := by
  unfold chk
  constructor
  · intro h
    split at h
    · rename_i h1
      split at h
      · rename_i h2
        exact ⟨h1.1, h1.2.1, h1.2.2, h2⟩
      · omega
    · omega
  · intro h
    rw [if_pos ⟨h.len, h.qs, h.at_⟩, if_pos h.cs]
theorem chk_len {t : Tu} (h : 32 < t.qs.length) : chk t = 190 := by unfold chk; rw [if_neg]; intro h1; omega
theorem chk_q {t : Tu} {i : Nat} {q : Qu} (hi : t.qs[i]? = some q) (h : ¬ okQ t i q) : chk t = 190 := by unfold chk; rw [if_neg]; intro h1; exact h (h1.2.1 i q hi)
theorem chk_at {t : Tu} (h : ¬ okAt t) : chk t = 190 := by unfold chk; rw [if_neg]; intro h1; exact h h1.2.2
theorem chk_cs {t : Tu} (h1 : t.qs.length ≤ 32) (h2 : okQs t) (h3 : okAt t) (h : ¬ okCs t) : chk t = 191 := by unfold chk; rw [if_pos ⟨h1, h2, h3⟩, if_neg h]
theorem chk_cases (t : Tu) : chk t = 0 ∨ chk t = 190 ∨ chk t = 191 := by
  unfold chk
  split
  · split
    · exact .inl rfl
    · exact .inr (.inr rfl)
  · exact .inr (.inl rfl)
end Go.Proofs.Ytgbjhkgbjnobcaa.Trn
