/- The plain law of fairness, second part: quanta come in turns; the bound. No program in sight. -/
import Derived.Test.YtgbjhkgbjnobcaaFairPlain
namespace Go.Proofs.Ytgbjhkgbjnobcaa.Trn

/-- How many looks until queue k is given its quantum. -/
def dist (t : Tu) (k : Nat) : Int :=
  if t.at_ ≤ k then (if t.at_ = k ∧ t.fr = true then (t.qs.length : Int) else k - t.at_) else k - t.at_ + t.qs.length
/-- Is it given its quantum at this look? -/
def bump (t : Tu) (k : Nat) : Int := if t.at_ = k ∧ t.fr = false then 1 else 0
theorem bump_cases (t : Tu) (k : Nat) : (t.at_ = k ∧ t.fr = false ∧ bump t k = 1) ∨ (¬ (t.at_ = k ∧ t.fr = false) ∧ bump t k = 0) := by
  unfold bump
  split
  · rename_i h; exact .inl ⟨h.1, h.2, rfl⟩
  · rename_i h; exact .inr ⟨h, rfl⟩
theorem dist_cases {t : Tu} {k : Nat} (hk : k < t.qs.length) (h0 : 0 ≤ t.at_) (h1 : t.at_ < t.qs.length) :
    (t.at_ = k ∧ t.fr = true ∧ dist t k = t.qs.length) ∨ (t.at_ = k ∧ t.fr = false ∧ dist t k = 0) ∨ (t.at_ ≠ k ∧ 1 ≤ dist t k ∧ dist t k ≤ t.qs.length - 1 ∧ ((t.at_ ≤ k ∧ dist t k = k - t.at_) ∨ (k < t.at_ ∧ dist t k = k - t.at_ + t.qs.length))) := by
  unfold dist
  rcases Bool.eq_false_or_eq_true t.fr with hf | hf
  · by_cases h : t.at_ = k
    · left; refine ⟨h, hf, ?_⟩; rw [if_pos (by omega), if_pos ⟨h, hf⟩]
    · right; right
      refine ⟨h, ?_⟩
      by_cases h2 : t.at_ ≤ k
      · rw [if_pos h2, if_neg (fun hh => h hh.1)]; omega
      · rw [if_neg h2]; omega
  · by_cases h : t.at_ = k
    · right; left; refine ⟨h, hf, ?_⟩; rw [if_pos (by omega), if_neg (fun hh => by rw [hf] at hh; cases hh.2)]; omega
    · right; right
      refine ⟨h, ?_⟩
      by_cases h2 : t.at_ ≤ k
      · rw [if_pos h2, if_neg (fun hh => h hh.1)]; omega
      · rw [if_neg h2]; omega
theorem dist_on {t t' : Tu} {k : Nat} (hk : k < t.qs.length) (h0 : 0 ≤ t.at_) (h1 : t.at_ < t.qs.length) (hl : t'.qs.length = t.qs.length) (ha : t'.at_ = (t.at_ + 1) % t.qs.length) (hf : t'.fr = false) :
    (t.at_ = k ∧ dist t' k = t.qs.length - 1) ∨ (t.at_ ≠ k ∧ dist t' k = dist t k - 1) := by
  have hm := mod_on h0 h1
  rw [← ha] at hm
  have h2 : 0 ≤ t'.at_ ∧ t'.at_ < t.qs.length := by omega
  rcases dist_cases (t := t') (k := k) (by omega) h2.1 (by omega) with ⟨_, h, _⟩ | ⟨e, _, d⟩ | ⟨e, _, _, d⟩
  · rw [hf] at h; cases h
  · rcases dist_cases hk h0 h1 with ⟨e', _, d'⟩ | ⟨e', _, d'⟩ | ⟨e', _, _, d'⟩ <;> omega
  · rcases dist_cases hk h0 h1 with ⟨e', _, d'⟩ | ⟨e', _, d'⟩ | ⟨e', _, _, d'⟩ <;> omega
theorem dist_stay {t t' : Tu} {k : Nat} (hk : k < t.qs.length) (h0 : 0 ≤ t.at_) (h1 : t.at_ < t.qs.length) (hl : t'.qs.length = t.qs.length) (ha : t'.at_ = t.at_) (hf : t'.fr = true) :
    (t.at_ = k ∧ dist t' k = t.qs.length) ∨ (t.at_ ≠ k ∧ dist t' k = dist t k) := by
  rcases dist_cases (t := t') (k := k) (by omega) (by omega) (by omega) with ⟨e, _, d⟩ | ⟨_, h, _⟩ | ⟨e, _, _, d⟩
  · exact .inl ⟨by omega, by omega⟩
  · rw [hf] at h; cases h
  · rcases dist_cases hk h0 h1 with ⟨e', _, d'⟩ | ⟨e', _, d'⟩ | ⟨e', _, _, d'⟩ <;> omega
/-- Of two queues' quanta: they come in turns. -/
def Link (first : Bool) (t : Tu) (i j : Nat) (a b : Int) : Prop :=
  (first = true → dist t i < dist t j → a - b = 0) ∧ (first = true → ¬ dist t i < dist t j → a - b = 1) ∧ (first = false → dist t i < dist t j → a - b = -1) ∧ (first = false → ¬ dist t i < dist t j → a - b = 0)
theorem Link.start (t : Tu) (i j : Nat) : ∃ first, Link first t i j 0 0 := by
  by_cases h : dist t i < dist t j
  · exact ⟨true, fun _ _ => rfl, fun _ h' => absurd h h', fun h => (by cases h), fun h => (by cases h)⟩
  · exact ⟨false, fun h => (by cases h), fun h => (by cases h), fun _ h' => absurd h' h, fun _ _ => rfl⟩
theorem Link.near {first : Bool} {t : Tu} {i j : Nat} {a b : Int} (h : Link first t i j a b) : -1 ≤ a - b ∧ a - b ≤ 1 := by
  obtain ⟨h1, h2, h3, h4⟩ := h
  rcases Bool.eq_false_or_eq_true first with e | e
  · by_cases h : dist t i < dist t j
    · have := h1 e h; omega
    · have := h2 e h; omega
  · by_cases h : dist t i < dist t j
    · have := h3 e h; omega
    · have := h4 e h; omega
theorem Link.move {first : Bool} {t t' : Tu} {i j : Nat} {a b : Int} (h : Link first t i j a b) (hij : i ≠ j) (hi : i < t.qs.length) (hj : j < t.qs.length) (h0 : 0 ≤ t.at_) (h1 : t.at_ < t.qs.length) (hl : t'.qs.length = t.qs.length)
    (hm : (t'.at_ = (t.at_ + 1) % t.qs.length ∧ t'.fr = false) ∨ (t'.at_ = t.at_ ∧ t'.fr = true)) : Link first t' i j (a + bump t i) (b + bump t j) := by
  have hd : ((t.at_ = i ∧ dist t' i = t.qs.length - 1) ∨ (t.at_ ≠ i ∧ dist t' i = dist t i - 1)) ∧ ((t.at_ = j ∧ dist t' j = t.qs.length - 1) ∨ (t.at_ ≠ j ∧ dist t' j = dist t j - 1)) ∨
      ((t.at_ = i ∧ dist t' i = t.qs.length) ∨ (t.at_ ≠ i ∧ dist t' i = dist t i)) ∧ ((t.at_ = j ∧ dist t' j = t.qs.length) ∨ (t.at_ ≠ j ∧ dist t' j = dist t j)) := by
    rcases hm with ⟨m1, m2⟩ | ⟨m1, m2⟩
    · exact .inl ⟨dist_on hi h0 h1 hl m1 m2, dist_on hj h0 h1 hl m1 m2⟩
    · exact .inr ⟨dist_stay hi h0 h1 hl m1 m2, dist_stay hj h0 h1 hl m1 m2⟩
  have ci := dist_cases hi h0 h1
  have cj := dist_cases hj h0 h1
  have bi := bump_cases t i
  have bj := bump_cases t j
  obtain ⟨k1, k2, k3, k4⟩ := h
  have key : (dist t i < dist t j ↔ dist t' i < dist t' j) ∧ bump t i = 0 ∧ bump t j = 0 ∨ (dist t i < dist t j ∧ ¬ dist t' i < dist t' j ∧ bump t i = 1 ∧ bump t j = 0) ∨ (¬ dist t i < dist t j ∧ dist t' i < dist t' j ∧ bump t i = 0 ∧ bump t j = 1) := by
    rcases Bool.eq_false_or_eq_true t.fr with hf | hf <;> simp only [hf, and_true, and_false, true_and, false_and, false_or, Bool.true_eq_false, Bool.false_eq_true, not_false_eq_true] at ci cj bi bj <;> omega
  rcases key with ⟨e, b1, b2⟩ | ⟨e1, e2, b1, b2⟩ | ⟨e1, e2, b1, b2⟩
  · rw [b1, b2, Int.add_zero, Int.add_zero]
    exact ⟨fun f h => k1 f (e.2 h), fun f h => k2 f (fun h' => h (e.1 h')), fun f h => k3 f (e.2 h), fun f h => k4 f (fun h' => h (e.1 h'))⟩
  · rw [b1, b2]
    exact ⟨fun f h => absurd h e2, fun f h => by have := k1 f e1; omega, fun f h => absurd h e2, fun f h => by have := k3 f e1; omega⟩
  · rw [b1, b2]
    exact ⟨fun f h => by have := k2 f e1; omega, fun f h => absurd e2 h, fun f h => by have := k4 f e1; omega, fun f h => absurd e2 h⟩
/-- One queue's account: what it was served of is what it had, and its quanta, without what it has. -/
def Half (c p A x : Int) (k : Nat) (t : Tu) (s T : Int) : Prop :=
  ∃ a, t.qs[k]? = some a ∧ a.id = x ∧ a.qu = p ∧ 0 < a.cs.length ∧ (∀ y ∈ a.cs, y ≤ c) ∧ 0 ≤ a.de ∧ a.de ≤ c + (if t.fr = true ∧ t.at_ = k then p else 0) ∧ s = A + T * p - a.de
theorem Half.inl {c p A x s T : Int} {k : Nat} {t t' : Tu} (h : Half c p A x k t s T) (hv : Valid t) (hs : step t = .inl t') : Half c p A x k t' s (T + bump t k) := by
  obtain ⟨a, ha, hx, hp, hw, hc, hd0, hd1, hsum⟩ := h
  have hn : 0 < t.qs.length := by have := (List.getElem?_eq_some_iff.1 ha).1; omega
  obtain ⟨hl, hat, hfr, a', ha', e1, e2, e3, hcase⟩ := view_inl hv ha hs
  have hv' := (hv.step_inl hn hs).1
  have hd' := (hv'.qs k a' ha').2.2.2.1
  refine ⟨a', ha', e1.trans hx, e2.trans hp, by rw [e3]; exact hw, by rw [e3]; exact hc, hd', ?_, ?_⟩
  · rw [if_neg (fun hh => by rw [hfr] at hh; cases hh.1)]
    rcases hcase with ⟨e, ed⟩ | ⟨e, ecs, ed⟩ | ⟨e, ed, y, ys, ecs, hlt⟩
    · rw [if_neg (fun hh => e hh.2)] at hd1
      omega
    · rw [ecs] at hw; simp at hw
    · have := hc y (by rw [ecs]; exact List.mem_cons_self)
      omega
  · rcases hcase with ⟨e, ed⟩ | ⟨e, ecs, ed⟩ | ⟨e, ed, y, ys, ecs, hlt⟩
    · have hb : bump t k = 0 := by unfold bump; rw [if_neg (fun hh => e hh.1)]
      rw [hb, Int.add_zero, ed]
      exact hsum
    · rw [ecs] at hw; simp at hw
    · rcases Bool.eq_false_or_eq_true t.fr with hf | hf
      · have hb : bump t k = 0 := by unfold bump; rw [if_neg (fun hh => by rw [hf] at hh; cases hh.2)]
        rw [if_pos hf] at ed
        rw [hb, Int.add_zero, ed]
        omega
      · have hb : bump t k = 1 := by unfold bump; rw [if_pos ⟨e, hf⟩]
        rw [if_neg (by rw [hf]; decide)] at ed
        rw [hb, ed, hp, Int.add_mul]
        omega
theorem Half.inr {c p A x s T id cost : Int} {k : Nat} {t t' : Tu} {b : Qu} (h : Half c p A x k t s T) (hv : Valid t) (hs : step t = .inr (t', id, cost)) (hb : t'.qs[k]? = some b) (hbw : 0 < b.cs.length) : Half c p A x k t' (s + if id = x then cost else 0) (T + bump t k) := by
  obtain ⟨a, ha, hx, hp, hw, hc, hd0, hd1, hsum⟩ := h
  have hn : 0 < t.qs.length := by have := (List.getElem?_eq_some_iff.1 ha).1; omega
  obtain ⟨hl, a', ha', e1, e2, hmv, hcase⟩ := view_inr hv ha hs
  rw [ha'] at hb
  injection hb with hb
  subst hb
  have hv' := (hv.step_inr hn hs).1
  have hd' := (hv'.qs k a' ha').2.2.2.1
  have hq1 := (hv.qs k a ha).2.1
  rcases hcase with ⟨e, ei, ecs, ed⟩ | ⟨e, ei, ecs, hle, ed⟩
  · have hbm : bump t k = 0 := by unfold bump; rw [if_neg (fun hh => e hh.1)]
    rw [if_neg (fun hh => e hh.2)] at hd1
    rw [hbm, if_neg (fun hh => ei (hh.trans hx.symm)), Int.add_zero, Int.add_zero]
    refine ⟨a', ha', e1.trans hx, e2.trans hp, hbw, by rw [ecs]; exact hc, hd', ?_, by rw [ed]; exact hsum⟩
    split <;> omega
  · have ed := ed hbw
    have hc1 : 1 ≤ cost := (hv.cs a (List.mem_of_getElem? ha) cost (by rw [ecs]; exact List.mem_cons_self)).1
    rw [if_pos (ei.trans hx)]
    have hmv2 : t'.fr = true ∧ t'.at_ = k := by
      rcases hmv with ⟨m1, m2, _⟩ | ⟨m1, m2, m3⟩
      · exact ⟨m2, by omega⟩
      · rw [(m3 e).1] at hbw; simp at hbw
    refine ⟨a', ha', e1.trans hx, e2.trans hp, hbw, fun y hy => hc y (by rw [ecs]; exact List.mem_cons_of_mem _ hy), hd', ?_, ?_⟩
    · rw [if_pos hmv2, ed]
      rcases Bool.eq_false_or_eq_true t.fr with hf | hf
      · rw [if_pos hf]
        rw [if_pos ⟨hf, e⟩] at hd1
        omega
      · rw [if_neg (by rw [hf]; decide)]
        rw [if_neg (fun hh => by rw [hf] at hh; cases hh.1)] at hd1
        omega
    · rcases Bool.eq_false_or_eq_true t.fr with hf | hf
      · have hbm : bump t k = 0 := by unfold bump; rw [if_neg (fun hh => by rw [hf] at hh; cases hh.2)]
        rw [if_pos hf] at ed
        rw [hbm, Int.add_zero, ed]
        omega
      · have hbm : bump t k = 1 := by unfold bump; rw [if_pos ⟨e, hf⟩]
        rw [if_neg (by rw [hf]; decide)] at ed
        rw [hbm, ed, hp, Int.add_mul]
        omega
/-- Two accounts. -/
def FairInv (c : Int) (i j : Nat) (t : Tu) (si sj : Int) : Prop :=
  ∃ p q A B x y Ti Tj first, Half c p A x i t si Ti ∧ Half c q B y j t sj Tj ∧ 0 ≤ A ∧ A ≤ c ∧ 0 ≤ B ∧ B ≤ c ∧ Link first t i j Ti Tj
theorem FairInv.start {c : Int} {i j : Nat} {t : Tu} {a b : Qu} (hv : Valid t) (ha : t.qs[i]? = some a) (hb : t.qs[j]? = some b) (hwa : 0 < a.cs.length) (hwb : 0 < b.cs.length)
    (hda : a.de ≤ c) (hdb : b.de ≤ c) (hca : ∀ y ∈ a.cs, y ≤ c) (hcb : ∀ y ∈ b.cs, y ≤ c) : FairInv c i j t 0 0 := by
  obtain ⟨first, hf⟩ := Link.start t i j
  obtain ⟨_, ua, _, d0, _⟩ := hv.qs i a ha
  obtain ⟨_, ub, _, e0, _⟩ := hv.qs j b hb
  refine ⟨a.qu, b.qu, a.de, b.de, a.id, b.id, 0, 0, first, ⟨a, ha, rfl, rfl, hwa, hca, d0, ?_, by omega⟩, ⟨b, hb, rfl, rfl, hwb, hcb, e0, ?_, by omega⟩, d0, hda, e0, hdb, hf⟩
  · split <;> omega
  · split <;> omega
theorem FairInv.go {c : Int} {i j : Nat} (hij : i ≠ j) : ∀ (f : Nat) {t t' : Tu} {si sj id cost : Int} {a b a' b' : Qu}, Valid t → FairInv c i j t si sj → Trn.go f t = some (t', id, cost) → t.qs[i]? = some a → t.qs[j]? = some b →
    t'.qs[i]? = some a' → 0 < a'.cs.length → t'.qs[j]? = some b' → 0 < b'.cs.length → FairInv c i j t' (si + if id = a.id then cost else 0) (sj + if id = b.id then cost else 0) := by
  intro f
  induction f with
  | zero => intro t t' si sj id cost a b a' b' hv h hg; simp [Trn.go] at hg
  | succ f ih =>
    intro t t' si sj id cost a b a' b' hv h hg ha hb ha' hwa hb' hwb
    have hi := (List.getElem?_eq_some_iff.1 ha).1
    have hj := (List.getElem?_eq_some_iff.1 hb).1
    obtain ⟨at0, at1⟩ := at_lt hv (by omega)
    obtain ⟨p, q, A, B, x, y, Ti, Tj, first, h1, h2, k1, k2, k3, k4, hl⟩ := h
    cases hs : Trn.step t with
    | inl t1 =>
      have hg1 : Trn.go f t1 = some (t', id, cost) := by simpa [Trn.go, hs] using hg
      obtain ⟨hv1, hl1⟩ := hv.step_inl (by omega) hs
      obtain ⟨l1, l2, l3, a1, ha1, ea, _⟩ := view_inl hv ha hs
      obtain ⟨_, _, _, b1, hb1, eb, _⟩ := view_inl hv hb hs
      have := ih hv1 ⟨p, q, A, B, x, y, _, _, first, h1.inl hv hs, h2.inl hv hs, k1, k2, k3, k4, hl.move hij hi hj at0 at1 l1 (.inl ⟨l2, l3⟩)⟩ hg1 ha1 hb1 ha' hwa hb' hwb
      rw [ea, eb] at this
      exact this
    | inr r =>
      have hg1 : r = (t', id, cost) := by
        have : some r = some (t', id, cost) := by simpa [Trn.go, hs] using hg
        injection this
      subst hg1
      have hxa : a.id = x := by
        obtain ⟨a0, h0, h0x, _⟩ := h1
        rw [ha] at h0; injection h0 with h0; rw [h0]; exact h0x
      have hxb : b.id = y := by
        obtain ⟨a0, h0, h0x, _⟩ := h2
        rw [hb] at h0; injection h0 with h0; rw [h0]; exact h0x
      rw [hxa, hxb]
      obtain ⟨l1, _, _, _, _, hm, _⟩ := view_inr hv ha hs
      refine ⟨p, q, A, B, x, y, _, _, first, h1.inr hv hs ha' hwa, h2.inr hv hs hb' hwb, k1, k2, k3, k4, hl.move hij hi hj at0 at1 l1 ?_⟩
      rcases hm with ⟨m1, m2, _⟩ | ⟨m1, m2, _⟩
      · exact .inr ⟨m1, m2⟩
      · exact .inl ⟨m1, m2⟩
theorem half_bound {c p A d : Int} {b : Prop} [Decidable b] (q : Int) (hq : 0 ≤ q) (hp : 0 ≤ p) (hA : 0 ≤ A) (hAc : A ≤ c) (hd : 0 ≤ d) (hd1 : d ≤ c + (if b then p else 0)) : (A - d) * q ≤ c * q ∧ -(c * q + p * q) ≤ (A - d) * q := by
  have h1 : A - d ≤ c := by omega
  have h2 : -(c + p) ≤ A - d := by split at hd1 <;> omega
  have e1 := Int.mul_le_mul_of_nonneg_right h1 hq
  have e2 := Int.mul_le_mul_of_nonneg_right h2 hq
  rw [Int.neg_mul, Int.add_mul] at e2
  exact ⟨e1, e2⟩
/-- The bound. -/
theorem FairInv.bound {c : Int} {i j : Nat} {t : Tu} {si sj : Int} {a b : Qu} (h : FairInv c i j t si sj) (hv : Valid t) (ha : t.qs[i]? = some a) (hb : t.qs[j]? = some b) :
    si * b.qu - sj * a.qu ≤ 3 * a.qu * b.qu + c * (a.qu + b.qu) ∧ -(3 * a.qu * b.qu + c * (a.qu + b.qu)) ≤ si * b.qu - sj * a.qu := by
  obtain ⟨p, q, A, B, x, y, Ti, Tj, first, ⟨a1, ha1, _, hp, _, _, d0, d1, hs1⟩, ⟨b1, hb1, _, hq, _, _, e0, e1, hs2⟩, k1, k2, k3, k4, hl⟩ := h
  rw [ha] at ha1
  injection ha1 with ha1
  subst ha1
  rw [hb] at hb1
  injection hb1 with hb1
  subst hb1
  have hp1 : 1 ≤ p := by have := (hv.qs i a ha).2.1; omega
  have hq1 : 1 ≤ q := by have := (hv.qs j b hb).2.1; omega
  obtain ⟨n1, n2⟩ := hl.near
  rw [hp, hq]
  obtain ⟨u1, u2⟩ := half_bound q (by omega) (by omega) k1 k2 d0 d1
  obtain ⟨v1, v2⟩ := half_bound p (by omega) (by omega) k3 k4 e0 e1
  have hpq : 0 ≤ p * q := Int.mul_nonneg (by omega) (by omega)
  have w1 : si * q = (A - a.de) * q + Ti * (p * q) := by
    rw [hs1, show A + Ti * p - a.de = (A - a.de) + Ti * p by omega, Int.add_mul, Int.mul_assoc]
  have w2 : sj * p = (B - b.de) * p + Tj * (p * q) := by
    rw [hs2, show B + Tj * q - b.de = (B - b.de) + Tj * q by omega, Int.add_mul, Int.mul_assoc, Int.mul_comm q p]
  have w3 : (Ti - Tj) * (p * q) ≤ p * q ∧ -(p * q) ≤ (Ti - Tj) * (p * q) := by
    have : Ti - Tj = -1 ∨ Ti - Tj = 0 ∨ Ti - Tj = 1 := by omega
    rcases this with e | e | e <;> rw [e] <;> omega
  rw [Int.sub_mul] at w3
  have w4 : 3 * p * q = 3 * (p * q) := Int.mul_assoc _ _ _
  have w5 : c * (p + q) = c * p + c * q := Int.mul_add _ _ _
  have w6 : q * p = p * q := Int.mul_comm _ _
  rw [w1, w2, w4, w5]
  rw [w6] at v2
  omega
end Go.Proofs.Ytgbjhkgbjnobcaa.Trn
