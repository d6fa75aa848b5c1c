/- The plain law of fairness: what two queues that wait all along were served of differs by a bound. No program in sight. -/
import Derived.Test.YtgbjhkgbjnobcaaNextPlain
namespace Go.Proofs.Ytgbjhkgbjnobcaa.Trn

theorem Valid.lt {t : Tu} (h : Valid t) : ∀ (i j : Nat) (p q : Qu), i < j → t.qs[i]? = some p → t.qs[j]? = some q → p.id < q.id := by
  have step1 : ∀ (i : Nat) (p q : Qu), t.qs[i]? = some p → t.qs[i + 1]? = some q → p.id < q.id := fun i p q hp hq => by
    have := (h.qs (i + 1) q hq).1
    simp only [lastId, List.getD_eq_getElem?_getD, hp, Option.getD_some] at this
    exact this
  have lt : ∀ (d i : Nat) (p q : Qu), t.qs[i]? = some p → t.qs[i + 1 + d]? = some q → p.id < q.id := by
    intro d
    induction d with
    | zero => intro i p q hp hq; exact step1 i p q hp hq
    | succ d ih =>
      intro i p q hp hq
      have hl := (List.getElem?_eq_some_iff.1 hq).1
      have hm : t.qs[i + 1 + d]? = some t.qs[i + 1 + d] := List.getElem?_eq_getElem (by omega)
      have h1 := ih i p _ hp hm
      have h2 := step1 (i + 1 + d) _ q hm (by rw [show i + 1 + d + 1 = i + 1 + (d + 1) by omega]; exact hq)
      omega
  exact fun i j p q hij hp hq => lt (j - (i + 1)) i p q hp (by rw [show i + 1 + (j - (i + 1)) = j by omega]; exact hq)
theorem Valid.ne {t : Tu} (h : Valid t) {i j : Nat} {p q : Qu} (hij : i ≠ j) (hp : t.qs[i]? = some p) (hq : t.qs[j]? = some q) : p.id ≠ q.id := by
  rcases Nat.lt_or_gt_of_ne hij with h1 | h1
  · have := h.lt i j p q h1 hp hq; omega
  · have := h.lt j i q p h1 hq hp; omega
/-- A look that serves nobody, seen from queue k. -/
theorem view_inl {t t' : Tu} {k : Nat} {a : Qu} (h : Valid t) (ha : t.qs[k]? = some a) (hs : step t = .inl t') :
    t'.qs.length = t.qs.length ∧ t'.at_ = (t.at_ + 1) % t.qs.length ∧ t'.fr = false ∧ ∃ a', t'.qs[k]? = some a' ∧ a'.id = a.id ∧ a'.qu = a.qu ∧ a'.cs = a.cs ∧
      ((t.at_ ≠ k ∧ a'.de = a.de) ∨ (t.at_ = k ∧ a.cs = [] ∧ a'.de = a.de) ∨ (t.at_ = k ∧ a'.de = a.de + (if t.fr = true then 0 else a.qu) ∧ ∃ c cs, a.cs = c :: cs ∧ a'.de < c)) := by
  have hkl := (List.getElem?_eq_some_iff.1 ha).1
  have hn : 0 < t.qs.length := by omega
  obtain ⟨a0, a1⟩ := at_lt h hn
  have hc := cur_at h hn
  have hal : t.at_.toNat < t.qs.length := by omega
  have hcase : (t.at_ ≠ k ∧ t.at_.toNat ≠ k) ∨ (t.at_ = k ∧ t.at_.toNat = k) := by omega
  unfold step at hs
  split at hs
  · rename_i hcs
    injection hs with hs
    subst hs
    refine ⟨rfl, rfl, rfl, a, ha, rfl, rfl, rfl, ?_⟩
    rcases hcase with ⟨e, _⟩ | ⟨e, e2⟩
    · exact .inl ⟨e, rfl⟩
    · rw [e2, ha] at hc
      injection hc with hc
      exact .inr (.inl ⟨e, by rw [hc]; exact hcs, rfl⟩)
  · rename_i c cs hcs
    split at hs
    · rename_i hlt
      injection hs with hs
      subst hs
      have hl : (paid t).qs.length = t.qs.length := setQ_len _ _
      refine ⟨hl, by show ((paid t).at_ + 1) % ((paid t).qs.length : Int) = _; rw [hl]; rfl, rfl, ?_⟩
      rcases hcase with ⟨e, e2⟩ | ⟨e, e2⟩
      · exact ⟨a, by show (t.qs.set _ _)[k]? = _; rw [List.getElem?_set_ne e2]; exact ha, rfl, rfl, rfl, .inl ⟨e, rfl⟩⟩
      · have hca := hc
        rw [e2, ha] at hca
        injection hca with hca
        refine ⟨{ cur t with de := money t }, by show (t.qs.set _ _)[k]? = _; rw [e2, List.getElem?_set_self (by omega)], by rw [hca], by rw [hca], by rw [hca], .inr (.inr ⟨e, ?_, c, cs, by rw [hca]; exact hcs, hlt⟩)⟩
        show money t = _
        unfold money
        rw [hca]
        split <;> omega
    · cases hs
/-- A look that serves, seen from queue k. -/
theorem view_inr {t t' : Tu} {k : Nat} {a : Qu} {id cost : Int} (h : Valid t) (ha : t.qs[k]? = some a) (hs : step t = .inr (t', id, cost)) :
    t'.qs.length = t.qs.length ∧ ∃ a', t'.qs[k]? = some a' ∧ a'.id = a.id ∧ a'.qu = a.qu ∧
      ((t'.at_ = t.at_ ∧ t'.fr = true ∧ (t.at_ = k → 0 < a'.cs.length)) ∨ (t'.at_ = (t.at_ + 1) % t.qs.length ∧ t'.fr = false ∧ (t.at_ = k → a'.cs = [] ∧ a'.de = 0))) ∧
      ((t.at_ ≠ k ∧ id ≠ a.id ∧ a'.cs = a.cs ∧ a'.de = a.de) ∨
       (t.at_ = k ∧ id = a.id ∧ a.cs = cost :: a'.cs ∧ cost ≤ a.de + (if t.fr = true then 0 else a.qu) ∧ (0 < a'.cs.length → a'.de = a.de + (if t.fr = true then 0 else a.qu) - cost))) := by
  have hkl := (List.getElem?_eq_some_iff.1 ha).1
  have hn : 0 < t.qs.length := by omega
  obtain ⟨a0, a1⟩ := at_lt h hn
  have hc := cur_at h hn
  have hal : t.at_.toNat < t.qs.length := by omega
  have hcase : (t.at_ ≠ k ∧ t.at_.toNat ≠ k) ∨ (t.at_ = k ∧ t.at_.toNat = k) := by omega
  unfold step at hs
  split at hs
  · cases hs
  · rename_i c cs hcs
    split at hs
    · cases hs
    · rename_i hge
      injection hs with hs
      injection hs with h1 h2
      injection h2 with h2 h3
      subst h1 h3 h2
      refine ⟨served_len _ _ _, ?_⟩
      rcases hcase with ⟨e, e2⟩ | ⟨e, e2⟩
      · have hsv : (served t c cs).qs[k]? = some a := by
          unfold served
          split
          · show (t.qs.set _ _)[k]? = _; rw [List.getElem?_set_ne e2]; exact ha
          · show (t.qs.set _ _)[k]? = _; rw [List.getElem?_set_ne e2]; exact ha
        refine ⟨a, hsv, rfl, rfl, ?_, .inl ⟨e, h.ne e2 hc ha, rfl, rfl⟩⟩
        unfold served
        split
        · refine .inr ⟨?_, rfl, fun h => absurd h e⟩
          show (t.at_ + 1) % ((Trn.setQ t _).qs.length : Int) = _
          rw [setQ_len]
        · exact .inl ⟨rfl, rfl, fun h => absurd h e⟩
      · have hca := hc
        rw [e2, ha] at hca
        injection hca with hca
        have hmo : money t = a.de + (if t.fr = true then 0 else a.qu) := by
          unfold money
          rw [hca]
          split <;> omega
        unfold served
        split
        · rename_i hnil
          subst hnil
          refine ⟨{ cur t with de := 0, cs := [] }, ?_, by rw [hca], by rw [hca], .inr ⟨?_, rfl, fun _ => ⟨rfl, rfl⟩⟩, .inr ⟨e, by rw [hca], by rw [hca]; exact hcs, by omega, fun h => absurd h (by simp)⟩⟩
          · show (t.qs.set _ _)[k]? = _; rw [e2, List.getElem?_set_self (by omega)]
          · show (t.at_ + 1) % ((Trn.setQ t _).qs.length : Int) = _
            rw [setQ_len]
        · rename_i hne
          refine ⟨{ cur t with de := money t - c, cs := cs }, ?_, by rw [hca], by rw [hca], .inl ⟨rfl, rfl, fun _ => List.length_pos_iff.2 hne⟩, .inr ⟨e, by rw [hca], by rw [hca]; exact hcs, by omega, fun _ => by show money t - c = _; rw [hmo]⟩⟩
          show (t.qs.set _ _)[k]? = _; rw [e2, List.getElem?_set_self (by omega)]
end Go.Proofs.Ytgbjhkgbjnobcaa.Trn
