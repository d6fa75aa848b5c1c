/- Plain: to fold in two parts is to fold all; what was folded once changes nothing. Conditions: none. -/
import Derived.Test.YtmcahimapoddfaaFold
namespace Go.Proofs.Ytmcahimapoddfaa

theorem look_put {l : List Pr} (h : Rising l) (p : Pr) (k : Int) : look (put l p) k = if k = p.pid then some p else look l k := by
  split
  · rename_i e
    subst e
    exact look_of_mem (rising_put h p) (mem_put.2 (.inl rfl))
  · rename_i hne
    rcases hf : look l k with _ | q
    · rcases hg : look (put l p) k with _ | q
      · rfl
      · obtain ⟨hm, he⟩ := look_mem hg
        rcases mem_put.1 hm with rfl | ⟨h1, _⟩
        · exact absurd he.symm hne
        · exact absurd he (look_none hf q h1)
    · obtain ⟨hm, he⟩ := look_mem hf
      have := look_of_mem (rising_put h p) (mem_put.2 (.inr ⟨hm, by rw [he]; exact hne⟩))
      rw [he] at this
      exact this
theorem newOk_put {l : List Pr} {p : Pr} (h : NewOk l) (hp : okPr p) (hl : look l p.pid = none → l.length < 64) : NewOk (put l p) := by
  obtain ⟨h1, h2, h3⟩ := newOk_iff.1 h
  refine newOk_iff.2 ⟨?_, rising_put h2 p, fun q hq => ?_⟩
  · rw [length_put h2]
    split
    · rename_i e; have := hl e; omega
    · exact h1
  · rcases mem_put.1 hq with rfl | ⟨hm, _⟩
    · exact hp
    · exact h3 q hm
theorem ok_ofR {r : Rc} (h : chkR r = 0) (h0 : ¬ r.pid = 0) : okPr (ofR r) := by
  have := chk_zero h
  unfold okPr ofR
  dsimp only
  omega
/-- One step, told by its ways: it fails; the table is as it was; the record is put. -/
theorem step_cases (l : List Pr) (r : Rc) : ((step1 l r).1 ≠ 0) ∨
    (step1 l r = (0, l) ∧ chkR r = 0 ∧ (r.pid = 0 ∨ ∃ p, look l r.pid = some p ∧ r.seq ≤ p.seq)) ∨
    (step1 l r = (0, put l (ofR r)) ∧ chkR r = 0 ∧ ¬ r.pid = 0 ∧ (look l r.pid = none → l.length < 64) ∧ ∀ p, look l r.pid = some p → p.seq < r.seq) := by
  by_cases h : chkR r = 0
  · by_cases h0 : r.pid = 0
    · refine .inr (.inl ⟨?_, h, .inl h0⟩)
      unfold step1
      rw [if_neg (not_not_intro h), if_pos h0]
    · rcases hl : look l r.pid with _ | p
      · by_cases hf : 64 ≤ l.length
        · left
          rw [show step1 l r = (92, []) by unfold step1; rw [if_neg (not_not_intro h), if_neg h0, hl]; exact if_pos hf]
          decide
        · refine .inr (.inr ⟨?_, h, h0, fun _ => by omega, fun p hp => by cases hp⟩)
          unfold step1
          rw [if_neg (not_not_intro h), if_neg h0, hl]
          exact if_neg hf
      · by_cases hs : p.seq < r.seq
        · refine .inr (.inr ⟨?_, h, h0, (by intro e; cases e), (by intro q hq; injection hq with hq; subst hq; exact hs)⟩)
          unfold step1
          rw [if_neg (not_not_intro h), if_neg h0, hl]
          exact if_pos hs
        · refine .inr (.inl ⟨?_, h, .inr ⟨p, rfl, by omega⟩⟩)
          unfold step1
          rw [if_neg (not_not_intro h), if_neg h0, hl]
          exact if_neg hs
  · left
    rw [show step1 l r = (chkR r, []) from if_pos h]
    exact h
theorem fold_err {l : List Pr} : ∀ {rs : List Rc}, (foldGo l rs).1 ≠ 0 → (foldGo l rs).2 = [] := by
  intro rs
  induction rs generalizing l with
  | nil => intro h; exact absurd rfl h
  | cons r rs ih =>
    rw [fold_cons]
    intro h
    by_cases he : (step1 l r).1 ≠ 0
    · rw [if_pos he]
    · rw [if_neg he] at h ⊢
      exact ih h
theorem fold_append (l : List Pr) (a b : List Rc) : foldGo l (a ++ b) = if (foldGo l a).1 ≠ 0 then ((foldGo l a).1, []) else foldGo (foldGo l a).2 b := by
  induction a generalizing l with
  | nil => rw [List.nil_append, show foldGo l [] = (0, l) from rfl, if_neg (not_not_intro rfl)]
  | cons r a ih =>
    rw [List.cons_append, fold_cons, fold_cons]
    by_cases he : (step1 l r).1 ≠ 0
    · rw [if_pos he, if_pos he, if_pos he]
    · rw [if_neg he, if_neg he, ih]
theorem fold_ok {l : List Pr} (h : NewOk l) : ∀ {rs : List Rc}, (foldGo l rs).1 = 0 → NewOk (foldGo l rs).2 := by
  intro rs
  induction rs generalizing l with
  | nil => exact fun _ => h
  | cons r rs ih =>
    rw [fold_cons]
    intro h0
    rcases step_cases l r with he | ⟨he, _, _⟩ | ⟨he, hc, hp, hl, _⟩
    · rw [if_pos he] at h0; exact absurd h0 he
    · rw [he, if_neg (not_not_intro rfl)] at h0 ⊢
      exact ih h h0
    · rw [he, if_neg (not_not_intro rfl)] at h0 ⊢
      exact ih (newOk_put h (ok_ofR hc hp) hl) h0
def Seen (l : List Pr) (r : Rc) : Prop := r.pid = 0 ∨ ∃ p, look l r.pid = some p ∧ r.seq ≤ p.seq
theorem seen_put {l : List Pr} (h : Rising l) {q : Rc} {r : Rc} (hs : Seen l r) (hq : ∀ p, look l q.pid = some p → p.seq < q.seq) : Seen (put l (ofR q)) r := by
  rcases hs with hs | ⟨p, hp, hle⟩
  · exact .inl hs
  · right
    rw [look_put h]
    by_cases e : r.pid = (ofR q).pid
    · rw [if_pos e]
      refine ⟨_, rfl, ?_⟩
      have e' : r.pid = q.pid := e
      have := hq p (by rw [← e']; exact hp)
      show r.seq ≤ q.seq
      omega
    · rw [if_neg e]
      exact ⟨p, hp, hle⟩
theorem fold_seen {l : List Pr} (h : NewOk l) : ∀ {rs : List Rc}, (foldGo l rs).1 = 0 → (∀ r, Seen l r → Seen (foldGo l rs).2 r) ∧ ∀ r ∈ rs, chkR r = 0 ∧ Seen (foldGo l rs).2 r := by
  intro rs
  induction rs generalizing l with
  | nil => exact fun _ => ⟨fun r hr => hr, fun r hr => by cases hr⟩
  | cons r rs ih =>
    rw [fold_cons]
    intro h0
    rcases step_cases l r with he | ⟨he, hc, hsn⟩ | ⟨he, hc, hp, hl, hlt⟩
    · rw [if_pos he] at h0; exact absurd h0 he
    · rw [he, if_neg (not_not_intro rfl)] at h0 ⊢
      obtain ⟨i1, i2⟩ := ih h h0
      refine ⟨i1, fun q hq => ?_⟩
      rcases List.mem_cons.1 hq with rfl | hq
      · exact ⟨hc, i1 _ hsn⟩
      · exact i2 q hq
    · rw [he, if_neg (not_not_intro rfl)] at h0 ⊢
      obtain ⟨i1, i2⟩ := ih (newOk_put h (ok_ofR hc hp) hl) h0
      refine ⟨fun q hq => i1 q (seen_put h.rising hq hlt), fun q hq => ?_⟩
      rcases List.mem_cons.1 hq with rfl | hq
      · refine ⟨hc, i1 _ (.inr ⟨ofR q, ?_, Int.le_refl _⟩)⟩
        rw [look_put h.rising]
        exact if_pos rfl
      · exact i2 q hq
theorem fold_idle {l : List Pr} : ∀ {rs : List Rc}, (∀ r ∈ rs, chkR r = 0 ∧ Seen l r) → foldGo l rs = (0, l) := by
  intro rs
  induction rs with
  | nil => exact fun _ => rfl
  | cons r rs ih =>
    intro h
    obtain ⟨hc, hs⟩ := h r (List.mem_cons_self ..)
    have hi := ih fun q hq => h q (List.mem_cons_of_mem _ hq)
    rcases hs with h0 | ⟨p, hp, hle⟩
    · rw [foldGo_skip hc h0, hi]
    · by_cases h0 : r.pid = 0
      · rw [foldGo_skip hc h0, hi]
      · rw [foldGo_old hc h0 hp (by omega), hi]

section
variable {ps : List Pr} {a b : List Rc}
theorem foldR_ok (h : NewOk ps) (rs : List Rc) : foldR ps rs = foldGo ps rs := if_pos h
theorem foldR_no (h : ¬ NewOk ps) (rs : List Rc) : foldR ps rs = (92, []) := if_neg h
theorem foldR_err {rs : List Rc} (h : (foldR ps rs).1 ≠ 0) : (foldR ps rs).2 = [] := by
  by_cases hn : NewOk ps
  · rw [foldR_ok hn] at h ⊢; exact fold_err h
  · rw [foldR_no hn]
theorem foldR_new {rs : List Rc} (h : (foldR ps rs).1 = 0) : NewOk (foldR ps rs).2 := by
  by_cases hn : NewOk ps
  · rw [foldR_ok hn] at h ⊢; exact fold_ok hn h
  · rw [foldR_no hn] at h; exact absurd h (by decide)
theorem foldR_len {rs : List Rc} : (foldR ps rs).2.length ≤ 64 := by
  by_cases h : (foldR ps rs).1 = 0
  · exact (foldR_new h).1
  · rw [foldR_err h]; exact Nat.zero_le _
/-- All failed: so did the first part, or the second behind it. -/
theorem parts_err (h : (foldR ps (a ++ b)).1 ≠ 0) : (foldR ps a).1 = (foldR ps (a ++ b)).1 ∨ ((foldR ps a).1 = 0 ∧ (foldR (foldR ps a).2 b).1 = (foldR ps (a ++ b)).1 ∧ (foldR (foldR ps a).2 b).2 = []) := by
  by_cases hn : NewOk ps
  · rw [foldR_ok hn, foldR_ok hn, fold_append] at *
    by_cases h1 : (foldGo ps a).1 = 0
    · rw [if_neg (not_not_intro h1)] at *
      rw [foldR_ok (fold_ok hn h1)]
      exact .inr ⟨h1, rfl, fold_err h⟩
    · rw [if_pos h1]
      exact .inl rfl
  · rw [foldR_no hn, foldR_no hn]
    exact .inl rfl
theorem parts_ok (h : (foldR ps (a ++ b)).1 = 0) : (foldR ps a).1 = 0 ∧ foldR (foldR ps a).2 b = foldR ps (a ++ b) := by
  by_cases hn : NewOk ps
  · rw [foldR_ok hn, foldR_ok hn, fold_append] at *
    by_cases h1 : (foldGo ps a).1 = 0
    · rw [if_neg (not_not_intro h1)] at *
      rw [foldR_ok (fold_ok hn h1)]
      exact ⟨h1, rfl⟩
    · rw [if_pos h1] at h
      exact absurd h h1
  · rw [foldR_no hn] at h
    exact absurd h (by decide)
theorem parts_more {rs part : List Rc} (h : (foldR ps rs).1 = 0) (hp : ∀ r ∈ part, r ∈ rs) : foldR (foldR ps rs).2 part = (0, (foldR ps rs).2) := by
  have h2 := foldR_new h
  rw [foldR_ok h2]
  by_cases hn : NewOk ps
  · rw [foldR_ok hn] at h ⊢
    exact fold_idle fun r hr => (fold_seen hn h).2 r (hp r hr)
  · rw [foldR_no hn] at h
    exact absurd h (by decide)
end
end Go.Proofs.Ytmcahimapoddfaa
