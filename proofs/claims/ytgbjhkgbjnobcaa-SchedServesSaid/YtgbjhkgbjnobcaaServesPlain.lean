/- The plain law of serving: a queue that waits is served within a bound in calls; costs in their order. No program in sight. -/
import Derived.Test.YtgbjhkgbjnobcaaFairLaw
namespace Go.Proofs.Ytgbjhkgbjnobcaa.Trn

/-- A sum. -/
def sumTo (f : Nat → Int) : Nat → Int
  | 0 => 0
  | n + 1 => sumTo f n + f n
theorem sumTo_le {f g : Nat → Int} : ∀ {n : Nat}, (∀ k, k < n → f k ≤ g k) → sumTo f n ≤ sumTo g n
  | 0, _ => Int.le_refl _
  | n + 1, h => by
    have h1 := sumTo_le (n := n) (fun k hk => h k (by omega))
    have h2 := h n (by omega)
    simp only [sumTo]
    omega
theorem sumTo_less {f g : Nat → Int} {c : Int} : ∀ {n j : Nat}, (∀ k, k < n → f k ≤ g k) → j < n → f j + c ≤ g j → sumTo f n + c ≤ sumTo g n
  | 0, _, _, hj, _ => by omega
  | n + 1, j, h, hj, hc => by
    simp only [sumTo]
    by_cases e : j = n
    · subst e
      have h1 := sumTo_le (n := j) (f := f) (g := g) (fun k hk => h k (by omega))
      omega
    · have h1 := sumTo_less (n := n) (j := j) (fun k hk => h k (by omega)) (by omega) hc
      have h2 := h n (by omega)
      omega
theorem sumTo_ge {f : Nat → Int} {c : Int} : ∀ {n j : Nat}, (∀ k, k < n → 0 ≤ f k) → j < n → c ≤ f j → c ≤ sumTo f n
  | 0, _, _, hj, _ => by omega
  | n + 1, j, h, hj, hc => by
    simp only [sumTo]
    have hn : ∀ m, m ≤ n → 0 ≤ sumTo f m := by
      intro m
      induction m with
      | zero => intro _; exact Int.le_refl _
      | succ m ih => intro hm; have := ih (by omega); have := h m (by omega); simp only [sumTo]; omega
    by_cases e : j = n
    · subst e
      have := hn j (Nat.le_refl _)
      omega
    · have h1 := sumTo_ge (n := n) (j := j) (fun k hk => h k (by omega)) (by omega) hc
      have h2 := h n (by omega)
      omega
theorem sumTo_congr {f g : Nat → Int} : ∀ {n : Nat}, (∀ k, k < n → f k = g k) → sumTo f n = sumTo g n
  | 0, _ => rfl
  | n + 1, h => by
    simp only [sumTo]
    rw [sumTo_congr (n := n) (fun k hk => h k (by omega)), h n (by omega)]
/-- What queue k may still be served of. -/
def may (R : Int) (t : Tu) (T : Nat → Int) (k : Nat) : Int := (t.qs.getD k default).de + (R - T k) * (t.qs.getD k default).qu
theorem getD_of {t : Tu} {k : Nat} {a : Qu} (h : t.qs[k]? = some a) : t.qs.getD k default = a := by rw [List.getD_eq_getElem?_getD, h]; rfl
/-- The account of all queues, while queue i is not served. -/
structure ServInv (R f b : Int) (i : Nat) (t : Tu) (n : Int) (T : Nat → Int) : Prop where
  sum : sumTo (may R t T) t.qs.length + n ≤ b
  here : ∃ a cs, t.qs[i]? = some a ∧ a.cs = f :: cs ∧ f / a.qu + 2 = R ∧ 0 ≤ T i ∧ T i * a.qu ≤ a.de ∧ (T i = 0 ∨ a.de < f)
  link : ∀ k, k < t.qs.length → k ≠ i → ∃ first, Link first t i k (T i) (T k)
theorem ServInv.start {R f : Int} {i : Nat} {t : Tu} {a : Qu} {cs : List Int} (hv : Valid t) (ha : t.qs[i]? = some a) (hc : a.cs = f :: cs) (hR : f / a.qu + 2 = R) : ServInv R f (sumTo (may R t (fun _ => 0)) t.qs.length) i t 0 (fun _ => 0) := by
  refine ⟨by omega, ⟨a, cs, ha, hc, hR, Int.le_refl _, ?_, .inl rfl⟩, fun k hk hki => Link.start t i k⟩
  have := (hv.qs i a ha).2.2.2.1
  omega
theorem step_bump {R : Int} {t t' : Tu} {T : Nat → Int} {k : Nat} {a a' : Qu} (ha : t.qs[k]? = some a) (ha' : t'.qs[k]? = some a') (hq : a'.qu = a.qu) (d : Int) (hd : a'.de + d ≤ a.de + bump t k * a.qu) : may R t' (fun j => T j + bump t j) k + d ≤ may R t T k := by
  unfold may
  rw [getD_of ha, getD_of ha', hq, show R - (T k + bump t k) = (R - T k) - bump t k by omega, Int.sub_mul]
  omega
theorem ServInv.inl {R f b n : Int} {i : Nat} {t t' : Tu} {T : Nat → Int} (h : ServInv R f b i t n T) (hv : Valid t) (hs : step t = .inl t') : ServInv R f b i t' n (fun k => T k + bump t k) := by
  obtain ⟨a, cs, ha, hcs, hR, hT0, hT1, hT2⟩ := h.here
  have hil := (List.getElem?_eq_some_iff.1 ha).1
  have hn : 0 < t.qs.length := by omega
  obtain ⟨at0, at1⟩ := at_lt hv hn
  obtain ⟨hl, hat, hfr, a', ha', e1, e2, e3, hcase⟩ := view_inl hv ha hs
  refine ⟨?_, ?_, fun k hk hki => ?_⟩
  · rw [hl]
    have h1 : sumTo (may R t' (fun k => T k + bump t k)) t.qs.length ≤ sumTo (may R t T) t.qs.length := sumTo_le fun k hk => by
      have hak : t.qs[k]? = some t.qs[k] := List.getElem?_eq_getElem hk
      obtain ⟨_, _, _, c', hc', f1, f2, f3, fc⟩ := view_inl hv hak hs
      have hqu := (hv.qs k _ hak).2.1
      have h2 := step_bump (R := R) (T := T) hak hc' f2 0 (by
        rcases bump_cases t k with ⟨b1, b2, b3⟩ | ⟨b1, b3⟩
        · rw [b3]
          rcases fc with ⟨g1, g2⟩ | ⟨g1, g2, g3⟩ | ⟨g1, g2, _⟩
          · exact absurd b1 g1
          · omega
          · rw [if_neg (by rw [b2]; decide)] at g2; omega
        · rw [b3]
          rcases fc with ⟨g1, g2⟩ | ⟨g1, g2, g3⟩ | ⟨g1, g2, _⟩
          · omega
          · omega
          · have hf : t.fr = true := by
              rcases Bool.eq_false_or_eq_true t.fr with h | h
              · exact h
              · exact absurd ⟨g1, h⟩ b1
            rw [if_pos hf] at g2; omega)
      omega
    have := h.sum
    omega
  · refine ⟨a', cs, ha', e3.trans hcs, by rw [e2]; exact hR, ?_, ?_, ?_⟩
    · rcases bump_cases t i with ⟨_, _, b3⟩ | ⟨_, b3⟩ <;> (rw [b3]; omega)
    · rw [e2, Int.add_mul]
      rcases bump_cases t i with ⟨b1, b2, b3⟩ | ⟨b1, b3⟩
      · rw [b3]
        rcases hcase with ⟨g1, g2⟩ | ⟨g1, g2, g3⟩ | ⟨g1, g2, _⟩
        · exact absurd b1 g1
        · rw [g2] at hcs; cases hcs
        · rw [if_neg (by rw [b2]; decide)] at g2; omega
      · rw [b3]
        rcases hcase with ⟨g1, g2⟩ | ⟨g1, g2, g3⟩ | ⟨g1, g2, _⟩
        · omega
        · omega
        · have hqu := (hv.qs i _ ha).2.1
          split at g2 <;> omega
    · rcases hcase with ⟨g1, g2⟩ | ⟨g1, g2, g3⟩ | ⟨g1, g2, c, cs', g3, g4⟩
      · have hb : bump t i = 0 := by unfold bump; rw [if_neg (fun hh => g1 hh.1)]
        rw [hb, g2, Int.add_zero]
        exact hT2
      · rw [g2] at hcs; cases hcs
      · rw [hcs] at g3
        injection g3 with g3
        exact .inr (by omega)
  · obtain ⟨first, hk1⟩ := h.link k (by omega) hki
    exact ⟨first, hk1.move (fun e => hki e.symm) hil (by omega) at0 at1 hl (.inl ⟨hat, hfr⟩)⟩
theorem ServInv.inr {R f b n id cost : Int} {i : Nat} {t t' : Tu} {T : Nat → Int} {a : Qu} (h : ServInv R f b i t n T) (hv : Valid t) (hs : step t = .inr (t', id, cost)) (ha : t.qs[i]? = some a) (hid : id ≠ a.id) : ServInv R f b i t' (n + 1) (fun k => T k + bump t k) := by
  obtain ⟨a2, cs, ha2, hcs, hR, hT0, hT1, hT2⟩ := h.here
  rw [ha] at ha2
  injection ha2 with ha2
  subst ha2
  have hil := (List.getElem?_eq_some_iff.1 ha).1
  have hn : 0 < t.qs.length := by omega
  obtain ⟨at0, at1⟩ := at_lt hv hn
  obtain ⟨hl, a', ha', e1, e2, hmv, hcase⟩ := view_inr hv ha hs
  have hati : t.at_ ≠ i ∧ a'.cs = a.cs ∧ a'.de = a.de := by
    rcases hcase with ⟨g1, g2, g3, g4⟩ | ⟨g1, g2, _⟩
    · exact ⟨g1, g3, g4⟩
    · exact absurd g2 hid
  have hb : bump t i = 0 := by unfold bump; rw [if_neg (fun hh => hati.1 hh.1)]
  refine ⟨?_, ⟨a', cs, ha', hati.2.1.trans hcs, by rw [e2]; exact hR, by rw [hb]; omega, by rw [hb, e2, hati.2.2, Int.add_zero]; exact hT1, by rw [hb, hati.2.2, Int.add_zero]; exact hT2⟩, fun k hk hki => ?_⟩
  · rw [hl]
    have hkl : t.at_.toNat < t.qs.length := by omega
    have hstep : ∀ k (hk : k < t.qs.length), may R t' (fun k => T k + bump t k) k + (if t.at_ = k then 1 else 0) ≤ may R t T k := fun k hk => by
      have hak : t.qs[k]? = some t.qs[k] := List.getElem?_eq_getElem hk
      obtain ⟨_, c', hc', f1, f2, fm, fc⟩ := view_inr hv hak hs
      have hqu := (hv.qs k _ hak).2.1
      refine step_bump hak hc' f2 _ ?_
      rcases fc with ⟨g1, g2, g3, g4⟩ | ⟨g1, g2, g3, g4, g5⟩
      · have hbk : bump t k = 0 := by unfold bump; rw [if_neg (fun hh => g1 hh.1)]
        rw [hbk, if_neg g1]
        omega
      · rw [if_pos g1]
        have hc1 := (hv.cs _ (List.mem_of_getElem? hak) cost (by rw [g3]; exact List.mem_cons_self)).1
        have hde : c'.de ≤ t.qs[k].de + (if t.fr = true then 0 else t.qs[k].qu) - cost := by
          rcases fm with ⟨_, _, m3⟩ | ⟨_, _, m3⟩
          · have := g5 (m3 g1); omega
          · have := (m3 g1).2; omega
        rcases bump_cases t k with ⟨_, b2, b3⟩ | ⟨b1, b3⟩
        · rw [if_neg (by rw [b2]; decide)] at hde
          rw [b3]
          omega
        · have hf : t.fr = true := by
            rcases Bool.eq_false_or_eq_true t.fr with h | h
            · exact h
            · exact absurd ⟨g1, h⟩ b1
          rw [if_pos hf] at hde
          rw [b3]
          omega
    have h1 := sumTo_less (f := may R t' (fun k => T k + bump t k)) (g := may R t T) (c := 1) (n := t.qs.length) (j := t.at_.toNat) (fun k hk => by have := hstep k hk; split at this <;> omega) hkl (by have := hstep _ hkl; rw [if_pos (by omega)] at this; exact this)
    have := h.sum
    omega
  · obtain ⟨first, hk1⟩ := h.link k (by omega) hki
    refine ⟨first, hk1.move (fun e => hki e.symm) hil (by omega) at0 at1 hl ?_⟩
    rcases hmv with ⟨m1, m2, _⟩ | ⟨m1, m2, _⟩
    · exact .inr ⟨m1, m2⟩
    · exact .inl ⟨m1, m2⟩
/-- A call that serves queue i costs what it waits for; one that does not keeps the account. -/
theorem ServInv.go {R f b : Int} {i : Nat} : ∀ (g : Nat) {t t' : Tu} {n id cost : Int} {T : Nat → Int} {a : Qu}, Valid t → ServInv R f b i t n T → t.qs[i]? = some a → Trn.go g t = some (t', id, cost) →
    (id = a.id ∧ cost = f) ∨ (id ≠ a.id ∧ ∃ T', ServInv R f b i t' (n + 1) T') := by
  intro g
  induction g with
  | zero => intro t t' n id cost T a hv h ha hg; simp [Trn.go] at hg
  | succ g ih =>
    intro t t' n id cost T a hv h ha hg
    have hil := (List.getElem?_eq_some_iff.1 ha).1
    cases hs : Trn.step t with
    | inl t1 =>
      obtain ⟨hv1, hl1⟩ := hv.step_inl (by omega) hs
      obtain ⟨_, _, _, a1, ha1, ea, _⟩ := view_inl hv ha hs
      have := ih hv1 (h.inl hv hs) ha1 (by simpa [Trn.go, hs] using hg)
      rw [ea] at this
      exact this
    | inr r =>
      have hg1 : r = (t', id, cost) := by
        have : some r = some (t', id, cost) := by simpa [Trn.go, hs] using hg
        injection this
      subst hg1
      by_cases hid : id = a.id
      · refine .inl ⟨hid, ?_⟩
        obtain ⟨a2, cs, ha2, hcs, _⟩ := h.here
        rw [ha] at ha2
        injection ha2 with ha2
        subst ha2
        obtain ⟨_, a', _, _, _, _, hc⟩ := view_inr hv ha hs
        rcases hc with ⟨_, g2, _⟩ | ⟨_, _, g3, _⟩
        · exact absurd hid g2
        · rw [hcs] at g3
          injection g3 with g3
          exact g3.symm
      · exact .inr ⟨hid, _, h.inr hv hs ha hid⟩
/-- So it is served within the bound. -/
theorem ServInv.lt {R f b n : Int} {i : Nat} {t : Tu} {T : Nat → Int} (h : ServInv R f b i t n T) (hv : Valid t) : n < b := by
  obtain ⟨a, cs, ha, hcs, hR, hT0, hT1, hT2⟩ := h.here
  have hil := (List.getElem?_eq_some_iff.1 ha).1
  obtain ⟨_, q0, q1, d0, _⟩ := hv.qs i a ha
  have hf := hv.cs a (List.mem_of_getElem? ha) f (by rw [hcs]; exact List.mem_cons_self)
  have hTi : T i ≤ f / a.qu := by
    rcases hT2 with e | e
    · rw [e]; exact Int.ediv_nonneg (by omega) (by omega)
    · exact (Int.le_ediv_iff_mul_le (by omega)).2 (by omega)
  have hnn : ∀ k, k < t.qs.length → 0 ≤ may R t T k := fun k hk => by
    have hak : t.qs[k]? = some t.qs[k] := List.getElem?_eq_getElem hk
    obtain ⟨_, u0, u1, e0, _⟩ := hv.qs k _ hak
    have hTk : T k ≤ R := by
      by_cases e : k = i
      · rw [e]; omega
      · obtain ⟨first, hl⟩ := h.link k hk e
        have := hl.near
        omega
    unfold may
    rw [getD_of hak]
    have := Int.mul_nonneg (show 0 ≤ R - T k by omega) (show 0 ≤ t.qs[k].qu by omega)
    omega
  have hi1 : 1 ≤ may R t T i := by
    unfold may
    rw [getD_of ha]
    have := Int.mul_le_mul (show 1 ≤ R - T i by omega) q0 (by omega) (by omega)
    omega
  have := sumTo_ge hnn hil hi1
  have := h.sum
  omega
/-- What one call changes. -/
def Served1 (t t' : Tu) (id cost : Int) : Prop :=
  t'.qs.length = t.qs.length ∧ ∀ (k : Nat) (a : Qu), t.qs[k]? = some a → ∃ a', t'.qs[k]? = some a' ∧ a'.id = a.id ∧ a'.qu = a.qu ∧ ((a.id ≠ id ∧ a'.cs = a.cs) ∨ (a.id = id ∧ a.cs = cost :: a'.cs))
theorem served1_go : ∀ (g : Nat) {t t' : Tu} {id cost : Int}, Valid t → 0 < t.qs.length → Trn.go g t = some (t', id, cost) → Served1 t t' id cost := by
  intro g
  induction g with
  | zero => intro t t' id cost hv hn hg; simp [Trn.go] at hg
  | succ g ih =>
    intro t t' id cost hv hn hg
    cases hs : Trn.step t with
    | inl t1 =>
      obtain ⟨hv1, hl1⟩ := hv.step_inl hn hs
      obtain ⟨h1, h2⟩ := ih hv1 (by omega) (show Trn.go g t1 = some (t', id, cost) by simpa [Trn.go, hs] using hg)
      refine ⟨by omega, fun k a ha => ?_⟩
      obtain ⟨_, _, _, a1, ha1, e1, e2, e3, _⟩ := view_inl hv ha hs
      obtain ⟨a2, ha2, f1, f2, f3⟩ := h2 k a1 ha1
      rw [e1, e3] at f3
      exact ⟨a2, ha2, f1.trans e1, f2.trans e2, f3⟩
    | inr r =>
      have hg1 : r = (t', id, cost) := by
        have : some r = some (t', id, cost) := by simpa [Trn.go, hs] using hg
        injection this
      subst hg1
      obtain ⟨hv1, hl1⟩ := hv.step_inr hn hs
      refine ⟨hl1, fun k a ha => ?_⟩
      obtain ⟨_, a1, ha1, e1, e2, _, hc⟩ := view_inr hv ha hs
      refine ⟨a1, ha1, e1, e2, ?_⟩
      rcases hc with ⟨_, g2, g3, _⟩ | ⟨_, g2, g3, _⟩
      · exact .inl ⟨fun e => g2 e.symm, g3⟩
      · exact .inr ⟨g2.symm, g3⟩
end Go.Proofs.Ytgbjhkgbjnobcaa.Trn
