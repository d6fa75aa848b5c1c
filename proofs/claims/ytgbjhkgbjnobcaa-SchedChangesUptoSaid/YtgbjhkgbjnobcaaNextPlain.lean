/- The plain law of 'who is served next': one look at a queue, looks until somebody is served. No program in sight. -/
import Derived.Test.YtgbjhkgbjnobcaaTurnsPlain
namespace Go.Proofs.Ytgbjhkgbjnobcaa.Trn

/-- The turn goes on. -/
def on (t : Tu) : Tu := { t with at_ := (t.at_ + 1) % t.qs.length, fr := false }
/-- The queue whose turn it is. -/
def cur (t : Tu) : Qu := t.qs.getD t.at_.toNat default
/-- It, changed. -/
def setQ (t : Tu) (q : Qu) : Tu := { t with qs := t.qs.set t.at_.toNat q }
/-- What it may spend. -/
def money (t : Tu) : Int := if t.fr = true then (cur t).de else (cur t).de + (cur t).qu
/-- The turns behind its quantum. -/
def paid (t : Tu) : Tu := { setQ t { cur t with de := money t } with fr := true }
/-- The turns behind a serving of c, cs left. -/
def served (t : Tu) (c : Int) (cs : List Int) : Tu :=
  if cs = [] then on { setQ t { cur t with de := 0, cs := [] } with fr := true } else { setQ t { cur t with de := money t - c, cs := cs } with fr := true }
/-- One look. -/
def step (t : Tu) : Tu ⊕ (Tu × Int × Int) :=
  match (cur t).cs with
  | [] => .inl (on t)
  | c :: cs => if money t < c then .inl (on (paid t)) else .inr (served t c cs, (cur t).id, c)
/-- So many looks. -/
def go : Nat → Tu → Option (Tu × Int × Int)
  | 0, _ => none
  | f + 1, t => match step t with
    | .inl t' => go f t'
    | .inr r => some r
theorem go_pos {g : Nat} {t : Tu} {r : Tu × Int × Int} (h : go g t = some r) : 0 < g := by
  cases g with
  | zero => simp [go] at h
  | succ n => omega
theorem go_inl {g : Nat} {t t' : Tu} {r : Tu × Int × Int} (h : go g t = some r) (hs : step t = .inl t') : go (g - 1) t' = some r := by
  cases g with
  | zero => simp [go] at h
  | succ n => simpa [go, hs] using h
theorem go_inr {g : Nat} {t : Tu} {r x : Tu × Int × Int} (h : go g t = some r) (hs : step t = .inr x) : x = r := by
  cases g with
  | zero => simp [go] at h
  | succ n => simpa [go, hs] using h

/-- There is a queue, and a place. -/
theorem at_lt {t : Tu} (h : Valid t) (hn : 0 < t.qs.length) : 0 ≤ t.at_ ∧ t.at_ < t.qs.length := by
  obtain ⟨h0, h1, _⟩ := h.at_
  refine ⟨h0, ?_⟩
  rcases h1 with h1 | h1
  · exact h1
  · rw [h1]; omega
theorem cur_at {t : Tu} (h : Valid t) (hn : 0 < t.qs.length) : t.qs[t.at_.toNat]? = some (cur t) := by
  obtain ⟨h1, h2⟩ := at_lt h hn
  have h3 : t.at_.toNat < t.qs.length := by omega
  rw [cur, List.getD_eq_getElem?_getD, List.getElem?_eq_getElem h3]
  rfl
theorem cur_ok {t : Tu} (h : Valid t) (hn : 0 < t.qs.length) : okQ t t.at_.toNat (cur t) := h.qs _ _ (cur_at h hn)
theorem cur_cs {t : Tu} (h : Valid t) (hn : 0 < t.qs.length) : ∀ c ∈ (cur t).cs, 1 ≤ c ∧ c ≤ 1048576 := h.cs _ (List.mem_of_getElem? (cur_at h hn))
theorem money_in {t : Tu} (h : Valid t) (hn : 0 < t.qs.length) : 0 ≤ money t ∧ money t ≤ 1048575 + 65536 := by
  obtain ⟨_, u0, u1, d0, d1, _⟩ := cur_ok h hn
  have h1 := (at_lt h hn).1
  unfold most at d1
  unfold money
  split
  · split at d1 <;> omega
  · rename_i hf
    rw [if_neg (fun hh => hf hh.1)] at d1
    omega
theorem setQ_len (t : Tu) (q : Qu) : (setQ t q).qs.length = t.qs.length := by simp [setQ]
theorem ids_set {t : Tu} {q : Qu} (h : t.qs[t.at_.toNat]? = some (cur t)) (hq : q.id = (cur t).id) (i : Nat) (fr : Bool) : lastId { setQ t q with fr := fr } i = lastId t i := by
  cases i with
  | zero => rfl
  | succ i =>
    simp only [lastId, setQ, List.getD_eq_getElem?_getD]
    by_cases hi : t.at_.toNat = i
    · have hlt := (List.getElem?_eq_some_iff.1 h).1
      rw [← hi, List.getElem?_set_self hlt, h]
      exact hq
    · rw [List.getElem?_set_ne hi]
/-- The turns with the queue whose turn it is changed, and its mark. -/
theorem Valid.setQ {t : Tu} (h : Valid t) (hn : 0 < t.qs.length) {q : Qu} (hid : q.id = (cur t).id) (hqu : q.qu = (cur t).qu) (hd : 0 ≤ q.de ∧ q.de ≤ 1048575 + 65536) (he : q.cs.length = 0 → q.de ≤ 0)
    (hc : ∀ c ∈ q.cs, 1 ≤ c ∧ c ≤ 1048576) : Valid { setQ t q with fr := true } := by
  obtain ⟨a0, a1⟩ := at_lt h hn
  refine ⟨by show (Trn.setQ t q).qs.length ≤ 32; rw [setQ_len]; exact h.len, fun i x hx => ?_, ⟨a0, .inl (by show t.at_ < (Trn.setQ t q).qs.length; rw [setQ_len]; exact a1), fun _ => by show 0 < (Trn.setQ t q).qs.length; rw [setQ_len]; exact hn⟩, fun x hx => ?_⟩
  · have hx' : (t.qs.set t.at_.toNat q)[i]? = some x := hx
    unfold okQ
    rw [ids_set (cur_at h hn) hid]
    by_cases hi : t.at_.toNat = i
    · rw [← hi, List.getElem?_set_self (by omega)] at hx'
      injection hx' with hx'
      subst hx'
      obtain ⟨i0, u0, u1, _⟩ := cur_ok h hn
      refine ⟨by rw [← hi, hid]; exact i0, by omega, by omega, hd.1, ?_, he⟩
      unfold most
      rw [if_pos ⟨rfl, by show (i : Int) = t.at_; omega⟩]
      exact hd.2
    · rw [List.getElem?_set_ne hi] at hx'
      obtain ⟨i0, u0, u1, d0, d1, e⟩ := h.qs i x hx'
      refine ⟨i0, u0, u1, d0, ?_, e⟩
      unfold most at d1 ⊢
      rw [if_neg (fun hh => hi (by omega))] at d1
      split <;> omega
  · have hx' : x ∈ t.qs.set t.at_.toNat q := hx
    rcases List.mem_or_eq_of_mem_set hx' with hx' | rfl
    · exact h.cs x hx'
    · exact hc
/-- The turns gone on, where nobody has more than he may. -/
theorem Valid.on {t : Tu} (h : Valid t) (hn : 0 < t.qs.length) (hd : (cur t).de ≤ 1048575) : Valid (on t) := by
  obtain ⟨a0, a1⟩ := at_lt h hn
  have hc := cur_at h hn
  refine ⟨h.len, fun i x hx => ?_, ⟨Int.emod_nonneg _ (by omega), .inl (Int.emod_lt_of_pos _ (by omega)), fun hf => by cases hf⟩, h.cs⟩
  have hx' : t.qs[i]? = some x := hx
  obtain ⟨i0, u0, u1, d0, d1, e⟩ := h.qs i x hx'
  refine ⟨?_, u0, u1, d0, ?_, e⟩
  · cases i with
    | zero => exact i0
    | succ i => exact i0
  · unfold most at d1 ⊢
    rw [if_neg (fun hh => by cases hh.1)]
    by_cases hi : (i : Int) = t.at_
    · have : i = t.at_.toNat := by omega
      rw [this, hc] at hx'
      injection hx' with hx'
      subst hx'
      omega
    · rw [if_neg (fun hh => hi hh.2)] at d1
      exact d1
theorem cur_set {t : Tu} (q : Qu) (fr : Bool) (h : t.at_.toNat < t.qs.length) : cur { setQ t q with fr := fr } = q := by
  simp [cur, setQ, List.getD_eq_getElem?_getD, List.getElem?_set_self h]
/-- Looks that serve nobody leave what may be. -/
theorem Valid.step_inl {t t' : Tu} (h : Valid t) (hn : 0 < t.qs.length) (hs : step t = .inl t') : Valid t' ∧ t'.qs.length = t.qs.length := by
  have hok := cur_ok h hn
  have hm := money_in h hn
  obtain ⟨a0, a1⟩ := at_lt h hn
  unfold step at hs
  split at hs
  · rename_i hcs
    injection hs with hs
    subst hs
    exact ⟨h.on hn (by have := hok.2.2.2.2.2 (by rw [hcs]; rfl); omega), rfl⟩
  · rename_i c cs hcs
    split at hs
    · rename_i hlt
      injection hs with hs
      subst hs
      have hc := cur_cs h hn c (by rw [hcs]; exact List.mem_cons_self)
      have hp : Valid (paid t) := h.setQ hn rfl rfl hm (fun h0 => by simp [hcs] at h0) (cur_cs h hn)
      have hl : (paid t).qs.length = t.qs.length := setQ_len _ _
      refine ⟨hp.on (by omega) ?_, hl⟩
      rw [paid, cur_set _ _ (by omega)]
      show money t ≤ 1048575
      omega
    · cases hs
theorem served_len (t : Tu) (c : Int) (cs : List Int) : (served t c cs).qs.length = t.qs.length := by
  unfold served
  split
  · exact setQ_len _ _
  · exact setQ_len _ _
theorem Valid.step_inr {t t' : Tu} {i c : Int} (h : Valid t) (hn : 0 < t.qs.length) (hs : step t = .inr (t', i, c)) : Valid t' ∧ t'.qs.length = t.qs.length := by
  have hm := money_in h hn
  obtain ⟨a0, a1⟩ := at_lt h hn
  unfold step at hs
  split at hs
  · cases hs
  · rename_i c' cs hcs
    split at hs
    · cases hs
    · rename_i hge
      injection hs with hs
      injection hs with h1 h2
      injection h2 with h2 h3
      subst h1 h3
      have hcc := cur_cs h hn
      have hc := hcc c' (by rw [hcs]; exact List.mem_cons_self)
      refine ⟨?_, served_len _ _ _⟩
      unfold served
      split
      · have hv : Valid { Trn.setQ t { cur t with de := 0, cs := [] } with fr := true } := h.setQ hn rfl rfl ⟨Int.le_refl _, by show (0 : Int) ≤ 1048575 + 65536; omega⟩ (fun _ => by show (0 : Int) ≤ 0; omega) (fun c hc => by cases hc)
        refine hv.on (by show 0 < (Trn.setQ t _).qs.length; rw [setQ_len]; exact hn) ?_
        rw [cur_set _ _ (by omega)]
        show (0 : Int) ≤ 1048575
        omega
      · rename_i hne
        exact h.setQ hn rfl rfl (by show 0 ≤ money t - c' ∧ money t - c' ≤ 1048575 + 65536; omega) (fun h0 => absurd (List.eq_nil_of_length_eq_zero h0) hne) (fun c hc => hcc c (by rw [hcs]; exact List.mem_cons_of_mem _ hc))
/-- Somebody waits. -/
def waits (qs : List Qu) : Prop := ∃ (i : Nat) (q : Qu), qs[i]? = some q ∧ 0 < q.cs.length
/-- How far the queue w's serving is. -/
def far (w : Nat) (t : Tu) : Nat :=
  ((t.qs.getD w default).cs.headD 0 - (t.qs.getD w default).de).toNat * t.qs.length + (if t.at_ ≤ w then w - t.at_.toNat else w + t.qs.length - t.at_.toNat) + (if t.fr = true then t.qs.length else 0)
theorem mod_on {a n : Int} (h0 : 0 ≤ a) (h1 : a < n) : (a + 1 < n ∧ (a + 1) % n = a + 1) ∨ (a + 1 = n ∧ (a + 1) % n = 0) := by
  by_cases h : a + 1 < n
  · exact .inl ⟨h, Int.emod_eq_of_lt (by omega) h⟩
  · have e : a + 1 = n := by omega
    exact .inr ⟨e, by rw [e]; exact Int.emod_self⟩
/-- A look that serves nobody brings the serving nearer. -/
theorem nearer {t t' : Tu} {w : Nat} {q : Qu} (h : Valid t) (hw : t.qs[w]? = some q) (hq : 0 < q.cs.length) (hs : step t = .inl t') : far w t' < far w t ∧ ∃ q', t'.qs[w]? = some q' ∧ 0 < q'.cs.length := by
  have hwl := (List.getElem?_eq_some_iff.1 hw).1
  have hn : 0 < t.qs.length := by omega
  obtain ⟨a0, a1⟩ := at_lt h hn
  have hca := cur_at h hn
  have hok := cur_ok h hn
  have hgd : t.qs.getD w default = q := by rw [List.getD_eq_getElem?_getD, hw]; rfl
  have hmod := mod_on a0 a1
  unfold step at hs
  split at hs
  · rename_i hcs
    injection hs with hs
    subst hs
    have hne : t.at_ ≠ w := fun e => by
      rw [show t.at_.toNat = w by omega, hw] at hca
      injection hca with hca
      rw [← hca] at hcs
      rw [hcs] at hq
      simp at hq
    refine ⟨?_, q, hw, hq⟩
    unfold far on
    simp only [hgd]
    generalize (q.cs.headD 0 - q.de).toNat * t.qs.length = M
    rcases hmod with ⟨m1, m2⟩ | ⟨m1, m2⟩ <;> rw [m2] <;> simp only [Bool.false_eq_true, if_false] <;> split <;> split <;> split <;> omega
  · rename_i c cs hcs
    split at hs
    · rename_i hlt
      injection hs with hs
      subst hs
      have hpl : (paid t).qs.length = t.qs.length := setQ_len _ _
      by_cases hwe : t.at_.toNat = w
      · subst hwe
        rw [hw] at hca
        injection hca with hca
        subst hca
        have hp : (paid t).qs[t.at_.toNat]? = some { cur t with de := money t } := by
          show (t.qs.set _ _)[_]? = _
          rw [List.getElem?_set_self hwl]
        refine ⟨?_, _, hp, hq⟩
        have hgp : (paid t).qs.getD t.at_.toNat default = { cur t with de := money t } := by rw [List.getD_eq_getElem?_getD, hp]; rfl
        unfold far
        show ((((paid t).qs.getD _ default).cs.headD 0 - ((paid t).qs.getD _ default).de).toNat * (paid t).qs.length + (if (t.at_ + 1) % (paid t).qs.length ≤ _ then _ - ((t.at_ + 1) % (paid t).qs.length).toNat else _ + (paid t).qs.length - ((t.at_ + 1) % (paid t).qs.length).toNat) + 0) < _
        rw [hgp, hgd, hpl, hcs]
        simp only [List.headD_cons]
        by_cases hf : t.fr = true
        · have hmn : money t = (cur t).de := by simp [money, hf]
          rw [hmn, if_pos hf]
          generalize (c - (cur t).de).toNat * t.qs.length = M
          rcases hmod with ⟨m1, m2⟩ | ⟨m1, m2⟩ <;> rw [m2] <;> split <;> split <;> omega
        · have hmn : money t = (cur t).de + (cur t).qu := by simp [money, hf]
          have hu := hok.2.1
          rw [if_neg hf]
          have hle : (c - money t).toNat + 1 ≤ (c - (cur t).de).toNat := by omega
          have hmul := Nat.mul_le_mul_right t.qs.length hle
          rw [Nat.add_mul, Nat.one_mul] at hmul
          generalize (c - (cur t).de).toNat * t.qs.length = M at *
          generalize (c - money t).toNat * t.qs.length = M' at *
          rcases hmod with ⟨m1, m2⟩ | ⟨m1, m2⟩ <;> rw [m2] <;> split <;> split <;> omega
      · have hp : (paid t).qs[w]? = some q := by
          show (t.qs.set _ _)[w]? = _
          rw [List.getElem?_set_ne hwe, hw]
        refine ⟨?_, _, hp, hq⟩
        have hgp : (paid t).qs.getD w default = q := by rw [List.getD_eq_getElem?_getD, hp]; rfl
        unfold far
        show ((((paid t).qs.getD w default).cs.headD 0 - ((paid t).qs.getD w default).de).toNat * (paid t).qs.length + (if (t.at_ + 1) % (paid t).qs.length ≤ w then w - ((t.at_ + 1) % (paid t).qs.length).toNat else w + (paid t).qs.length - ((t.at_ + 1) % (paid t).qs.length).toNat) + 0) < _
        rw [hgp, hgd, hpl]
        generalize (q.cs.headD 0 - q.de).toNat * t.qs.length = M
        rcases hmod with ⟨m1, m2⟩ | ⟨m1, m2⟩ <;> rw [m2] <;> split <;> split <;> split <;> omega
    · cases hs
/-- Somebody is served. -/
theorem go_some : ∀ (f : Nat) {t : Tu} {w : Nat} {q : Qu}, Valid t → t.qs[w]? = some q → 0 < q.cs.length → far w t < f → ∃ r, go f t = some r := by
  intro f
  induction f with
  | zero => intro t w q _ _ _ h; omega
  | succ f ih =>
    intro t w q hv hw hq hf
    cases hs : step t with
    | inr r => exact ⟨r, by simp [go, hs]⟩
    | inl t' =>
      obtain ⟨h1, q', h2, h3⟩ := nearer hv hw hq hs
      have hn : 0 < t.qs.length := by have := (List.getElem?_eq_some_iff.1 hw).1; omega
      obtain ⟨r, hr⟩ := ih (hv.step_inl hn hs).1 h2 h3 (by omega)
      exact ⟨r, by simpa [go, hs] using hr⟩
/-- Who waits waits on. -/
theorem served_some {t : Tu} (hv : Valid t) (hw : waits t.qs) : ∃ f r, go f t = some r := by
  obtain ⟨i, q, hi, hq⟩ := hw
  obtain ⟨r, hr⟩ := go_some (far i t + 1) hv hi hq (by omega)
  exact ⟨_, r, hr⟩
theorem go_more : ∀ {f : Nat} {t : Tu} {r : Tu × Int × Int} (k : Nat), go f t = some r → go (f + k) t = some r := by
  intro f
  induction f with
  | zero => intro t r k h; simp [go] at h
  | succ f ih =>
    intro t r k h
    rw [show f + 1 + k = (f + k) + 1 by omega]
    cases hs : step t with
    | inr x => simpa [go, hs] using h
    | inl t' =>
      simp only [go, hs] at h ⊢
      exact ih k h
theorem set_same {α : Type} {l : List α} {a : Nat} {q : α} (h : l[a]? = some q) : l.set a q = l := by
  apply List.ext_getElem?
  intro i
  by_cases hi : a = i
  · subst hi
    rw [List.getElem?_set_self (List.getElem?_eq_some_iff.1 h).1, h]
  · rw [List.getElem?_set_ne hi]
/-- A fresh place has its quantum already. -/
theorem paid_fresh {t : Tu} (hf : t.fr = true) (h : t.qs[t.at_.toNat]? = some (cur t)) : paid t = t := by
  have hm : money t = (cur t).de := by simp [money, hf]
  unfold paid setQ
  rw [hm]
  show ({ qs := t.qs.set t.at_.toNat (cur t), at_ := t.at_, fr := true } : Tu) = t
  rw [set_same h, ← hf]
theorem paid_stale {t : Tu} (hf : t.fr = false) : paid t = { qs := t.qs.set t.at_.toNat { cur t with de := (cur t).de + (cur t).qu }, at_ := t.at_, fr := true } := by
  have hm : money t = (cur t).de + (cur t).qu := by simp [money, hf]
  unfold paid setQ
  rw [hm]
theorem cur_paid {t : Tu} (h : t.at_.toNat < t.qs.length) : (paid t).qs[t.at_.toNat]? = some { cur t with de := money t } := by
  show (t.qs.set _ _)[_]? = _
  rw [List.getElem?_set_self h]
end Go.Proofs.Ytgbjhkgbjnobcaa.Trn
