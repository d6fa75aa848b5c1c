/- Plain: producers, records, the table as a list by rising numbers, what Check and Fold say. Conditions: none. -/
namespace Go.Proofs.Ytmcahimapoddfaa
structure Pr where
  pid : Int
  seq : Int
  off : Int
deriving DecidableEq
structure Rc where
  kind : Int
  off : Int
  tim : Int
  pid : Int
  seq : Int
  key : ByteArray
  val : ByteArray

def okPr (p : Pr) : Prop := 1 ≤ p.pid ∧ p.pid < 4294967296 ∧ 1 ≤ p.seq ∧ p.seq < 1099511627776 ∧ 0 ≤ p.off ∧ p.off < 1099511627776
/-- The number ahead of place i; ahead of the first: 0. -/
def lastPid (ps : List Pr) : Nat → Int
  | 0 => 0
  | i + 1 => (ps.getD i ⟨0, 0, 0⟩).pid
def NewOk (ps : List Pr) : Prop := ps.length ≤ 64 ∧ ∀ i p, ps[i]? = some p → okPr p ∧ lastPid ps i < p.pid

def inB (v lo hi : Int) : Bool := decide (lo ≤ v ∧ v < hi)
/-- What Check says of a record. -/
def chkR (r : Rc) : Int :=
  if ¬ r.kind = 1 ∧ ¬ r.kind = 2 then 44
  else if inB r.off 0 1099511627776 = false ∨ inB r.tim 0 1125899906842624 = false ∨ inB r.pid 0 4294967296 = false then 45
  else if (r.pid = 0 ∧ ¬ r.seq = 0) ∨ (0 < r.pid ∧ inB r.seq 1 1099511627776 = false) then 45
  else if r.key.size < 1 ∨ 64 < r.key.size then 42
  else if 1024 < r.val.size ∨ (r.kind = 2 ∧ ¬ r.val.size = 0) then 43
  else 0

def ins (p : Pr) : List Pr → List Pr
  | [] => [p]
  | y :: r => if p.pid < y.pid then p :: y :: r else y :: ins p r
def put (l : List Pr) (p : Pr) : List Pr := ins p (l.filter fun y => !(y.pid == p.pid))
def look (l : List Pr) (k : Int) : Option Pr := l.find? fun y => y.pid == k

def ofR (r : Rc) : Pr := ⟨r.pid, r.seq, r.off⟩
/-- One record into the table: the error, the table. -/
def step1 (l : List Pr) (r : Rc) : Int × List Pr :=
  if chkR r ≠ 0 then (chkR r, [])
  else if r.pid = 0 then (0, l)
  else match look l r.pid with
    | none => if 64 ≤ l.length then (92, []) else (0, put l (ofR r))
    | some p => if p.seq < r.seq then (0, put l (ofR r)) else (0, l)
def foldGo : List Pr → List Rc → Int × List Pr
  | l, [] => (0, l)
  | l, r :: rs => if (step1 l r).1 ≠ 0 then ((step1 l r).1, []) else foldGo (step1 l r).2 rs
open Classical in
noncomputable def foldR (ps : List Pr) (rs : List Rc) : Int × List Pr := if NewOk ps then foldGo ps rs else (92, [])

/-! ### rising lists -/
def Rising (l : List Pr) : Prop := l.Pairwise fun a b => a.pid < b.pid

theorem mem_ins {p q : Pr} : ∀ {l : List Pr}, q ∈ ins p l ↔ q = p ∨ q ∈ l
  | [] => by simp [ins]
  | y :: r => by
    unfold ins
    split
    · simp
    · simp only [List.mem_cons, mem_ins (l := r)]
      constructor
      · rintro (h | h | h)
        · exact .inr (.inl h)
        · exact .inl h
        · exact .inr (.inr h)
      · rintro (h | h | h)
        · exact .inr (.inl h)
        · exact .inl h
        · exact .inr (.inr h)
theorem rising_ins {p : Pr} : ∀ {l : List Pr}, Rising l → (∀ y ∈ l, y.pid ≠ p.pid) → Rising (ins p l)
  | [], _, _ => by simp [ins, Rising]
  | y :: r, h, hn => by
    have h' : Rising r := (List.pairwise_cons.1 h).2
    have hy := (List.pairwise_cons.1 h).1
    unfold ins
    split
    · rename_i hlt
      refine List.pairwise_cons.2 ⟨fun z hz => ?_, h⟩
      rcases List.mem_cons.1 hz with rfl | hz
      · exact hlt
      · have := hy z hz; omega
    · rename_i hge
      refine List.pairwise_cons.2 ⟨fun z hz => ?_, rising_ins h' fun z hz => hn z (List.mem_cons_of_mem _ hz)⟩
      rcases mem_ins.1 hz with rfl | hz
      · have := hn y (List.mem_cons_self ..); omega
      · exact hy z hz
theorem mem_put {l : List Pr} {p q : Pr} : q ∈ put l p ↔ q = p ∨ (q ∈ l ∧ q.pid ≠ p.pid) := by
  unfold put
  rw [mem_ins, List.mem_filter]
  simp
theorem rising_put {l : List Pr} (h : Rising l) (p : Pr) : Rising (put l p) := by
  refine rising_ins (h.filter _) fun y hy => ?_
  have := (List.mem_filter.1 hy).2
  simpa using this
theorem length_ins (p : Pr) : ∀ l : List Pr, (ins p l).length = l.length + 1
  | [] => rfl
  | y :: r => by
    unfold ins
    split
    · rfl
    · simp [length_ins p r]
theorem look_mem {l : List Pr} {k : Int} {p : Pr} (h : look l k = some p) : p ∈ l ∧ p.pid = k := by
  refine ⟨List.mem_of_find?_eq_some h, ?_⟩
  have := List.find?_some h
  simpa using this
theorem look_none {l : List Pr} {k : Int} (h : look l k = none) : ∀ p ∈ l, p.pid ≠ k := by
  intro p hp e
  have := List.find?_eq_none.1 h p hp
  simp [e] at this
theorem rising_inj : ∀ {l : List Pr}, Rising l → ∀ {p q : Pr}, p ∈ l → q ∈ l → p.pid = q.pid → p = q
  | [], _, _, _, hp, _, _ => by cases hp
  | y :: r, h, p, q, hp, hq, e => by
    have h' : Rising r := (List.pairwise_cons.1 h).2
    have hy := (List.pairwise_cons.1 h).1
    rcases List.mem_cons.1 hp with hp1 | hp1 <;> rcases List.mem_cons.1 hq with hq1 | hq1
    · rw [hp1, hq1]
    · have := hy q hq1; rw [hp1] at e; omega
    · have := hy p hp1; rw [hq1] at e; omega
    · exact rising_inj h' hp1 hq1 e
theorem look_of_mem {l : List Pr} (h : Rising l) {p : Pr} (hp : p ∈ l) : look l p.pid = some p := by
  rcases hf : look l p.pid with _ | q
  · exact absurd rfl (look_none hf p hp)
  · obtain ⟨hq, e⟩ := look_mem hf
    rw [rising_inj h hq hp e]
theorem length_put {l : List Pr} (h : Rising l) (p : Pr) : (put l p).length = if look l p.pid = none then l.length + 1 else l.length := by
  unfold put
  rw [length_ins]
  split
  · rename_i hn
    rw [List.filter_eq_self.2]
    intro y hy
    have := look_none hn y hy
    simpa using this
  · rename_i hs
    rcases hq : look l p.pid with _ | q
    · exact absurd hq hs
    · obtain ⟨hm, e⟩ := look_mem hq
      clear hs hq
      induction l with
      | nil => cases hm
      | cons y r ih =>
        have h' : Rising r := (List.pairwise_cons.1 h).2
        have hy := (List.pairwise_cons.1 h).1
        rcases List.mem_cons.1 hm with hm1 | hm1
        · subst hm1
          have hr : r.filter (fun y => !(y.pid == p.pid)) = r := List.filter_eq_self.2 fun z hz => by
            have := hy z hz
            simp
            omega
          rw [List.filter_cons_of_neg (by simp [e]), hr]
          rfl
        · have hne : y.pid ≠ p.pid := by have := hy q hm1; omega
          rw [List.filter_cons_of_pos (by simpa using hne)]
          have := ih h' hm1
          simp only [List.length_cons] at this ⊢
          omega

theorem lastPid_lt {ps : List Pr} (h : ∀ i p, ps[i]? = some p → lastPid ps i < p.pid) : Rising ps := by
  refine List.pairwise_iff_getElem.2 fun i j hi hj hij => ?_
  induction j with
  | zero => omega
  | succ j ih =>
    have hl := h (j + 1) _ (List.getElem?_eq_getElem hj)
    simp only [lastPid, List.getD_eq_getElem?_getD, List.getElem?_eq_getElem (show j < ps.length by omega), Option.getD_some] at hl
    rcases Nat.lt_or_ge i j with hlt | hge
    · have := ih (by omega) hlt
      omega
    · obtain rfl : i = j := by omega
      exact hl
theorem NewOk.rising {ps : List Pr} (h : NewOk ps) : Rising ps := lastPid_lt fun i p hp => (h.2 i p hp).2
theorem newOk_iff {ps : List Pr} : NewOk ps ↔ ps.length ≤ 64 ∧ Rising ps ∧ ∀ p ∈ ps, okPr p := by
  constructor
  · exact fun h => ⟨h.1, h.rising, fun p hp => by obtain ⟨i, hi, rfl⟩ := List.getElem_of_mem hp; exact (h.2 i _ (List.getElem?_eq_getElem hi)).1⟩
  · rintro ⟨h1, h2, h3⟩
    refine ⟨h1, fun i p hp => ?_⟩
    have hi := (List.getElem?_eq_some_iff.1 hp).1
    have hok := h3 p (List.mem_of_getElem? hp)
    refine ⟨hok, ?_⟩
    cases i with
    | zero => have := hok.1; simp only [lastPid]; omega
    | succ z =>
      simp only [lastPid, List.getD_eq_getElem?_getD, List.getElem?_eq_getElem (show z < ps.length by omega), Option.getD_some]
      have := List.pairwise_iff_getElem.1 h2 z (z + 1) (by omega) hi (by omega)
      rw [(List.getElem?_eq_some_iff.1 hp).2] at this
      exact this
/-- A list that rises, put together one by one, is itself. -/
theorem put_append {l : List Pr} {p : Pr} (h : ∀ q ∈ l, q.pid < p.pid) : put l p = l ++ [p] := by
  unfold put
  rw [List.filter_eq_self.2 (fun y hy => by have := h y hy; simp; omega)]
  induction l with
  | nil => rfl
  | cons y r ih =>
    have hy := h y (List.mem_cons_self ..)
    unfold ins
    rw [if_neg (by omega), ih fun q hq => h q (List.mem_cons_of_mem _ hq)]
    rfl
end Go.Proofs.Ytmcahimapoddfaa
