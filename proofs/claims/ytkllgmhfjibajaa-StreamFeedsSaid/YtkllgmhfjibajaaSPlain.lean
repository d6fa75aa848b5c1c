/- What a stream's reader does, byte by byte, in plain Lean. Conditions: none. -/
import Derived.Test.YtkllgmhfjibajaaBody
namespace Go.Proofs.Ytkllgmhfjibajaa
namespace St

/-- A reader: what it is at, the limit, the bytes that are gathered, the length, where the piece begins. -/
structure R where
  st : Int
  lim : Int
  buf : List Int
  len : Int
  fr : Int
/-- A piece. -/
structure Pc where
  kind : Int
  body : List Int
  at_ : Int
  err : Int
def whole (r : R) : R × List Pc :=
  if (r.buf.length : Int) < r.len then (r, []) else
    (⟨1, r.lim, [], r.len, IntKind.wrap .i64 (r.fr + r.len)⟩,
      [if (bodyP r.buf).2 = 0 then ⟨0, (bodyP r.buf).1, r.fr, 0⟩ else ⟨1, [], r.fr, 160⟩])
def measure (r : R) (c : Int) : R × List Pc :=
  if (headP (r.buf ++ [c])).2 = 10 then (⟨r.st, r.lim, r.buf ++ [c], r.len, r.fr⟩, [])
  else if (headP (r.buf ++ [c])).2 = 160 then (⟨0, r.lim, [], r.len, r.fr⟩, [⟨2, [], r.fr, 160⟩])
  else if (headP (r.buf ++ [c])).1 > r.lim then (⟨3, r.lim, [], (headP (r.buf ++ [c])).1 - (r.buf.length + 1), IntKind.wrap .i64 (r.fr + (headP (r.buf ++ [c])).1)⟩, [⟨1, [], r.fr, 163⟩])
  else whole ⟨2, r.lim, r.buf ++ [c], (headP (r.buf ++ [c])).1, r.fr⟩
def gathers (r : R) (cs : List Int) : R × List Pc := whole ⟨r.st, r.lim, r.buf ++ cs, r.len, r.fr⟩
def passes (r : R) (n : Int) : R × List Pc := (⟨if r.len - n = 0 then 1 else r.st, r.lim, r.buf, r.len - n, r.fr⟩, [])
def step (r : R) (c : Int) : R × List Pc :=
  if r.st = 1 then measure r c else if r.st = 2 then gathers r [c] else if r.st = 3 then passes r 1 else (r, [])
def feed : R → List Int → R × List Pc
  | r, [] => (r, [])
  | r, c :: cs => ((feed (step r c).1 cs).1, (step r c).2 ++ (feed (step r c).1 cs).2)
theorem feed_append : ∀ (xs ys : List Int) (r : R), feed r (xs ++ ys) = ((feed (feed r xs).1 ys).1, (feed r xs).2 ++ (feed (feed r xs).1 ys).2)
  | [], ys, r => by simp [feed]
  | c :: xs, ys, r => by
    rw [List.cons_append, feed, feed_append xs ys (step r c).1]
    simp [feed]
theorem feed_dead (r : R) (h : r.st = 0) : ∀ xs, feed r xs = (r, [])
  | [] => rfl
  | c :: xs => by
    have e : step r c = (r, []) := by simp [step, h]
    simp [feed, e, feed_dead r h xs]
/-- What holds of a reader all the time. -/
structure Ok (r : R) : Prop where
  lim : 64 ≤ r.lim ∧ r.lim ≤ 4096
  byt : Byt r.buf
  st : r.st = 0 ∨ (r.st = 1 ∧ r.buf.length ≤ 4) ∨ (r.st = 2 ∧ (r.buf.length : Int) < r.len ∧ r.len ≤ r.lim) ∨ (r.st = 3 ∧ 0 < r.len ∧ r.len < 8589934592 ∧ r.buf = [])
  dead : r.st = 0 → r.buf = []
theorem byt_app {xs ys : List Int} (h : Byt xs) (k : Byt ys) : Byt (xs ++ ys) := fun x hx => by
  rcases List.mem_append.1 hx with h1 | h1
  · exact h x h1
  · exact k x h1
theorem byt_nil : Byt [] := fun _ h => by cases h
/-- Enough bytes for a length: five. -/
theorem head_five {xs : List Int} (h : (headP xs).2 ≠ 10) (h2 : (headP xs).2 ≠ 160) : 5 ≤ xs.length ∧ 10 ≤ (headP xs).1 := by
  have hr := hn_range xs
  unfold headP at h h2 ⊢
  split at h
  · rename_i a
    rw [if_pos a] at h2
    exact absurd rfl h2
  · rename_i a
    rw [if_neg a] at h2 ⊢
    split at h
    · exact absurd rfl h
    · rename_i b
      rw [if_neg b] at h2 ⊢
      split at h
      · rename_i d
        rw [if_pos d] at h2
        exact absurd rfl h2
      · rename_i d
        rw [if_neg d] at h2 ⊢
        split
        · simp only; omega
        · simp only; omega
theorem head_short {xs : List Int} (h : (headP xs).2 = 10) : xs.length ≤ 4 := by
  unfold headP at h
  split at h
  · cases h
  · split at h
    · omega
    · split at h
      · cases h
      · split at h
        · cases h
        · cases h
theorem whole_ok {r : R} (hl : 64 ≤ r.lim ∧ r.lim ≤ 4096) (hb : Byt r.buf) (h2 : r.st = 2) (hlen : r.len ≤ r.lim) : Ok (whole r).1 := by
  unfold whole
  split
  · rename_i h
    exact ⟨hl, hb, .inr (.inr (.inl ⟨h2, h, hlen⟩)), fun e => by have e2 : r.st = 0 := e; omega⟩
  · exact ⟨hl, byt_nil, .inr (.inl ⟨rfl, by simp⟩), fun e => by simp at e⟩
theorem measure_ok {r : R} (h : Ok r) (h1 : r.st = 1) (hbl : r.buf.length ≤ 4) {c : Int} (hc : 0 ≤ c ∧ c < 256) : Ok (measure r c).1 := by
  have hb : Byt (r.buf ++ [c]) := byt_app h.byt (fun x hx => by simp at hx; subst hx; exact hc)
  have hl := h.lim
  unfold measure
  split
  · rename_i a
    exact ⟨hl, hb, .inr (.inl ⟨h1, head_short a⟩), fun e => by simp only at e; omega⟩
  · rename_i a
    split
    · exact ⟨hl, byt_nil, .inl rfl, fun _ => rfl⟩
    · rename_i b
      have h5 := head_five a b
      have hlt := (headP_len (r.buf ++ [c])).2
      have hlen : (r.buf ++ [c]).length = r.buf.length + 1 := by simp
      split
      · rename_i d
        refine ⟨hl, byt_nil, .inr (.inr (.inr ⟨rfl, ?_, ?_, rfl⟩)), fun e => by simp at e⟩
        · simp only; omega
        · simp only; omega
      · rename_i d
        exact whole_ok hl hb rfl (by simp only; omega)
theorem passes_ok {r : R} (h : Ok r) (h3 : r.st = 3) {n : Int} (hn : 0 ≤ n) (hle : n ≤ r.len) (hlt : 0 < r.len ∧ r.len < 8589934592) (hb : r.buf = []) : Ok (passes r n).1 := by
  unfold passes
  refine ⟨h.lim, h.byt, ?_, fun e => by simp only at e; split at e <;> omega⟩
  simp only
  split
  · exact .inr (.inl ⟨rfl, by rw [hb]; simp⟩)
  · exact .inr (.inr (.inr ⟨h3, by omega, by omega, hb⟩))
theorem step_ok {r : R} (h : Ok r) {c : Int} (hc : 0 ≤ c ∧ c < 256) : Ok (step r c).1 := by
  unfold step
  rcases h.st with h0 | ⟨h1, hb⟩ | ⟨h2, hlt, hle⟩ | ⟨h3, hp, hlt, hb⟩
  · rw [if_neg (by omega), if_neg (by omega), if_neg (by omega)]
    exact h
  · rw [if_pos h1]
    exact measure_ok h h1 hb hc
  · rw [if_neg (by omega), if_pos h2]
    exact whole_ok h.lim (byt_app h.byt (fun x hx => by simp at hx; subst hx; exact hc)) h2 hle
  · rw [if_neg (by omega), if_neg (by omega), if_pos h3]
    exact passes_ok h h3 (by omega) (by omega) ⟨hp, hlt⟩ hb
theorem feed_ok : ∀ {xs : List Int} {r : R}, Ok r → Byt xs → Ok (feed r xs).1
  | [], _, h, _ => h
  | c :: _, r, h, hx => feed_ok (r := (step r c).1) (step_ok h (hx c List.mem_cons_self)) (fun x hx' => hx x (List.mem_cons_of_mem _ hx'))
/-- Gathering byte by byte is gathering at once. -/
theorem feed_gathers : ∀ (xs : List Int) (r : R), r.st = 2 → (r.buf.length : Int) < r.len → 0 < xs.length → ((r.buf.length + xs.length : Nat) : Int) ≤ r.len → feed r xs = gathers r xs
  | [], _, _, _, h, _ => by simp at h
  | [c], r, h2, hlt, _, _ => by simp [feed, step, h2]
  | c :: d :: xs, r, h2, hlt, _, hle => by
    have e1 : step r c = (⟨r.st, r.lim, r.buf ++ [c], r.len, r.fr⟩, []) := by
      unfold step
      rw [if_neg (by omega), if_pos h2]
      unfold gathers whole
      rw [if_pos (by simp only [List.length_append, List.length_cons, List.length_nil] at hle ⊢; omega)]
    rw [feed, e1]
    simp only [List.nil_append]
    rw [feed_gathers (d :: xs) ⟨r.st, r.lim, r.buf ++ [c], r.len, r.fr⟩ h2 (by simp only [List.length_append, List.length_cons, List.length_nil] at hle ⊢; omega) (by simp) (by simp only [List.length_append, List.length_cons, List.length_nil] at hle ⊢; omega)]
    simp [gathers]
/-- Passing over byte by byte is passing over at once. -/
theorem feed_passes : ∀ (xs : List Int) (r : R), r.st = 3 → 0 < xs.length → (xs.length : Int) ≤ r.len → feed r xs = passes r (xs.length : Int)
  | [], _, _, h, _ => by simp at h
  | [c], r, h3, _, _ => by simp [feed, step, h3, passes]
  | c :: d :: xs, r, h3, _, hle => by
    have e1 : step r c = (⟨r.st, r.lim, r.buf, r.len - 1, r.fr⟩, []) := by
      unfold step
      rw [if_neg (by omega), if_neg (by omega), if_pos h3]
      unfold passes
      rw [if_neg (by simp only [List.length_cons] at hle; omega)]
    rw [feed, e1]
    simp only [List.nil_append]
    rw [feed_passes (d :: xs) ⟨r.st, r.lim, r.buf, r.len - 1, r.fr⟩ h3 (by simp) (by simp only [List.length_cons] at hle ⊢; omega)]
    unfold passes
    simp only [List.length_cons]
    have e : r.len - 1 - ((xs.length + 1 : Nat) : Int) = r.len - ((xs.length + 1 + 1 : Nat) : Int) := by omega
    rw [e]
end St
end Go.Proofs.Ytkllgmhfjibajaa
