/- What 'StreamFeeds' holds in a round: memory; the walk of the law's beyond. Conditions: all fits. -/
import Derived.Test.YtkllgmhfjibajaaFeedsMem
namespace Go.Proofs.Ytkllgmhfjibajaa
open Go.RowKit St
theorem bodyP_short (xs : List Int) : (bodyP xs).1.length ≤ xs.length := by
  unfold bodyP
  split
  · split
    · unfold bodyOf
      simp only [List.length_take, List.length_drop]
      omega
    · simp
  · simp
theorem whole_short (r : R) : (∀ p ∈ (whole r).2, p.body.length ≤ r.buf.length) ∧ (whole r).1.buf.length ≤ r.buf.length := by
  unfold whole
  split
  · exact ⟨fun p hp => (by cases hp), Nat.le_refl _⟩
  · refine ⟨fun p hp => ?_, Nat.zero_le _⟩
    simp only [List.mem_singleton] at hp
    subst hp
    split
    · exact bodyP_short r.buf
    · simp
theorem step_short (r : R) (c : Int) : (∀ p ∈ (St.step r c).2, p.body.length ≤ r.buf.length + 1) ∧ (St.step r c).1.buf.length ≤ r.buf.length + 1 := by
  unfold St.step
  split
  · unfold St.measure
    split
    · exact ⟨fun p hp => (by cases hp), by simp⟩
    · split
      · exact ⟨fun p hp => by simp at hp; subst hp; simp, by simp⟩
      · split
        · exact ⟨fun p hp => by simp at hp; subst hp; simp, by simp⟩
        · have h := whole_short ⟨2, r.lim, r.buf ++ [c], (headP (r.buf ++ [c])).1, r.fr⟩
          simpa using h
  · split
    · have h := whole_short ⟨r.st, r.lim, r.buf ++ [c], r.len, r.fr⟩
      unfold gathers
      simpa using h
    · split
      · unfold passes
        exact ⟨fun p hp => (by cases hp), by simp⟩
      · exact ⟨fun p hp => (by cases hp), by simp⟩
theorem feed_bd : ∀ (xs : List Int) (r : R), ∀ p ∈ (feed r xs).2, p.body.length ≤ r.buf.length + xs.length
  | [], _, p, h => by cases h
  | c :: xs, r, p, h => by
    have hs := step_short r c
    rcases List.mem_append.1 (show p ∈ (St.step r c).2 ++ (feed (St.step r c).1 xs).2 from h) with h | h
    · have := hs.1 p h
      simp only [List.length_cons]
      omega
    · have := feed_bd xs _ p h
      have := hs.2
      simp only [List.length_cons]
      omega
theorem tellx_short (lim : Int) (xs cs : List Int) : ∀ p ∈ tellx lim xs cs, p.body.length ≤ xs.length + cs.length := fun p hp => by
  unfold tellx at hp
  split at hp
  · have h := feed_bd (xs ++ cs) (fresh lim) p (by rw [feed_append]; exact List.mem_append_right _ hp)
    rw [List.length_append] at h
    simpa [fresh] using h
  · cases hp
theorem tellx_len (lim : Int) (xs cs : List Int) : (tellx lim xs cs).length ≤ cs.length := by
  unfold tellx
  split
  · exact feed_len _ _
  · exact Nat.zero_le _
/-- Lists of bytes; what is nil has no room. -/
structure Rows3 (w : World) (A : Option Addr) (l : List BV) : Prop where
  r : Rows2 w A l
  nil : ∀ p ∈ l, ∀ n c, p.2 = .slice none n c → c = 0
section
variable {w w' : World} {A : Option Addr} {l : List BV}
theorem Rows3.below (h : Rows3 w A l) (hb : Below w.heap.size w w') : Rows3 w' A l := ⟨h.r.below hb, h.nil⟩
theorem Rows3.get (h : Rows3 w A l) {i : Nat} (hi : i < l.length) : ∃ b o p Ai ci, A = some ⟨b, o, none⟩ ∧ b < w.heap.size ∧ l[i]? = some p ∧ w.cell? ⟨b, o + i, none⟩ = some (.slice Ai p.1.length ci) ∧ (Ai = none → ci = 0) ∧ p.1.length ≤ ci ∧ ci ≤ maxLen ∧ BytesAt w Ai p.1 ∧ Byt p.1 := by
  obtain ⟨b, o, p, Ai, ci, e, hlt, hp, hc, e2, h1, h2, h3, h4⟩ := h.r.get hi
  exact ⟨b, o, p, Ai, ci, e, hlt, hp, hc, fun e3 => h.nil p (List.mem_of_getElem? hp) p.1.length ci (by rw [e2, e3]), h1, h2, h3, h4⟩
end
/-- The first i lists, one behind the other. -/
def joined (l : List BV) (i : Nat) : List Int := (l.take i).flatMap (·.1)
theorem joined_next {l : List BV} {i : Nat} {p : BV} (h : l[i]? = some p) : joined l (i + 1) = joined l i ++ p.1 := by
  unfold joined
  rw [List.take_add_one, h, List.flatMap_append]
  simp
/-- What 'beyond' sums up. -/
def bey : List BV → Nat
  | [] => 0
  | p :: l => p.1.length + 1 + bey l
theorem bey_app : ∀ l m, bey (l ++ m) = bey l + bey m
  | [], m => by simp [bey]
  | p :: l, m => by
    show p.1.length + 1 + bey (l ++ m) = p.1.length + 1 + bey l + bey m
    rw [bey_app l m]
    omega
theorem bey_take (l : List BV) (i : Nat) : bey (l.take i) ≤ bey l := by
  have h := bey_app (l.take i) (l.drop i)
  rw [List.take_append_drop] at h
  omega
theorem bey_next {l : List BV} {i : Nat} {p : BV} (h : l[i]? = some p) : bey (l.take (i + 1)) = bey (l.take i) + (p.1.length + 1) := by
  rw [List.take_add_one, h, bey_app]
  simp [bey]
theorem bey_len : ∀ l, l.length ≤ bey l
  | [] => Nat.le_refl _
  | p :: l => by
    have := bey_len l
    simp only [List.length_cons, bey]
    omega
theorem joined_bey : ∀ (l : List BV), (l.flatMap (·.1)).length ≤ bey l
  | [] => Nat.le_refl _
  | p :: l => by
    have := joined_bey l
    simp only [List.flatMap_cons, List.length_append, bey]
    omega
theorem joined_le (l : List BV) (i : Nat) : (joined l i).length ≤ bey l := Nat.le_trans (joined_bey _) (bey_take l i)
theorem joined_byt {w : World} {A : Option Addr} {l : List BV} (h : Rows3 w A l) (i : Nat) : Byt (joined l i) := fun x hx => by
  obtain ⟨p, hp, hx⟩ := List.mem_flatMap.1 hx
  exact h.r.byt p (List.mem_of_mem_take hp) x hx
set_option maxRecDepth 100000 in
set_option maxHeartbeats 4000000 in
theorem beyond_no (A : Option Addr) (l : List BV) (c : Nat) (w : World) (hr : Rows3 w A l) (hb : bey l ≤ 2147483647) :
    Calls Try.prog 18 #[.slice A l.length c] w fun e w' => e = .returned (.bool false) ∧ w = w' := by
  have Hr := Lib.hid hr
  have hll := bey_len l
  have Hb := Lib.hid hb
  clear hr
  go_enter Try.func18, Try.ntmps18
  go_wp2
  go_loopg [3, 4] l.length (fun gg sv iv wx => ∃ k : Nat, gg + k = l.length ∧ iv = .int .i64 ((k : Nat) : Int) ∧ sv = .int .i64 ((bey (l.take k) : Nat) : Int) ∧ w = wx)
  case atStart => exact ⟨0, by omega, rfl, rfl, rfl⟩
  case round =>
    obtain ⟨k, hk, rfl, rfl, rfl⟩ := hrel
    have Hk := Lib.hid hk
    by_cases hlt : k < l.length
    · have hki : (k : Int) < l.length := by omega
      have hkn : ¬ (k : Int) < 0 := by omega
      obtain ⟨b, o, p, Ai, ci, rfl, hbl, hp, hc, hn, h1, h2, h3, h4⟩ := Hr.out.get hlt
      have hnx := bey_next hp
      have hle := bey_take l (k + 1)
      have Hnx := Lib.hid hnx
      have hgt : ¬ ((bey (l.take k) : Nat) : Int) + 1 + (p.1.length : Int) > 2147483647 := by omega
      clear hnx hle hn h1 h2 h3 h4 hp hk
      generalize hs : bey (l.take k) = s at *
      clear hs
      go_wp2
      go_roundg (gk - 1)
      case measure => have := Hk.out; omega
      case rel => exact ⟨k + 1, by have := Hk.out; omega, by go_num, by rw [Hnx.out]; go_num, rfl⟩
    · have hki : ¬ (k : Int) < l.length := by omega
      clear hk
      go_wp2
      go_ret
      exact ⟨rfl, rfl⟩
set_option maxRecDepth 100000 in
set_option maxHeartbeats 4000000 in
theorem beyond_yes (A : Option Addr) (l : List BV) (c : Nat) (w : World) (hr : Rows3 w A l) (hl : l.length ≤ 140737488355328) (hw : ∀ p ∈ l, p.1.length ≤ 140737488355328) (hb : 2147483647 < bey l) :
    Calls Try.prog 18 #[.slice A l.length c] w fun e w' => e = .returned (.bool true) ∧ w = w' := by
  have Hr := Lib.hid hr
  have Hb := Lib.hid hb
  have Hw := Lib.hid hw
  clear hr hb hw
  go_enter Try.func18, Try.ntmps18
  go_wp2
  go_loopg [3, 4] l.length (fun gg sv iv wx => ∃ k : Nat, gg + k = l.length ∧ iv = .int .i64 ((k : Nat) : Int) ∧ sv = .int .i64 ((bey (l.take k) : Nat) : Int) ∧ bey (l.take k) ≤ 2147483647 ∧ w = wx)
  case atStart => exact ⟨0, by omega, rfl, rfl, Nat.zero_le _, rfl⟩
  case round =>
    obtain ⟨k, hk, rfl, rfl, hs, rfl⟩ := hrel
    have Hk := Lib.hid hk
    have hlt : k < l.length := by
      rcases Nat.lt_or_ge k l.length with h | h
      · exact h
      · have := Hb.out
        rw [List.take_of_length_le h] at hs
        omega
    have hki : (k : Int) < l.length := by omega
    have hkn : ¬ (k : Int) < 0 := by omega
    obtain ⟨b, o, p, Ai, ci, rfl, hbl, hp, hc, hn, h1, h2, h3, h4⟩ := Hr.out.get hlt
    have hnx := bey_next hp
    have hpl : p.1.length ≤ 140737488355328 := Hw.out p (List.mem_of_getElem? hp)
    by_cases hgt : ((bey (l.take k) : Nat) : Int) + 1 + (p.1.length : Int) > 2147483647
    · clear hnx hn h1 h2 h3 h4 hp hk
      generalize bey (l.take k) = s at *
      go_wp2
      go_ret
      exact ⟨rfl, rfl⟩
    · have Hnx := Lib.hid hnx
      have Hle := Lib.hid (show bey (l.take (k + 1)) ≤ 2147483647 by omega)
      clear hnx hn h1 h2 h3 h4 hp hk
      generalize hs2 : bey (l.take k) = s at *
      clear hs2
      go_wp2
      go_roundg (gk - 1)
      case measure => have := Hk.out; omega
      case rel => exact ⟨k + 1, by have := Hk.out; omega, by go_num, by rw [Hnx.out]; go_num, Hle.out, rfl⟩
/-- The blocks that both readers and the shelf hold. -/
def FB (p v q u : Value) (g : Nat) (sv : Value) (l : List (Nat × Value)) (b : Nat) : Prop := PB p v b ∨ PB q u b ∨ FS2 g sv l b
/-- Both readers and the shelf. -/
structure FZ (w0 w : World) (lim : Int) (p v q u : Value) (g : Nat) (sv : Value) (l : List (Nat × Value)) (xs : List Int) : Prop where
  ps : PS w w0.heap.size lim p v xs
  qs : QS w w0.heap.size lim q u xs
  sh : SH w w0.heap.size g sv l
  be : Below w0.heap.size w0 w
  pq : ∀ b, PB p v b → ¬ PB q u b
  pf : ∀ b, PB p v b → ¬ FS2 g sv l b
  qf : ∀ b, PB q u b → ¬ FS2 g sv l b
  lo : ∀ b, FB p v q u g sv l b → w0.heap.size ≤ b
  ap : ∀ (n : Nat) (r : Nat × Value), l[n]? = some r → ∀ b, r.2.ownBlock = some b → sv.ownBlock ≠ some b ∧ b ≠ g
  len : l.length ≤ xs.length
section
variable {w0 w w' w1 w2 w3 w4 : World} {lim : Int} {p v q u v' u' tv tv2 : Value} {g G : Nat} {sv sv' : Value} {l : List (Nat × Value)} {l1 l2 : List PV} {xs cs : List Int} {X : Array Value}
theorem FZ.lt (h : FZ w0 w lim p v q u g sv l xs) {b : Nat} (hb : FB p v q u g sv l b) : b < w.heap.size := by
  rcases hb with hb | hb | hb
  · exact h.ps.lt hb
  · exact h.qs.lt hb
  · exact h.sh.lt hb
theorem FZ.kp {S : Nat → Prop} (h : FZ w0 w lim p v q u g sv l xs) (hk : Kp S w w') (hS : ∀ b, FB p v q u g sv l b → ¬ S b) (hlo : ∀ b, S b → w0.heap.size ≤ b) : FZ w0 w' lim p v q u g sv l xs :=
  ⟨h.ps.kp hk (fun b hb => hS b (.inl hb)), h.qs.kp hk (fun b hb => hS b (.inr (.inl hb))), h.sh.kp hk (fun b hb => hS b (.inr (.inr hb))), Kp.to_below h.be hk h.be.size hlo, h.pq, h.pf, h.qf, h.lo, h.ap, h.len⟩
theorem FZ.below (h : FZ w0 w lim p v q u g sv l xs) (hb : Below w.heap.size w w') : FZ w0 w' lim p v q u g sv l xs := h.kp (S := fun _ => False) (.of_below hb) (fun _ _ h => h) (fun _ h => h.elim)
/-- Both readers have been fed. -/
structure FY (w0 w : World) (lim : Int) (p v q u : Value) (g : Nat) (sv : Value) (l : List (Nat × Value)) (G : Nat) (X : Array Value) (tv : Value) (l1 : List PV) (tv2 : Value) (l2 : List PV) (xs : List Int) : Prop where
  fs : FZ w0 w lim p v q u g sv l xs
  pl : PL w w0.heap.size tv l1
  pr : PR w w0.heap.size tv2 l2
  eq : l1.map (·.1) = l2.map (·.1)
  gb : Blk w G 5 X
  glo : w0.heap.size ≤ G
  gn : ∀ b, FB p v q u g sv l b → b ≠ G
  pn : ∀ b, FP tv l1 b → ¬ FB p v q u g sv l b ∧ b ≠ G
  rn : ∀ b, FP tv2 l2 b → b < w.heap.size
  len : l.length + l1.length ≤ xs.length
  bd : ∀ r ∈ l1, r.1.body.length ≤ xs.length
theorem FY.below (h : FY w0 w lim p v q u g sv l G X tv l1 tv2 l2 xs) (hb : Below w.heap.size w w') : FY w0 w' lim p v q u g sv l G X tv l1 tv2 l2 xs :=
  ⟨h.fs.below hb, h.pl.below hb, h.pr.below hb, h.eq, h.gb.below hb h.gb.lt, h.glo, h.gn, h.pn, fun b e => Nat.lt_of_lt_of_le (h.rn b e) hb.size, h.len, h.bd⟩
theorem FZ.fed (h : FZ w0 w lim p v q u g sv l xs) (hb1 : Below w.heap.size w w1) (hg : Blk w1 w.heap.size 5 X) (hF : Fed w1 w0.heap.size lim p v xs cs w2 v' tv l1) (hR : RFed w2 w0.heap.size lim q u xs cs w3 u' tv2 l2) :
    FY w0 w3 lim p v' q u' g sv l w.heap.size X tv l1 tv2 l2 (xs ++ cs) := by
  obtain ⟨f1, f2, f3, f4, f5, f6⟩ := hF
  obtain ⟨r1, r2, r3, r4, r5, r6⟩ := hR
  have hs0 := h.be.size
  have hs1 := hb1.size
  have hs2 := f2.size
  have hs3 := r2.size
  have hgl := hg.lt
  have hp : ∀ b, PB p v b → b < w.heap.size := fun b hb => h.lt (.inl hb)
  have hq : ∀ b, PB q u b → b < w.heap.size := fun b hb => h.lt (.inr (.inl hb))
  have hf : ∀ b, FS2 g sv l b → b < w.heap.size := fun b hb => h.lt (.inr (.inr hb))
  have h1 := h.below hb1
  have hv : ∀ b, PB p v' b → b < w2.heap.size := fun b hb => f1.lt hb
  have hpq : ∀ b, PB p v' b → ¬ PB q u b := fun b hb hc => by
    rcases f5 b hb with hb | hb
    · exact h.pq b hb hc
    · have := hq b hc; omega
  have hl1 : l1.length ≤ cs.length := by
    have := congrArg List.length f4
    rw [List.length_map] at this
    have := tellx_len lim xs cs
    omega
  have hpf : ∀ b, PB p v' b → ¬ FS2 g sv l b := fun b hb hc => by
    rcases f5 b hb with hb | hb
    · exact h.pf b hb hc
    · have := hf b hc; omega
  have hqf : ∀ b, PB q u' b → ¬ FS2 g sv l b := fun b hb hc => by
    rcases r5 b hb with hb | hb
    · exact h.qf b hb hc
    · have := hf b hc; omega
  refine ⟨⟨f1.kp r2 hpq, r1, (h1.sh.kp f2 (fun b hb hc => h.pf b hc hb)).kp r2 (fun b hb hc => h.qf b hc hb), ?_, ?_, hpf, hqf, ?_, h.ap, ?_⟩, ?_, ?_, ?_, ?_, ?_, ?_, ?_, ?_, ?_, ?_⟩
  · exact Kp.to_below (Kp.to_below h1.be f2 (by omega) (fun j hj => h.lo j (.inl hj))) r2 (by omega) (fun j hj => h.lo j (.inr (.inl hj)))
  · intro b hb hc
    rcases r5 b hc with hc | hc
    · exact hpq b hb hc
    · have := hv b hb; omega
  · intro b hb
    rcases hb with hb | hb | hb
    · rcases f5 b hb with hb | hb
      · exact h.lo b (.inl hb)
      · omega
    · rcases r5 b hb with hb | hb
      · exact h.lo b (.inr (.inl hb))
      · omega
    · exact h.lo b (.inr (.inr hb))
  · have := h.len
    rw [List.length_append]
    omega
  · exact (f3.kp r2 (fun b hb hc => by have := (f3.lt hb).1; have := hq b hc; omega)).mono (by omega)
  · exact r3.mono (by omega)
  · rw [f4, r4]
  · exact (hg.kp f2 (fun hc => by have := hp _ hc; omega)).kp r2 (fun hc => by have := hq _ hc; omega)
  · exact hs0
  · intro b hb e
    rcases hb with hb | hb | hb
    · rcases f5 b hb with hb | hb
      · have := hp b hb; omega
      · omega
    · rcases r5 b hb with hb | hb
      · have := hq b hb; omega
      · omega
    · have := hf b hb; omega
  · intro b hb
    have hlt := f3.lt hb
    refine ⟨fun hc => ?_, fun e => by omega⟩
    rcases hc with hc | hc | hc
    · exact f6 b hb hc
    · rcases r5 b hc with hc | hc
      · have := hq b hc; omega
      · omega
    · have := hf b hc; omega
  · exact fun b hb => (r3.lt hb).2
  · have := h.len
    rw [List.length_append]
    omega
  · intro r hr
    have := tellx_short lim xs cs r.1 (by rw [← f4]; exact List.mem_map_of_mem hr)
    rw [List.length_append]
    omega
theorem FY.kept (h : FY w0 w lim p v q u g sv l G X tv l1 tv2 l2 xs) (hK : KS w w4 w0.heap.size g sv sv' tv l l1 l1.length) :
    FZ w0 w4 lim p v q u g sv' (l ++ taken l1 l1.length) xs ∧ Blk w4 G 5 X ∧ ∀ b, FB p v q u g sv' (l ++ taken l1 l1.length) b → b ≠ G := by
  have hs0 := h.fs.be.size
  have hgl := h.gb.lt
  have hlo := h.fs.lo
  have hsp : ∀ b, FS2 g sv' (l ++ taken l1 l1.length) b → FS2 g sv l b ∨ FP tv l1 b ∨ w.heap.size ≤ b := fun b hb => by
    rcases hb with rfl | hb | ⟨n, r, hr, hb⟩
    · exact .inl (.inl rfl)
    · rcases hK.sva with e | e
      · exact .inl (.inr (.inl (e ▸ hb)))
      · exact .inr (.inr (e b hb))
    · rcases List.mem_append.1 (List.mem_of_getElem? hr) with hm | hm
      · obtain ⟨j, hj⟩ := List.mem_iff_getElem?.1 hm
        exact .inl (.inr (.inr ⟨j, r, hj, hb⟩))
      · unfold taken at hm
        rw [List.take_length] at hm
        obtain ⟨r', hm2, rfl⟩ := List.mem_map.1 hm
        obtain ⟨j, hj⟩ := List.mem_iff_getElem?.1 hm2
        exact .inr (.inl (.inr ⟨j, r', hj, hb⟩))
  have hlt : ∀ b, FB p v q u g sv l b → b < w.heap.size := fun b hb => h.fs.lt hb
  have hnS : ∀ b, PB p v b ∨ PB q u b → ¬ (b = g ∨ sv.ownBlock = some b ∨ FP tv l1 b) := fun b hb hc => by
    rcases hc with hc | hc | hc
    · rcases hb with hb | hb
      · exact h.fs.pf b hb (.inl hc)
      · exact h.fs.qf b hb (.inl hc)
    · rcases hb with hb | hb
      · exact h.fs.pf b hb (.inr (.inl hc))
      · exact h.fs.qf b hb (.inr (.inl hc))
    · rcases hb with hb | hb
      · exact (h.pn b hc).1 (.inl hb)
      · exact (h.pn b hc).1 (.inr (.inl hb))
  have hnF : ∀ b, PB p v b ∨ PB q u b → ¬ FS2 g sv' (l ++ taken l1 l1.length) b := fun b hb hc => by
    rcases hsp b hc with hc | hc | hc
    · rcases hb with hb | hb
      · exact h.fs.pf b hb hc
      · exact h.fs.qf b hb hc
    · rcases hb with hb | hb
      · exact (h.pn b hc).1 (.inl hb)
      · exact (h.pn b hc).1 (.inr (.inl hb))
    · have : b < w.heap.size := hlt b (by rcases hb with hb | hb; exact .inl hb; exact .inr (.inl hb))
      omega
  refine ⟨⟨h.fs.ps.kp hK.kp (fun b hb => hnS b (.inl hb)), h.fs.qs.kp hK.kp (fun b hb => hnS b (.inr hb)), hK.sh, ?_, h.fs.pq, fun b hb => hnF b (.inl hb), fun b hb => hnF b (.inr hb), ?_, fun n r hr b hb => ?_, ?_⟩, ?_, ?_⟩
  · refine Kp.to_below h.fs.be hK.kp hs0 (fun j hj => ?_)
    rcases hj with hj | hj | hj
    · exact hlo j (.inr (.inr (.inl hj)))
    · exact hlo j (.inr (.inr (.inr (.inl hj))))
    · exact (h.pl.lt hj).1
  · intro b hb
    rcases hb with hb | hb | hb
    · exact hlo b (.inl hb)
    · exact hlo b (.inr (.inl hb))
    · rcases hsp b hb with hb | hb | hb
      · exact hlo b (.inr (.inr hb))
      · exact (h.pl.lt hb).1
      · omega
  · have := hK.apart n r hr b hb
    exact ⟨this.1, this.2.1⟩
  · rw [List.length_append, taken_len _ (Nat.le_refl _)]
    exact h.len
  · refine h.gb.kp hK.kp (fun hc => ?_)
    rcases hc with hc | hc | hc
    · exact h.gn _ (.inr (.inr (.inl rfl))) hc.symm
    · exact h.gn _ (.inr (.inr (.inr (.inl hc)))) rfl
    · exact (h.pn _ hc).2 rfl
  · intro b hb
    rcases hb with hb | hb | hb
    · exact h.gn b (.inl hb)
    · exact h.gn b (.inr (.inl hb))
    · rcases hsp b hb with hb | hb | hb
      · exact h.gn b (.inr (.inr hb))
      · exact (h.pn b hb).2
      · omega
end
section
variable {w : World} {base base' : Nat} {lim : Int} {p v : Value} {xs : List Int}
theorem PS.mono (h : PS w base lim p v xs) (hb : base' ≤ base) : PS w base' lim p v xs :=
  ⟨fun hl => by
    obtain ⟨g, rfl, hr⟩ := h.good hl
    exact ⟨g, rfl, ⟨hr.blk, hr.own.mono hb⟩⟩, h.bad⟩
end
end Go.Proofs.Ytkllgmhfjibajaa
