/- A step of a stream's reader, whichever it is. Conditions: none. -/
import Derived.Test.YtkllgmhfjibajaaMeasures
namespace Go.Proofs.Ytkllgmhfjibajaa
open Go.RowKit St
/-- What a step leaves: it took n bytes of xs. -/
def Steps (w : World) (base g : Nat) (v : Value) (r : R) (xs : List Int) (e : Ending) (w' : World) : Prop :=
  ∃ n : Nat, (0 < n ∧ n ≤ xs.length) ∧ ∃ tv, e = .returned (.tuple #[.int .i64 (n : Int), tv]) ∧
    ∃ v' l, Told w base g v w' v' (feed r (xs.take n)).1 tv l (feed r (xs.take n)).2 ∧ l.length ≤ 1 ∧ (l = [] → tv = .slice none 0 0)
section
variable {base g : Nat} {v : Value} {r : R} {w : World} {A : Option Addr} {xs : List Int} {c : Nat}
theorem steps1 (hr : RD w base g v r) (hok : Ok r) (hst : r.st = 1) (hbase : base ≤ w.heap.size) (hc : xs.length ≤ c ∧ c ≤ maxLen) (hx : BytesAt w A xs) (hby : Byt xs) (h0 : 0 < xs.length) :
    Calls Try.prog 52 #[.pointer (some ⟨g, 0, none⟩), .slice A xs.length c] w (Steps w base g v r xs) := by
  have hb : r.buf.length ≤ 4 := by
    rcases hok.st with h | ⟨_, h⟩ | ⟨h, _⟩ | ⟨h, _⟩
    · omega
    · exact h
    · omega
    · omega
  cases xs with
  | nil => cases h0
  | cons x xs =>
    refine (measures_any base g v r w A (x :: xs) c x hr hbase hok.byt hc hx rfl (hby x List.mem_cons_self) hb).mono ?_
    rintro e w' ⟨tv, rfl, v', l, ht, h1, h2⟩
    refine ⟨1, ⟨by decide, by simp⟩, tv, rfl, v', l, ?_, h1, h2⟩
    have e1 : feed r ((x :: xs).take 1) = St.measure r x := by simp [feed, St.step, hst]
    rw [e1]
    exact ht
theorem steps2 (hr : RD w base g v r) (hok : Ok r) (hst : r.st = 2) (hbase : base ≤ w.heap.size) (hc : xs.length ≤ c ∧ c ≤ maxLen) (hx : BytesAt w A xs) (hby : Byt xs) (h0 : 0 < xs.length) :
    Calls Try.prog 53 #[.pointer (some ⟨g, 0, none⟩), .slice A xs.length c] w (Steps w base g v r xs) := by
  have hb : (r.buf.length : Int) < r.len ∧ r.len ≤ 4096 := by
    have hl := hok.lim
    rcases hok.st with h | ⟨h, _⟩ | ⟨_, h, h'⟩ | ⟨h, _⟩
    · omega
    · omega
    · exact ⟨h, by omega⟩
    · omega
  refine (gathers_any base g v r w A xs c hr hbase hok.byt hc h0 hx hby hb).mono ?_
  rintro e w' ⟨n, ⟨n1, n2, n3⟩, tv, rfl, v', l, ht, h1, h2⟩
  refine ⟨n, ⟨n1, n2⟩, tv, rfl, v', l, ?_, h1, h2⟩
  have hl : (xs.take n).length = n := by rw [List.length_take]; omega
  rw [feed_gathers (xs.take n) r hst hb.1 (by omega) (by rw [hl]; exact n3)]
  exact ht
theorem steps3 (hr : RD w base g v r) (hok : Ok r) (hst : r.st = 3) (hc : xs.length ≤ c ∧ c ≤ maxLen) (h0 : 0 < xs.length) :
    Calls Try.prog 54 #[.pointer (some ⟨g, 0, none⟩), .slice A xs.length c] w (Steps w base g v r xs) := by
  have hb : 0 < r.len ∧ r.len < 8589934592 := by
    rcases hok.st with h | ⟨h, _⟩ | ⟨h, _⟩ | ⟨_, h, h', _⟩
    · omega
    · omega
    · omega
    · exact ⟨h, h'⟩
  refine (passes_any base g v r w A xs c hr hc h0 hb).mono ?_
  rintro e w' ⟨n, ⟨n1, n2, n3⟩, rfl, hr', hk, _⟩
  have hl : (xs.take n).length = n := by rw [List.length_take]; omega
  refine ⟨n, ⟨n1, n2⟩, _, rfl, v, [], ?_, Nat.zero_le _, fun _ => rfl⟩
  rw [feed_passes (xs.take n) r hst (by omega) (by rw [hl]; exact n3), hl]
  exact Told.nothing hr' hk (.inl rfl)
end
theorem work1 (w : World) : Calls Try.prog 39 #[.int .i64 1] w fun e w' => e = .returned (.func (.func 52) #[] #[]) ∧ w' = w := by
  go_enter Try.func39, Try.ntmps39
  go_wp2
  go_ret
  exact ⟨rfl, rfl⟩
theorem work2 (w : World) : Calls Try.prog 39 #[.int .i64 2] w fun e w' => e = .returned (.func (.func 53) #[] #[]) ∧ w' = w := by
  go_enter Try.func39, Try.ntmps39
  go_wp2
  go_ret
  exact ⟨rfl, rfl⟩
theorem work3 (w : World) : Calls Try.prog 39 #[.int .i64 3] w fun e w' => e = .returned (.func (.func 54) #[] #[]) ∧ w' = w := by
  go_enter Try.func39, Try.ntmps39
  go_wp2
  go_ret
  exact ⟨rfl, rfl⟩
/-- Each byte tells one piece at most. -/
theorem whole_len (r : R) : (whole r).2.length ≤ 1 := by
  unfold whole
  split <;> simp
theorem step_len (r : R) (c : Int) : (St.step r c).2.length ≤ 1 := by
  unfold St.step
  split
  · unfold St.measure
    split
    · simp
    · split
      · simp
      · split
        · simp
        · exact whole_len _
  · split
    · exact whole_len _
    · split
      · simp [passes]
      · simp
theorem feed_len : ∀ (xs : List Int) (r : R), (feed r xs).2.length ≤ xs.length
  | [], _ => Nat.le_refl _
  | c :: xs, r => by
    have h1 := step_len r c
    have h2 := feed_len xs (St.step r c).1
    simp only [feed, List.length_append, List.length_cons]
    omega
end Go.Proofs.Ytkllgmhfjibajaa
