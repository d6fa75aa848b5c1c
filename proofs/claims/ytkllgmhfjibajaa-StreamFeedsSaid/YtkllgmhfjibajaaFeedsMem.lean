/- Both readers, there or not: what each call does. Conditions: all fits. -/
import Derived.Test.YtkllgmhfjibajaaKeep
namespace Go.Proofs.Ytkllgmhfjibajaa
open Go.RowKit St
theorem rfeed_nil (ch : Value) (w : World) : Calls Try.prog 22 #[.pointer none, ch] w fun e w' => e = .returned (.slice none 0 0) ∧ w' = w := by
  go_enter Try.func22, Try.ntmps22
  go_wp2
  go_ret
  exact ⟨rfl, rfl⟩
theorem rwaiting_nil (w : World) : Calls Try.prog 24 #[.pointer none] w fun e w' => e = .returned (.int .i64 0) ∧ w' = w := by
  go_enter Try.func24, Try.ntmps24
  go_wp2
  go_ret
  exact ⟨rfl, rfl⟩
theorem rdead_nil (w : World) : Calls Try.prog 26 #[.pointer none] w fun e w' => e = .returned (.bool true) ∧ w' = w := by
  go_enter Try.func26, Try.ntmps26
  go_wp2
  go_ret
  exact ⟨rfl, rfl⟩
theorem rend_nil (w : World) : Calls Try.prog 28 #[.pointer none] w fun e w' => e = .returned (.int .i64 173) ∧ w' = w := by
  go_enter Try.func28, Try.ntmps28
  go_wp2
  go_ret
  exact ⟨rfl, rfl⟩
/-- The limit may be. -/
def LimOk (lim : Int) : Prop := 64 ≤ lim ∧ lim ≤ 4096
instance (lim : Int) : Decidable (LimOk lim) := by unfold LimOk; infer_instance
def rst (lim : Int) (xs : List Int) : R := (feed (fresh lim) xs).1
def tellx (lim : Int) (xs cs : List Int) : List Pc := if LimOk lim then (feed (rst lim xs) cs).2 else []
def waitx (lim : Int) (xs : List Int) : Int := if LimOk lim then ((rst lim xs).buf.length : Int) else 0
def deadx (lim : Int) (xs : List Int) : Bool := if LimOk lim then decide ((rst lim xs).st = 0) else true
def endx (lim : Int) (xs : List Int) : Int := if LimOk lim then endOf (rst lim xs) else 173
def errx (lim : Int) : Int := if LimOk lim then 0 else 3
theorem rst_app (lim : Int) (xs cs : List Int) : rst lim (xs ++ cs) = (feed (rst lim xs) cs).1 := by unfold rst; rw [feed_append]
theorem rst_ok {lim : Int} {xs : List Int} (h : LimOk lim) (hby : Byt xs) : Ok (rst lim xs) := feed_ok (fresh_ok h) hby
/-- The blocks of a reader. -/
def PB (p v : Value) (b : Nat) : Prop := (∃ a, p = .pointer (some a) ∧ a.block = b) ∨ v.ownBlock = some b
/-- The program's reader, if there is one. -/
structure PS (w : World) (base : Nat) (lim : Int) (p v : Value) (xs : List Int) : Prop where
  good : LimOk lim → ∃ g, p = .pointer (some ⟨g, 0, none⟩) ∧ RD w base g v (rst lim xs)
  bad : ¬ LimOk lim → p = .pointer none ∧ v = .slice none 0 0
/-- The reference's reader, if there is one. -/
structure QS (w : World) (base : Nat) (lim : Int) (p v : Value) (xs : List Int) : Prop where
  good : LimOk lim → ∃ g, p = .pointer (some ⟨g, 0, none⟩) ∧ RF w base g v lim xs (feed (fresh lim) xs).2.length
  bad : ¬ LimOk lim → p = .pointer none ∧ v = .slice none 0 0
section
variable {w w' : World} {base : Nat} {lim : Int} {p v : Value} {xs : List Int}
theorem PS.lt (h : PS w base lim p v xs) {b : Nat} (hb : PB p v b) : b < w.heap.size := by
  by_cases hl : LimOk lim
  · obtain ⟨g, rfl, hr⟩ := h.good hl
    rcases hb with ⟨a, e, rfl⟩ | hb
    · injection e with e
      injection e with e
      subst e
      exact hr.blk.lt
    · exact (hr.own.lt hb).2
  · obtain ⟨rfl, rfl⟩ := h.bad hl
    rcases hb with ⟨a, e, _⟩ | hb
    · cases e
    · cases hb
theorem QS.lt (h : QS w base lim p v xs) {b : Nat} (hb : PB p v b) : b < w.heap.size := by
  by_cases hl : LimOk lim
  · obtain ⟨g, rfl, hr⟩ := h.good hl
    rcases hb with ⟨a, e, rfl⟩ | hb
    · injection e with e
      injection e with e
      subst e
      exact hr.blk.lt
    · exact (hr.own.lt hb).2
  · obtain ⟨rfl, rfl⟩ := h.bad hl
    rcases hb with ⟨a, e, _⟩ | hb
    · cases e
    · cases hb
theorem PS.kp {S : Nat → Prop} (h : PS w base lim p v xs) (hk : Kp S w w') (hS : ∀ b, PB p v b → ¬ S b) : PS w' base lim p v xs :=
  ⟨fun hl => by
    obtain ⟨g, rfl, hr⟩ := h.good hl
    exact ⟨g, rfl, hr.kp hk (hS g (.inl ⟨_, rfl, rfl⟩)) (fun b hb => hS b (.inr hb))⟩, h.bad⟩
theorem QS.kp {S : Nat → Prop} (h : QS w base lim p v xs) (hk : Kp S w w') (hS : ∀ b, PB p v b → ¬ S b) : QS w' base lim p v xs :=
  ⟨fun hl => by
    obtain ⟨g, rfl, hr⟩ := h.good hl
    exact ⟨g, rfl, hr.kp hk (hS g (.inl ⟨_, rfl, rfl⟩)) (fun b hb => hS b (.inr hb))⟩, h.bad⟩
theorem PS.below (h : PS w base lim p v xs) (hb : Below w.heap.size w w') : PS w' base lim p v xs := h.kp (S := fun _ => False) (.of_below hb) (fun _ _ h => h)
theorem QS.below (h : QS w base lim p v xs) (hb : Below w.heap.size w w') : QS w' base lim p v xs := h.kp (S := fun _ => False) (.of_below hb) (fun _ _ h => h)
end
theorem psnew (lim : Int) (w : World) : Calls Try.prog 20 #[.int .i64 lim] w fun e w' => ∃ p, e = .returned (.tuple #[p, .int .i64 (errx lim)]) ∧ Below w.heap.size w w' ∧ PS w' w.heap.size lim p (.slice none 0 0) [] ∧ ∀ b, PB p (.slice none 0 0) b → w.heap.size ≤ b := by
  by_cases h : LimOk lim
  · unfold errx
    rw [if_pos h]
    refine (new_good lim w h).mono ?_
    rintro e w' ⟨rfl, hb, hr⟩
    refine ⟨_, rfl, hb, ⟨fun _ => ⟨_, rfl, hr⟩, fun hn => absurd h hn⟩, fun b hb => ?_⟩
    rcases hb with ⟨a, e, rfl⟩ | hb
    · injection e with e
      injection e with e
      subst e
      exact Nat.le_refl _
    · cases hb
  · unfold errx
    rw [if_neg h]
    refine (new_bad lim w (by unfold LimOk at h; omega)).mono ?_
    rintro e w' ⟨rfl, rfl⟩
    refine ⟨_, rfl, Below.refl _ _, ⟨fun hg => absurd hg h, fun _ => ⟨rfl, rfl⟩⟩, fun b hb => ?_⟩
    rcases hb with ⟨a, e, _⟩ | hb
    · cases e
    · cases hb
theorem qsnew (lim : Int) (w : World) : Calls Try.prog 19 #[.int .i64 lim] w fun e w' => ∃ p, e = .returned (.tuple #[p, .int .i64 (errx lim)]) ∧ Below w.heap.size w w' ∧ QS w' w.heap.size lim p (.slice none 0 0) [] ∧ ∀ b, PB p (.slice none 0 0) b → w.heap.size ≤ b := by
  by_cases h : LimOk lim
  · unfold errx
    rw [if_pos h]
    refine (rnew_good lim w h).mono ?_
    rintro e w' ⟨rfl, hb, hr⟩
    refine ⟨_, rfl, hb, ⟨fun _ => ⟨_, rfl, hr⟩, fun hn => absurd h hn⟩, fun b hb => ?_⟩
    rcases hb with ⟨a, e, rfl⟩ | hb
    · injection e with e
      injection e with e
      subst e
      exact Nat.le_refl _
    · cases hb
  · unfold errx
    rw [if_neg h]
    refine (rnew_bad lim w (by unfold LimOk at h; omega)).mono ?_
    rintro e w' ⟨rfl, rfl⟩
    refine ⟨_, rfl, Below.refl _ _, ⟨fun hg => absurd hg h, fun _ => ⟨rfl, rfl⟩⟩, fun b hb => ?_⟩
    rcases hb with ⟨a, e, _⟩ | hb
    · cases e
    · cases hb
/-- What the program's Feed leaves. -/
def Fed (w : World) (base : Nat) (lim : Int) (p v : Value) (xs cs : List Int) (w' : World) (v' tv : Value) (l : List PV) : Prop :=
  PS w' base lim p v' (xs ++ cs) ∧ Kp (PB p v) w w' ∧ PL w' w.heap.size tv l ∧ l.map (·.1) = tellx lim xs cs ∧ (∀ b, PB p v' b → PB p v b ∨ w.heap.size ≤ b) ∧ ∀ b, FP tv l b → ¬ PB p v' b
/-- What the reference's Feed leaves. -/
def RFed (w : World) (base : Nat) (lim : Int) (p v : Value) (xs cs : List Int) (w' : World) (v' tv : Value) (l : List PV) : Prop :=
  QS w' base lim p v' (xs ++ cs) ∧ Kp (PB p v) w w' ∧ PR w' w.heap.size tv l ∧ l.map (·.1) = tellx lim xs cs ∧ (∀ b, PB p v' b → PB p v b ∨ w.heap.size ≤ b) ∧ ∀ b, FP tv l b → ¬ PB p v' b
theorem psfeed (base : Nat) (lim : Int) (p v : Value) (xs cs : List Int) (w : World) (A : Option Addr) (c : Nat) (h : PS w base lim p v xs) (hbase : base ≤ w.heap.size) (hc : cs.length ≤ c ∧ c ≤ maxLen) (hbig : cs.length ≤ 2147483647) (hx : BytesAt w A cs) (hoff : ∀ a, A = some a → a.block < w.heap.size ∧ ¬ PB p v a.block)
    (hby : Byt xs) (hbc : Byt cs) :
    Calls Try.prog 21 #[p, .slice A cs.length c] w fun e w' => ∃ tv, e = .returned tv ∧ ∃ v' l, Fed w base lim p v xs cs w' v' tv l := by
  by_cases hl : LimOk lim
  · obtain ⟨g, rfl, hr⟩ := h.good hl
    have hgl := hr.blk.lt
    refine (feed_any base g v (rst lim xs) w A cs c hr (rst_ok hl hby) hbase hc (by omega) hx (fun a e => ⟨(hoff a e).1, fun e2 => (hoff a e).2 (.inl ⟨_, rfl, e2.symm⟩), fun e2 => (hoff a e).2 (.inr e2)⟩) hbc).mono ?_
    rintro e w' ⟨tv, rfl, v', l, hT, _⟩
    refine ⟨tv, rfl, v', l, ⟨fun _ => ⟨g, rfl, by rw [rst_app]; exact hT.rd⟩, fun hn => absurd hl hn⟩, hT.kp.mono (fun j hj => .inl (by
      rcases hj with rfl | hj
      · exact .inl ⟨_, rfl, rfl⟩
      · exact .inr hj)), hT.pl, ?_, fun b hb => ?_, fun b hb hp => ?_⟩
    · rw [hT.ps]
      unfold tellx
      rw [if_pos hl]
    · rcases hb with hb | hb
      · exact .inl (.inl hb)
      · rcases hT.at_ with h1 | h1
        · exact .inl (.inr (h1 ▸ hb))
        · exact .inr (h1 b hb)
    · rcases hp with ⟨a, e, rfl⟩ | hp
      · injection e with e
        injection e with e
        subst e
        have := (hT.pl.lt hb).1
        simp only at this
        omega
      · exact hT.far b hb hp
  · obtain ⟨rfl, rfl⟩ := h.bad hl
    refine (feed_nil _ w).mono ?_
    rintro e w' ⟨rfl, rfl⟩
    refine ⟨_, rfl, _, [], ⟨fun hg => absurd hg hl, fun _ => ⟨rfl, rfl⟩⟩, Kp.refl _ _, PL.nil _ _, ?_, fun b hb => .inl hb, fun b hb hp => ?_⟩
    · unfold tellx
      rw [if_neg hl]
      rfl
    · rcases hp with ⟨a, e, _⟩ | hp
      · cases e
      · cases hp
theorem qsfeed (base : Nat) (lim : Int) (p v : Value) (xs cs : List Int) (w : World) (A : Option Addr) (c : Nat) (h : QS w base lim p v xs) (hbase : base ≤ w.heap.size) (hc : cs.length ≤ c ∧ c ≤ maxLen) (hA : A = none → c = 0) (hbig : xs.length + cs.length ≤ 2147483647) (hx : BytesAt w A cs)
    (hby : Byt xs) (hbc : Byt cs) :
    Calls Try.prog 22 #[p, .slice A cs.length c] w fun e w' => ∃ tv, e = .returned tv ∧ ∃ v' l, RFed w base lim p v xs cs w' v' tv l := by
  by_cases hl : LimOk lim
  · obtain ⟨g, rfl, hr⟩ := h.good hl
    have hgl := hr.blk.lt
    refine (rfeed_any base g v lim xs cs w A c hr hl hbase hc hA hbig hx hby hbc).mono ?_
    rintro e w' ⟨tv, rfl, v', l, hT⟩
    refine ⟨tv, rfl, v', l, ⟨fun _ => ⟨g, rfl, hT.rf⟩, fun hn => absurd hl hn⟩, hT.kp.mono (fun j hj => .inl (by
      rcases hj with rfl | hj
      · exact .inl ⟨_, rfl, rfl⟩
      · exact .inr hj)), hT.pl, ?_, fun b hb => ?_, fun b hb hp => ?_⟩
    · rw [hT.ps]
      unfold tellx
      rw [if_pos hl]
      rfl
    · rcases hb with hb | hb
      · exact .inl (.inl hb)
      · rcases hT.at_ with h1 | h1
        · exact .inl (.inr (h1 ▸ hb))
        · exact .inr (h1 b hb)
    · rcases hp with ⟨a, e, rfl⟩ | hp
      · injection e with e
        injection e with e
        subst e
        have := (hT.pl.lt hb).1
        simp only at this
        omega
      · exact hT.far b hb hp
  · obtain ⟨rfl, rfl⟩ := h.bad hl
    refine (rfeed_nil _ w).mono ?_
    rintro e w' ⟨rfl, rfl⟩
    refine ⟨_, rfl, _, [], ⟨fun hg => absurd hg hl, fun _ => ⟨rfl, rfl⟩⟩, Kp.refl _ _, PR.nil _ _, ?_, fun b hb => .inl hb, fun b hb hp => ?_⟩
    · unfold tellx
      rw [if_neg hl]
      rfl
    · rcases hp with ⟨a, e, _⟩ | hp
      · cases e
      · cases hp
section
variable {w : World} {base : Nat} {lim : Int} {p v : Value} {xs : List Int}
theorem pswait (h : PS w base lim p v xs) : Calls Try.prog 23 #[p] w fun e w' => e = .returned (.int .i64 (waitx lim xs)) ∧ w = w' := by
  unfold waitx
  by_cases hl : LimOk lim
  · obtain ⟨g, rfl, hr⟩ := h.good hl
    rw [if_pos hl]
    exact (waiting_any _ _ _ _ _ hr).mono fun _ _ h => ⟨h.1, h.2.symm⟩
  · obtain ⟨rfl, rfl⟩ := h.bad hl
    rw [if_neg hl]
    exact (waiting_nil w).mono fun _ _ h => ⟨h.1, h.2.symm⟩
theorem psdead (h : PS w base lim p v xs) : Calls Try.prog 25 #[p] w fun e w' => e = .returned (.bool (deadx lim xs)) ∧ w = w' := by
  unfold deadx
  by_cases hl : LimOk lim
  · obtain ⟨g, rfl, hr⟩ := h.good hl
    rw [if_pos hl]
    exact (dead_any _ _ _ _ _ hr).mono fun _ _ h => ⟨h.1, h.2.symm⟩
  · obtain ⟨rfl, rfl⟩ := h.bad hl
    rw [if_neg hl]
    exact (dead_nil w).mono fun _ _ h => ⟨h.1, h.2.symm⟩
theorem psend (h : PS w base lim p v xs) : Calls Try.prog 27 #[p] w fun e w' => e = .returned (.int .i64 (endx lim xs)) ∧ w = w' := by
  unfold endx
  by_cases hl : LimOk lim
  · obtain ⟨g, rfl, hr⟩ := h.good hl
    rw [if_pos hl]
    exact (end_any _ _ _ _ _ hr).mono fun _ _ h => ⟨h.1, h.2.symm⟩
  · obtain ⟨rfl, rfl⟩ := h.bad hl
    rw [if_neg hl]
    exact (end_nil w).mono fun _ _ h => ⟨h.1, h.2.symm⟩
theorem qswait (h : QS w base lim p v xs) (hby : Byt xs) (hbig : xs.length ≤ 2147483647) : Calls Try.prog 24 #[p] w fun e w' => e = .returned (.int .i64 (waitx lim xs)) ∧ Below w.heap.size w w' := by
  unfold waitx
  by_cases hl : LimOk lim
  · obtain ⟨g, rfl, hr⟩ := h.good hl
    rw [if_pos hl]
    exact rwaiting_any _ _ _ _ _ _ _ hr hl hby hbig
  · obtain ⟨rfl, rfl⟩ := h.bad hl
    rw [if_neg hl]
    exact (rwaiting_nil w).mono fun _ _ h => ⟨h.1, h.2 ▸ Below.refl _ _⟩
theorem qsdead (h : QS w base lim p v xs) (hby : Byt xs) (hbig : xs.length ≤ 2147483647) : Calls Try.prog 26 #[p] w fun e w' => e = .returned (.bool (deadx lim xs)) ∧ Below w.heap.size w w' := by
  unfold deadx
  by_cases hl : LimOk lim
  · obtain ⟨g, rfl, hr⟩ := h.good hl
    rw [if_pos hl]
    exact rdead_any _ _ _ _ _ _ _ hr hl hby hbig
  · obtain ⟨rfl, rfl⟩ := h.bad hl
    rw [if_neg hl]
    exact (rdead_nil w).mono fun _ _ h => ⟨h.1, h.2 ▸ Below.refl _ _⟩
theorem qsend (h : QS w base lim p v xs) (hby : Byt xs) (hbig : xs.length ≤ 2147483647) : Calls Try.prog 28 #[p] w fun e w' => e = .returned (.int .i64 (endx lim xs)) ∧ Below w.heap.size w w' := by
  unfold endx
  by_cases hl : LimOk lim
  · obtain ⟨g, rfl, hr⟩ := h.good hl
    rw [if_pos hl]
    exact rend_any _ _ _ _ _ _ _ hr hl hby hbig
  · obtain ⟨rfl, rfl⟩ := h.bad hl
    rw [if_neg hl]
    exact (rend_nil w).mono fun _ _ h => ⟨h.1, h.2 ▸ Below.refl _ _⟩
end
end Go.Proofs.Ytkllgmhfjibajaa
