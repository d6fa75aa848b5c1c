/- The walks of stream's New, Waiting, Dead, End, Split. Conditions: none. -/
import Derived.Test.YtkllgmhfjibajaaFeed
namespace Go.Proofs.Ytkllgmhfjibajaa
open Go.RowKit St
namespace St
def fresh (lim : Int) : R := ⟨1, lim, [], 0, 0⟩
def endOf (r : R) : Int := if r.st = 0 then 173 else if r.st ≠ 1 ∨ 0 < r.buf.length then 10 else 0
theorem fresh_ok {lim : Int} (h : 64 ≤ lim ∧ lim ≤ 4096) : Ok (fresh lim) := ⟨h, byt_nil, .inr (.inl ⟨rfl, by simp [fresh]⟩), fun e => by simp [fresh] at e⟩
end St
theorem new_bad (lim : Int) (w : World) (h : lim < 64 ∨ 4096 < lim) : Calls Try.prog 20 #[.int .i64 lim] w fun e w' => e = .returned (.tuple #[.pointer none, .int .i64 3]) ∧ w' = w := by
  go_enter Try.func20, Try.ntmps20
  by_cases h1 : lim < 64
  · go_wp2
    go_ret2
    exact ⟨rfl, rfl⟩
  · have h2 : lim > 4096 := by omega
    clear h
    go_wp2
    go_ret2
    exact ⟨rfl, rfl⟩
theorem new_good (lim : Int) (w : World) (h : 64 ≤ lim ∧ lim ≤ 4096) : Calls Try.prog 20 #[.int .i64 lim] w fun e w' => e = .returned (.tuple #[.pointer (some ⟨w.heap.size, 0, none⟩), .int .i64 0]) ∧ Below w.heap.size w w' ∧ RD w' w.heap.size w.heap.size (.slice none 0 0) (fresh lim) := by
  have h1 : ¬ lim < 64 := by omega
  have h2 : ¬ lim > 4096 := by omega
  clear h
  go_enter Try.func20, Try.ntmps20
  go_wp2
  go_ret2
  exact ⟨rfl, (Below.refl _ w).alloc (Nat.le_refl _) _, Blk.new w 48 _, OwnB.nil _ _⟩
theorem waiting_any (base g : Nat) (v : Value) (r : R) (w : World) (hr : RD w base g v r) : Calls Try.prog 23 #[.pointer (some ⟨g, 0, none⟩)] w fun e w' => e = .returned (.int .i64 r.buf.length) ∧ w' = w := by
  obtain ⟨A, c, rfl, hc1, hc2⟩ := hr.own.shape
  have q2 := hr.blk.cell 2
  simp at q2
  clear hr
  go_enter Try.func23, Try.ntmps23
  go_wp2
  go_ret
  exact ⟨rfl, rfl⟩
theorem waiting_nil (w : World) : Calls Try.prog 23 #[.pointer none] w fun e w' => e = .returned (.int .i64 0) ∧ w' = w := by
  go_enter Try.func23, Try.ntmps23
  go_wp2
  go_ret
  exact ⟨rfl, rfl⟩
theorem dead_nil (w : World) : Calls Try.prog 25 #[.pointer none] w fun e w' => e = .returned (.bool true) ∧ w' = w := by
  go_enter Try.func25, Try.ntmps25
  go_wp2
  go_ret
  exact ⟨rfl, rfl⟩
theorem dead_any (base g : Nat) (v : Value) (r : R) (w : World) (hr : RD w base g v r) : Calls Try.prog 25 #[.pointer (some ⟨g, 0, none⟩)] w fun e w' => e = .returned (.bool (decide (r.st = 0))) ∧ w' = w := by
  have q0 := hr.blk.cell 0
  simp at q0
  clear hr
  go_enter Try.func25, Try.ntmps25
  by_cases h : r.st = 0
  · have h' : (r.st == 0) = true := by simp [h]
    go_wp2
    go_ret
    simp [h]
  · have h' : (r.st == 0) = false := by simp [h]
    go_wp2
    go_ret
    simp [h]
theorem end_nil (w : World) : Calls Try.prog 27 #[.pointer none] w fun e w' => e = .returned (.int .i64 173) ∧ w' = w := by
  have hd := dead_nil w
  go_enter Try.func27, Try.ntmps27
  go_wp2_with (go_at_call 25; refine hd.mono ?_; rintro e w' ⟨rfl, rfl⟩)
  go_ret
  exact ⟨rfl, rfl⟩
theorem end_any (base g : Nat) (v : Value) (r : R) (w : World) (hr : RD w base g v r) : Calls Try.prog 27 #[.pointer (some ⟨g, 0, none⟩)] w fun e w' => e = .returned (.int .i64 (endOf r)) ∧ w' = w := by
  have hd := dead_any base g v r w hr
  obtain ⟨A, c, rfl, hc1, hc2⟩ := hr.own.shape
  have q0 := hr.blk.cell 0
  have q2 := hr.blk.cell 2
  simp at q0 q2
  clear hr
  go_enter Try.func27, Try.ntmps27
  by_cases h : r.st = 0
  · have h' : (r.st == 0) = true := by simp [h]
    have hdd : decide (r.st = 0) = true := by simp [h]
    rw [hdd] at hd
    have H := Lib.hid h
    clear h h' hdd
    go_wp2_with (go_at_call 25; refine hd.mono ?_; rintro e w' ⟨rfl, rfl⟩)
    go_ret
    unfold endOf
    rw [if_pos H.out]
    exact ⟨rfl, rfl⟩
  · have hdd : decide (r.st = 0) = false := by simp [h]
    rw [hdd] at hd
    have H := Lib.hid h
    clear h hdd
    by_cases h1 : r.st = 1
    · have h1' : (r.st == 1) = true := by simp [h1]
      have H1 := Lib.hid h1
      clear h1
      by_cases hb : 0 < r.buf.length
      · have hbi : (0 : Int) < r.buf.length := by omega
        have Hb := Lib.hid hb
        clear hb
        go_wp2_with (go_at_call 25; refine hd.mono ?_; rintro e w' ⟨rfl, rfl⟩)
        go_ret
        unfold endOf
        rw [if_neg H.out, if_pos (.inr Hb.out)]
        exact ⟨rfl, rfl⟩
      · have hbi : ¬ (0 : Int) < r.buf.length := by omega
        have Hb := Lib.hid hb
        clear hb
        go_wp2_with (go_at_call 25; refine hd.mono ?_; rintro e w' ⟨rfl, rfl⟩)
        go_ret
        unfold endOf
        rw [if_neg H.out, if_neg (fun e => e.elim (fun e => e H1.out) Hb.out)]
        exact ⟨rfl, rfl⟩
    · have h1' : (r.st == 1) = false := by simp [h1]
      have H1 := Lib.hid h1
      clear h1
      go_wp2_with (go_at_call 25; refine hd.mono ?_; rintro e w' ⟨rfl, rfl⟩)
      go_ret
      unfold endOf
      rw [if_neg H.out, if_pos (.inl H1.out)]
      exact ⟨rfl, rfl⟩
theorem feed_nil (ch : Value) (w : World) : Calls Try.prog 21 #[.pointer none, ch] w fun e w' => e = .returned (.slice none 0 0) ∧ w' = w := by
  go_enter Try.func21, Try.ntmps21
  go_wp2
  go_ret
  exact ⟨rfl, rfl⟩
end Go.Proofs.Ytkllgmhfjibajaa
