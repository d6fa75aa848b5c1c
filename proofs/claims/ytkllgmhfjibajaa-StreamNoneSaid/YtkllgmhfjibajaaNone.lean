/- The walk of 'StreamNone'. Conditions: none. -/
import Derived.Test.YtkllgmhfjibajaaLawHead
namespace Go.Proofs.Ytkllgmhfjibajaa
open Go.RowKit St
/-- A dead reader takes nothing. -/
theorem feed_dead_any (base g : Nat) (v : Value) (r : R) (w : World) (A : Option Addr) (n c : Nat) (hr : RD w base g v r) (h : r.st = 0) :
    Calls Try.prog 21 #[.pointer (some ⟨g, 0, none⟩), .slice A n c] w fun e w' => e = .returned (.slice none 0 0) ∧ w' = w := by
  have q0 := hr.blk.cell 0
  simp [h] at q0
  clear hr h
  go_enter Try.func21, Try.ntmps21
  go_wp2
  go_loopg [1, 5] 0 (fun gg ch tv wx => ch = .slice A n c ∧ tv = .slice none 0 0 ∧ wx = w)
  case atStart => exact ⟨rfl, rfl, rfl⟩
  case round =>
    obtain ⟨rfl, rfl, rfl⟩ := hrel
    by_cases h0 : 0 < n
    · have h0i : (0 : Int) < n := by omega
      go_wp2
      go_ret
      exact ⟨rfl, rfl⟩
    · have h0i : ¬ (0 : Int) < n := by omega
      go_wp2
      go_ret
      exact ⟨rfl, rfl⟩
set_option maxRecDepth 100000 in
set_option maxHeartbeats 4000000 in
theorem none_walk (w : World) : Calls Try.prog 5 #[] w fun e w' => e = .returned (.bool true) ∧ Below w.heap.size w w' := by
  go_enter Try.func5, Try.ntmps5
  go_upto_region 2 with fail
  go_upto_region 3 with fail
  have hb1 := (Below.refl w.heap.size w).alloc (Nat.le_refl _) (.cells #[.int .i64 0, .int .i64 0, .slice none 0 0, .int .i64 0, .int .i64 0] 48)
  have hr1 : RD (w.alloc (.cells #[.int .i64 0, .int .i64 0, .slice none 0 0, .int .i64 0, .int .i64 0] 48)) w.heap.size w.heap.size (.slice none 0 0) ⟨0, 0, [], 0, 0⟩ := ⟨Blk.new w 48 _, OwnB.nil _ _⟩
  generalize hg : w.heap.size = g at *
  generalize World.alloc w _ = w1 at *
  have hr2 := hr1.alloc (.cells #[.int .u8 197] 5)
  have hr3 := hr2.alloc (.cells #[.int .u8 197] 5)
  have Hb1 := Lib.hid hb1
  have Hr2 := Lib.hid hr2
  have Hr3 := Lib.hid hr3
  clear hb1 hr1 hr2 hr3
  go_upto_region 5 with (first | (go_at_call 21; refine (feed_nil _ _).mono ?_; rintro e w' ⟨rfl, rfl⟩) | (go_at_call 23; refine (waiting_nil _).mono ?_; rintro e w' ⟨rfl, rfl⟩) | (go_at_call 25; refine (dead_nil _).mono ?_; rintro e w' ⟨rfl, rfl⟩) | (go_at_call 27; refine (end_nil _).mono ?_; rintro e w' ⟨rfl, rfl⟩))
  have he := end_any _ _ _ _ _ Hr3.out
  have e173 : endOf ⟨0, 0, [], 0, 0⟩ = 173 := rfl
  rw [e173] at he
  clear e173
  go_upto_region 7 with (first | (go_at_call 21; refine (feed_dead_any _ _ _ _ _ _ _ _ Hr3.out rfl).mono ?_; rintro e w' ⟨rfl, rfl⟩) | (go_at_call 23; refine (waiting_any _ _ _ _ _ Hr3.out).mono ?_; rintro e w' ⟨rfl, rfl⟩) | (go_at_call 25; refine (dead_any _ _ _ _ _ Hr3.out).mono ?_; rintro e w' ⟨rfl, rfl⟩) | (go_at_call 27; refine he.mono ?_; rintro e w' ⟨rfl, rfl⟩))
  have hb5 : Below g w ((w1.alloc (.cells #[.int .u8 197] 5)).alloc (.cells #[.int .u8 197] 5)) := (Hb1.out.alloc (hg ▸ Hb1.out.size) _).alloc (by have := Hb1.out.size; have := World.size_alloc w1 (.cells #[.int .u8 197] 5); omega) _
  generalize World.alloc (World.alloc w1 _) _ = w5 at *
  have Hb5 := Lib.hid hb5
  clear hb5
  go_upto_region 8 with (go_at_call 20; refine (new_bad 63 _ (by decide)).mono ?_; rintro e w' ⟨rfl, rfl⟩)
  go_upto_region 9 with (go_at_call 20; refine (new_bad 4097 _ (by decide)).mono ?_; rintro e w' ⟨rfl, rfl⟩)
  go_upto_region 10 with (go_at_call 20; refine (new_good 64 _ (by decide)).mono ?_; rintro e w6 ⟨rfl, hb6, _⟩)
  have Hb6 := Lib.hid hb6
  clear hb6
  go_upto_region 11 with (go_at_call 20; refine (new_good 4096 _ (by decide)).mono ?_; rintro e w7 ⟨rfl, hb7, _⟩)
  have Hb7 := Lib.hid hb7
  clear hb7
  go_wp2_with (go_at_call 30; refine (lawhead_any _).mono ?_; rintro e w8 ⟨rfl, hb8⟩)
  go_ret
  rw [hg]
  have h5 := Hb5.out.size
  rw [hg] at h5
  have h6 := Hb6.out.size
  have h7 := Hb7.out.size
  exact ⟨rfl, ((Hb5.out.trans (Hb6.out.mono h5)).trans (Hb7.out.mono (Nat.le_trans h5 h6))).trans (hb8.mono (by omega))⟩
end Go.Proofs.Ytkllgmhfjibajaa
