/- The walk of a stream's reader's passes. Conditions: none. -/
import Derived.Test.YtkllgmhfjibajaaWhole
namespace Go.Proofs.Ytkllgmhfjibajaa
open Go.RowKit St
set_option maxRecDepth 100000 in
set_option maxHeartbeats 4000000 in
theorem passes_any (base g : Nat) (v : Value) (r : R) (w : World) (A : Option Addr) (cs : List Int) (c : Nat) (hr : RD w base g v r) (hc : cs.length ≤ c ∧ c ≤ maxLen) (h0 : 0 < cs.length) (hl : 0 < r.len ∧ r.len < 8589934592) :
    Calls Try.prog 54 #[.pointer (some ⟨g, 0, none⟩), .slice A cs.length c] w fun e w' => ∃ n : Nat, (0 < n ∧ n ≤ cs.length ∧ (n : Int) ≤ r.len) ∧ e = .returned (.tuple #[.int .i64 (n : Int), .slice none 0 0]) ∧
      RD w' base g v (passes r n).1 ∧ Kp (fun j => j = g ∨ v.ownBlock = some j) w w' ∧ (n = cs.length ∨ (n : Int) = r.len) := by
  have hcm := hc.2
  unfold maxLen at hcm
  have q0 := hr.blk.cell 0
  have q3 := hr.blk.cell 3
  have f0 := hr.blk.frozen 0
  have f3 := hr.blk.frozen 3
  simp at q0 q3
  have Hr := Lib.hid hr
  clear hr
  go_enter Try.func54, Try.ntmps54
  go_upto_region 2 with fail
  obtain ⟨n, hn, n1, n2, n3, n4⟩ : ∃ n : Nat, (if r.len < (cs.length : Int) then r.len else (cs.length : Int)) = (n : Int) ∧ 0 < n ∧ n ≤ cs.length ∧ (n : Int) ≤ r.len ∧ (n = cs.length ∨ (n : Int) = r.len) := by
    by_cases h : r.len < (cs.length : Int)
    · rw [if_pos h]
      exact ⟨r.len.toNat, by omega, by omega, by omega, by omega, .inr (by omega)⟩
    · rw [if_neg h]
      exact ⟨cs.length, rfl, h0, Nat.le_refl _, by omega, .inl rfl⟩
  rw [hn]
  clear hn
  go_upto_region 3 with fail
  have hr1 := Hr.out.putLen (r.len - n)
  have hk1 := Kp.set_ (fun j => j = g ∨ v.ownBlock = some j) w (p := ⟨g, 3, none⟩) (.inl rfl) (.int .i64 (r.len - n))
  generalize World.setCell w _ _ = w1 at *
  clear q0 q3 f0 f3
  have q0 := hr1.blk.cell 0
  have q3 := hr1.blk.cell 3
  have f0 := hr1.blk.frozen 0
  simp at q0 q3
  have Hr1 := Lib.hid hr1
  have Hk1 := Lib.hid hk1
  clear hr1 hk1
  by_cases hz : r.len - n = 0
  · have hz' : (r.len - n == 0) = true := by simp [hz]
    go_wp2
    go_ret2
    refine ⟨n, ⟨n1, n2, n3⟩, rfl, ?_, Hk1.out.trans (Kp.set_ (fun j => j = g) w1 (p := ⟨g, 0, none⟩) rfl _) (fun j hj => .inl (.inl hj)), n4⟩
    unfold passes
    rw [if_pos hz]
    exact Hr1.out.putSt 1
  · have hz' : (r.len - n == 0) = false := by simp [hz]
    go_wp2
    go_ret2
    refine ⟨n, ⟨n1, n2, n3⟩, rfl, ?_, Hk1.out, n4⟩
    unfold passes
    rw [if_neg hz]
    exact Hr1.out
end Go.Proofs.Ytkllgmhfjibajaa
