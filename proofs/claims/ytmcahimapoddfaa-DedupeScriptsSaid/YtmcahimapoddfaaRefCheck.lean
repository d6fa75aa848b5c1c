/- The walks of the document's record.Check, and of what it calls. Conditions: none. -/
import Derived.Test.YtmcahimapoddfaaCheck
namespace Go.Proofs.Ytmcahimapoddfaa
open Go.RowKit

theorem inR_any (v lo hi : Int) (w : World) : Calls Try.prog 45 #[.int .i64 v, .int .i64 lo, .int .i64 hi] w fun e w' => e = .returned (.bool (inB v lo hi)) ∧ w = w' := by
  by_cases h1 : lo ≤ v
  · have h1' : v ≥ lo := h1
    by_cases h2 : v < hi
    · have hb : inB v lo hi = true := by simp [inB]; omega
      rw [hb]
      go_enter Try.func45, Try.ntmps45
      go_wp2
      go_ret
      exact ⟨rfl, rfl⟩
    · have hb : inB v lo hi = false := by simp [inB]; omega
      rw [hb]
      go_enter Try.func45, Try.ntmps45
      go_wp2
      go_ret
      exact ⟨rfl, rfl⟩
  · have h1' : ¬ v ≥ lo := h1
    have hb : inB v lo hi = false := by simp [inB]; omega
    rw [hb]
    go_enter Try.func45, Try.ntmps45
    go_wp2
    go_ret
    exact ⟨rfl, rfl⟩
set_option maxRecDepth 100000 in
set_option maxHeartbeats 4000000 in
theorem chkRef_any (r : Rc) (w : World) : Calls Try.prog 32 #[rcV r] w fun e w' => e = .returned (.int .i64 (chkR r)) ∧ Below w.heap.size w w' := by
  obtain ⟨k, o, t, p, s, ky, vl⟩ := r
  unfold rcV
  dsimp only
  obtain ⟨n0, hn0⟩ : ∃ n0, n0 = decide (¬ k = 1 ∧ ¬ k = 2) := ⟨_, rfl⟩
  obtain ⟨n1, hn1⟩ : ∃ n1, n1 = decide (¬ ((0 ≤ o ∧ o < 1099511627776) ∧ (0 ≤ t ∧ t < 1125899906842624) ∧ (0 ≤ p ∧ p < 4294967296))) := ⟨_, rfl⟩
  obtain ⟨n2, hn2⟩ : ∃ n2, n2 = decide ((p = 0 ∧ ¬ s = 0) ∨ (0 < p ∧ ¬ (1 ≤ s ∧ s < 1099511627776))) := ⟨_, rfl⟩
  obtain ⟨n3, hn3⟩ : ∃ n3, n3 = decide (ky.size < 1 ∨ 64 < ky.size) := ⟨_, rfl⟩
  obtain ⟨n4, hn4⟩ : ∃ n4, n4 = decide (1024 < vl.size ∨ (k = 2 ∧ ¬ vl.size = 0)) := ⟨_, rfl⟩
  have Hc := Lib.hid (show chkR ⟨k, o, t, p, s, ky, vl⟩ = if n0 then 44 else if n1 then 45 else if n2 then 45 else if n3 then 42 else if n4 then 43 else 0 by
    rw [hn0, hn1, hn2, hn3, hn4]
    simp only [chkR, inB, decide_eq_true_eq, decide_eq_false_iff_not]
    congr 1
    congr 1
    rw [← Decidable.not_and_iff_not_or_not, ← Decidable.not_and_iff_not_or_not])
  have Hn0 := Lib.hid hn0
  have Hn1 := Lib.hid hn1
  have Hn2 := Lib.hid hn2
  have Hn3 := Lib.hid hn3
  have Hn4 := Lib.hid hn4
  clear hn0 hn1 hn2 hn3 hn4
  go_enter Try.func32, Try.ntmps32
  go_upto_region 1 with fail
  have x0 := cell_of_row _ _ 0 _ _ _ (heap_alloc_new w (.cells #[.int .i64 k, .int .i64 o, .int .i64 t, .int .i64 p, .int .i64 s, .string ky, .string vl] 32))
  have x1 := cell_of_row _ _ 1 _ _ _ (heap_alloc_new w (.cells #[.int .i64 k, .int .i64 o, .int .i64 t, .int .i64 p, .int .i64 s, .string ky, .string vl] 32))
  have x2 := cell_of_row _ _ 2 _ _ _ (heap_alloc_new w (.cells #[.int .i64 k, .int .i64 o, .int .i64 t, .int .i64 p, .int .i64 s, .string ky, .string vl] 32))
  have x3 := cell_of_row _ _ 3 _ _ _ (heap_alloc_new w (.cells #[.int .i64 k, .int .i64 o, .int .i64 t, .int .i64 p, .int .i64 s, .string ky, .string vl] 32))
  have x4 := cell_of_row _ _ 4 _ _ _ (heap_alloc_new w (.cells #[.int .i64 k, .int .i64 o, .int .i64 t, .int .i64 p, .int .i64 s, .string ky, .string vl] 32))
  have x5 := cell_of_row _ _ 5 _ _ _ (heap_alloc_new w (.cells #[.int .i64 k, .int .i64 o, .int .i64 t, .int .i64 p, .int .i64 s, .string ky, .string vl] 32))
  have x6 := cell_of_row _ _ 6 _ _ _ (heap_alloc_new w (.cells #[.int .i64 k, .int .i64 o, .int .i64 t, .int .i64 p, .int .i64 s, .string ky, .string vl] 32))
  simp only [List.getElem?_toArray, List.getElem?_cons_zero, List.getElem?_cons_succ] at x0 x1 x2 x3 x4 x5 x6
  have hbl : Below w.heap.size w (w.alloc (.cells #[.int .i64 k, .int .i64 o, .int .i64 t, .int .i64 p, .int .i64 s, .string ky, .string vl] 32)) := (Below.refl _ _).alloc (Nat.le_refl _) _
  generalize w.alloc (.cells #[.int .i64 k, .int .i64 o, .int .i64 t, .int .i64 p, .int .i64 s, .string ky, .string vl] 32) = wq at *
  have Hbl := Lib.hid hbl
  clear hbl
  generalize w.heap.size = b1 at x0 x1 x2 x3 x4 x5 x6 ⊢
  go_upto_region 1 with fail
  go_cut [0, 10] (fun _ v wx => v = .bool n0 ∧ wq = wx)
  case first =>
    go_wp2
    all_goals (go_meet; (case rel => exact ⟨by rw [Hn0.out]; refine congrArg Value.bool (Bool.eq_iff_iff.2 ?_); simp [-Nat.lt_one_iff, -ByteArray.size_eq_zero_iff] <;> omega, rfl⟩))
  case rest =>
    obtain ⟨rfl, rfl⟩ := hcut
    cases n0
    rotate_left
    · go_wp2
      go_ret
      exact ⟨by rw [Hc.out]; rfl, Hbl.out⟩
    go_upto_region 3 with fail
    go_cut [0, 26] (fun _ v wx => v = .bool n1 ∧ wq = wx)
    case first =>
      go_wp2
      all_goals (go_meet; (case rel => exact ⟨by rw [Hn1.out]; refine congrArg Value.bool (Bool.eq_iff_iff.2 ?_); simp [-Nat.lt_one_iff, -ByteArray.size_eq_zero_iff] <;> omega, rfl⟩))
    case rest =>
      obtain ⟨rfl, rfl⟩ := hcut
      cases n1
      rotate_left
      · go_wp2
        go_ret
        exact ⟨by rw [Hc.out]; rfl, Hbl.out⟩
      go_upto_region 5 with fail
      go_cut [0, 45] (fun _ v wx => v = .bool n2 ∧ wq = wx)
      case first =>
        go_wp2
        all_goals (go_meet; (case rel => exact ⟨by rw [Hn2.out]; refine congrArg Value.bool (Bool.eq_iff_iff.2 ?_); simp [-Nat.lt_one_iff, -ByteArray.size_eq_zero_iff] <;> omega, rfl⟩))
      case rest =>
        obtain ⟨rfl, rfl⟩ := hcut
        cases n2
        rotate_left
        · go_wp2
          go_ret
          exact ⟨by rw [Hc.out]; rfl, Hbl.out⟩
        go_upto_region 7 with fail
        go_cut [0, 55] (fun _ v wx => v = .bool n3 ∧ wq = wx)
        case first =>
          go_wp2
          all_goals (go_meet; (case rel => exact ⟨by rw [Hn3.out]; refine congrArg Value.bool (Bool.eq_iff_iff.2 ?_); simp [-Nat.lt_one_iff, -ByteArray.size_eq_zero_iff] <;> omega, rfl⟩))
        case rest =>
          obtain ⟨rfl, rfl⟩ := hcut
          cases n3
          rotate_left
          · go_wp2
            go_ret
            exact ⟨by rw [Hc.out]; rfl, Hbl.out⟩
          go_upto_region 9 with fail
          go_cut [0, 70] (fun _ v wx => v = .bool n4 ∧ wq = wx)
          case first =>
            go_wp2
            all_goals (go_meet; (case rel => exact ⟨by rw [Hn4.out]; refine congrArg Value.bool (Bool.eq_iff_iff.2 ?_); simp [-Nat.lt_one_iff, -ByteArray.size_eq_zero_iff] <;> omega, rfl⟩))
          case rest =>
            obtain ⟨rfl, rfl⟩ := hcut
            cases n4
            rotate_left
            · go_wp2
              go_ret
              exact ⟨by rw [Hc.out]; rfl, Hbl.out⟩
            go_wp2
            go_ret
            exact ⟨by rw [Hc.out]; rfl, Hbl.out⟩
end Go.Proofs.Ytmcahimapoddfaa
