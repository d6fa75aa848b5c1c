/- The walks of the helpers 'pairs' and 'rising' of chroniclenames: over a block that holds a known list of integers they return true. Conditions: the list passes the closed test 'pairsOk', 'risingOk'. -/
import Derived.Test.YtlhhipnjckogiaaRows
import Derived.WalkKit
import Derived.WalkSpells
import Derived.WalkLawsBesides
import Derived.Deep.QuietTactic
import Derived.BigQuiet
import Derived.Lib.Hide
namespace Go.Proofs.Ytlhhipnjckogiaa
open Go.RowKit

/-- Each number at an even place is the one behind it. -/
def pairsOk : List Int → Bool
  | [] => true
  | [_] => true
  | a :: b :: r => a == b && pairsOk r

theorem pairsOk_at (l : List Int) : pairsOk l = true → ∀ i, 2 * i + 1 < l.length → l.getD (2 * i) 0 = l.getD (2 * i + 1) 0 := by
  induction l using pairsOk.induct with
  | case1 => intro _ i h; simp at h
  | case2 a => intro _ i h; simp at h
  | case3 a b r ih =>
    intro h i hi
    simp only [pairsOk, Bool.and_eq_true, beq_iff_eq] at h
    cases i with
    | zero => simpa using h.1
    | succ i =>
      have := ih h.2 i (by simp at hi; omega)
      have e : 2 * (i + 1) = 2 * i + 2 := by omega
      rw [e]
      simpa using this

/-- The world after some draws. -/
def Drew (w w' : World) : Prop := ∃ n, w' = w.drewN n
theorem Drew.refl (w : World) : Drew w w := ⟨0, rfl⟩
theorem Drew.more {w w' : World} (h : Drew w w') (n : Nat) : Drew w (w'.drewN n) := by
  obtain ⟨m, rfl⟩ := h
  exact ⟨m + n, by simp⟩
theorem Drew.cell {w w' : World} (h : Drew w w') (a : Addr) : w'.cell? a = w.cell? a := by
  obtain ⟨m, rfl⟩ := h
  simp

theorem pairs_any (w : World) (b : Nat) (zs : List Int) (hb : ∀ i, i < zs.length → w.cell? ⟨b, i, none⟩ = some (.int .i64 (zs.getD i 0))) (hl : zs.length ≤ 1000) (h0 : 0 < zs.length)
    (hok : pairsOk zs = true) :
    Calls Try.prog 6 #[.slice (some ⟨b, 0, none⟩) zs.length zs.length] w fun e w' => e = .returned (.bool true) ∧ Drew w w' := by
  have hat := Lib.hid (pairsOk_at zs hok)
  have Hb := Lib.hid hb
  clear hok hb
  go_enter Try.func6, Try.ntmps6
  go_wp2
  go_loopw [3] (fun i wr => ∃ k : Nat, 2 * k ≤ zs.length + 1 ∧ i = .int .i64 (2 * k : Nat) ∧ Drew w wr) (fun i _ => zs.length + 2 - (intOf i).toNat)
  case atStart => exact ⟨0, by omega, rfl, Drew.refl w⟩
  case round =>
    obtain ⟨k, hk, rfl, hw⟩ := hrel
    by_cases hlt : 2 * k + 1 < zs.length
    · have hc0 : wr.cell? ⟨b, 2 * k, none⟩ = some (.int .i64 (zs.getD (2 * k) 0)) := by rw [hw.cell]; exact Hb.out _ (by omega)
      have hc1 : wr.cell? ⟨b, 2 * k + 1, none⟩ = some (.int .i64 (zs.getD (2 * k) 0)) := by rw [hw.cell, hat.out k hlt]; exact Hb.out _ hlt
      have i0 : (2 : Int) * k < zs.length := by omega
      have i1 : (2 : Int) * k + 1 < zs.length := by omega
      have e1 : IntKind.i64.wrap (2 * (k : Int) + 1) = 2 * (k : Int) + 1 := IntWalk.i64_in _ (by omega)
      have t0 : (2 * (k : Int)).toNat = 2 * k := by omega
      have t1 : (2 * (k : Int) + 1).toNat = 2 * k + 1 := by omega
      go_wp2
      go_quiet (fail)
      clear e1 t0 t1
      go_wp2
      go_roundw
      case rel => exact ⟨k + 1, by omega, by go_num, hw.more _⟩
      case measure => simp [intOf]; omega
    · go_wp2
      go_ret
      exact ⟨rfl, hw⟩

theorem rising_any (w : World) (b : Nat) (n : Nat) (hb : ∀ i, i < n → w.cell? ⟨b, i, none⟩ = some (.int .i64 i)) (hl : n ≤ 1000) (h0 : 0 < n) :
    Calls Try.prog 7 #[.slice (some ⟨b, 0, none⟩) n n] w fun e w' => e = .returned (.bool true) ∧ w = w' := by
  have Hb := Lib.hid hb
  clear hb
  go_enter Try.func7, Try.ntmps7
  go_wp2
  go_loopw [3] (fun i wr => ∃ k : Nat, k ≤ n ∧ i = .int .i64 k ∧ wr = w) (fun i _ => n - (intOf i).toNat)
  case atStart => exact ⟨0, by omega, rfl, rfl⟩
  case round =>
    obtain ⟨k, hk, rfl, rfl⟩ := hrel
    by_cases hlt : k < n
    · have hc0 : wr.cell? ⟨b, k, none⟩ = some (.int .i64 k) := Hb.out _ (by omega)
      go_wp2
      go_roundw
      case rel => exact ⟨k + 1, by omega, by go_num, trivial⟩
      case measure => simp [intOf]; omega
    · go_wp2
      go_ret
      exact ⟨rfl, rfl⟩
end Go.Proofs.Ytlhhipnjckogiaa
