/- The walk of ApiKinds: calls of 'rising', one behind the other. Conditions: none. -/
import Derived.Test.YtlhhipnjckogiaaPairs
namespace Go.Proofs.Ytlhhipnjckogiaa
open Go.RowKit

/-- The cells of a new block that holds 0, 1, 2, .. -/
theorem kinds_cells (w : World) (cs : Array Value) (b n : Nat) (hb : b = w.heap.size) (h : cs = ((List.range n).map fun i => Value.int .i64 (Int.ofNat i)).toArray) :
    ∀ i, i < n → (w.alloc (.cells cs 3)).cell? ⟨b, i, none⟩ = some (.int .i64 i) := by
  intro i hi
  subst hb; rw [World.cell?_alloc_new, h]
  simp [hi]

set_option maxRecDepth 100000 in
set_option maxHeartbeats 2000000 in
theorem kinds_any (w : World) : Calls Try.prog 5 #[] w fun e w' => e = .returned (.bool true) ∧ Below w.heap.size w w' := by
  go_enter Try.func5, Try.ntmps5
  go_wp2_with (go_at_call 7; go_must (refine (rising_any _ _ _ (kinds_cells _ _ _ _ (by simp) rfl) (by omega) (by omega)).mono ?_); rintro e w' ⟨rfl, rfl⟩)
  go_ret
  exact ⟨rfl, by repeat (first | exact Below.refl _ _ | (refine Below.alloc ?_ (by simp; try omega) _))⟩
end Go.Proofs.Ytlhhipnjckogiaa
