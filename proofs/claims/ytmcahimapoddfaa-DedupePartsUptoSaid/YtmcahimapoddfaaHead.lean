/- The walk of the law's 'head'. Conditions: none. -/
import Derived.Test.YtmcahimapoddfaaSlices
namespace Go.Proofs.Ytmcahimapoddfaa
open Go.RowKit Go.Maps

theorem eql67 (p q : Pr) (w : World) : Sem.run Try.prog (binOp .eql 67 (.agg #[.int .i64 p.pid, .int .i64 p.seq, .int .i64 p.off]) (.agg #[.int .i64 q.pid, .int .i64 q.seq, .int .i64 q.off])) w = .ok (.bool (decide (p = q))) w := by
  rw [run_eql_struct, eq67]
  rfl
def headRc : Rc := ⟨1, 3, 0, 2, 5, ⟨#[107]⟩, ByteArray.empty⟩
theorem head_fold : foldR [] [headRc] = (0, [⟨2, 5, 3⟩]) := by
  rw [foldR_ok ⟨by decide, fun i p h => by simp at h⟩]
  decide

set_option maxRecDepth 100000 in
set_option maxHeartbeats 4000000 in
theorem head_any (w : World) : Calls Try.prog 16 #[] w fun e w' => e = .returned (.bool true) ∧ Below w.heap.size w w' := by
  have hb := Blk.new w 32 #[.int .i64 1, .int .i64 3, .int .i64 0, .int .i64 2, .int .i64 5, .string ⟨#[107]⟩, .string ByteArray.empty]
  have hr : RecsAt (w.alloc (.cells #[.int .i64 1, .int .i64 3, .int .i64 0, .int .i64 2, .int .i64 5, .string ⟨#[107]⟩, .string ByteArray.empty] 32)) (w.heap.size + 1) (some ⟨w.heap.size, 0, none⟩) [headRc] := fun _ => by
    refine ⟨w.heap.size, 0, rfl, by omega, fun i r hi => ?_⟩
    have hi0 : i = 0 := by have := (List.getElem?_eq_some_iff.1 hi).1; simp at this; exact this
    subst hi0
    simp only [List.getElem?_cons_zero, Option.some.injEq] at hi
    subst hi
    exact ⟨hb.cell 0, hb.cell 1, hb.cell 2, hb.cell 3, hb.cell 4, hb.cell 5, hb.cell 6⟩
  have hsz : (w.alloc (.cells #[.int .i64 1, .int .i64 3, .int .i64 0, .int .i64 2, .int .i64 5, .string ⟨#[107]⟩, .string ByteArray.empty] 32)).heap.size = w.heap.size + 1 := by simp
  have cF := fold_any none (some ⟨w.heap.size, 0, none⟩) [] [headRc] 0 1 _ (w.heap.size + 1) (by rw [hsz]; omega) ⟨Nat.le_refl _, by decide⟩ ⟨Nat.le_refl _, by decide⟩ (fun h => absurd h (by decide)) hr
  rw [head_fold] at cF
  have hbw : Below w.heap.size w (w.alloc (.cells #[.int .i64 1, .int .i64 3, .int .i64 0, .int .i64 2, .int .i64 5, .string ⟨#[107]⟩, .string ByteArray.empty] 32)) := (Below.refl _ _).alloc (Nat.le_refl _) _
  have Hbw := Lib.hid hbw
  have Hsz := Lib.hid hsz
  clear hb hr hsz hbw
  go_enter Try.func16, Try.ntmps16
  go_wp2_with (go_at_call 10; refine cF.mono ?_; rintro e w1 ⟨hb1, v, rfl, hown⟩; obtain ⟨A, c, rfl, hlc, hcm, hp⟩ := hown.read (Nat.le_refl _); obtain ⟨b, o, rfl, hlt, hat⟩ := hp (by decide); obtain ⟨x0, x1, x2⟩ := hat 0 _ rfl; simp only [Nat.zero_mul, Nat.add_zero] at x0 x1 x2; have hbf := Hbw.out.trans (hb1.mono (by rw [Hsz.out]; omega)); have Hbf := Lib.hid hbf; clear cF hown hb1 hat hbf; have hne := eql67 ⟨2, 5, 3⟩ ⟨2, 5, 3⟩; dsimp only at hne; have hgd := guard67)
  go_ret
  exact ⟨rfl, Hbf.out⟩
end Go.Proofs.Ytmcahimapoddfaa
