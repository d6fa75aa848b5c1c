/- The walk of the law 'SchedClass': the program's and the document's 'Class' hand back the same. Conditions: none. -/
import Derived.Test.YtgbjhkgbjnobcaaClassRef
import Derived.Test.YtgbjhkgbjnobcaaFrame
namespace Go.Proofs.Ytgbjhkgbjnobcaa
open Go.RowKit Go.ChangeShapes Go.WideShapes

theorem eql_same (f : Nat → Int) (w : World) : (binOp .eql 24 (.agg #[.int .i64 (f 0), .int .i64 (f 1), .int .i64 (f 2), .int .i64 (f 3)]) (.agg #[.int .i64 (f 0), .int .i64 (f 1), .int .i64 (f 2), .int .i64 (f 3)])).run Try.prog w = .ok (.bool true) w := by
  have hfs : Try.prog.fieldsOf 24 = #[{ name := "Waits", type := 22, offset := 0, embedded := false, tag := "", pkgPath := "", byteOffset := 0 }] := by kernel_rfl
  rw [run_eql_struct, run_equalIn_struct _ _ _ _ _ (by kernel_rfl) (by kernel_rfl), hfs]
  have hp : ∀ (a b c d : Value) w, (part 22 #[a, b, c, d] 0).run Try.prog w = .ok (.agg #[a, b, c, d]) w := fun a b c d w => by kernel_rfl
  have h3 : Try.prog.underlying 3 = some (.int .i64) := Try.underlying3
  have hi : ∀ (d : Nat) (x : Int) (w : World), (Op.equalIn (d + 1) 3 (.int .i64 x) (.int .i64 x)).run Try.prog w = .ok true w := fun d x w => by
    rw [run_equalIn_int w d 3 .i64 .i64 x x h3]; simp
  have hq0 : ∀ (a b c d : Value) w, (part 3 #[a, b, c, d] 0).run Try.prog w = .ok a w := fun a b c d w => by kernel_rfl
  have hq1 : ∀ (a b c d : Value) w, (part 3 #[a, b, c, d] 1).run Try.prog w = .ok b w := fun a b c d w => by kernel_rfl
  have hq2 : ∀ (a b c d : Value) w, (part 3 #[a, b, c, d] 2).run Try.prog w = .ok c w := fun a b c d w => by kernel_rfl
  have hq3 : ∀ (a b c d : Value) w, (part 3 #[a, b, c, d] 3).run Try.prog w = .ok d w := fun a b c d w => by kernel_rfl
  have hz : ∀ w, (sizeOf 3).run Try.prog w = .ok 1 w := fun w => by kernel_rfl
  simp only [Op.eqFields, Sem.run_bind, hp, Result.andThen_ok, ne_eq, String.reduceEq, not_false_eq_true, if_true]
  rw [show (9999 : Nat) = 9998 + 1 from rfl, Op.equalIn]
  simp only [Sem.run_bind, run_underlying Try.underlying22, Result.andThen_ok, hz]
  simp [Std.Legacy.Range.forIn_eq_forIn_range', List.range', hq0, hq1, hq2, hq3, hi]

/-- Old cells and old marks read as before. -/
theorem bcell {B : Nat} {W w1 : World} (hb : Below B W w1) : (∀ b o, b < B → w1.cell? ⟨b, o, none⟩ = W.cell? ⟨b, o, none⟩) ∧ (∀ b o, b < B → w1.frozen? ⟨b, o, none⟩ = W.frozen? ⟨b, o, none⟩) :=
  ⟨fun b o h => hb.cell (p := ⟨b, o, none⟩) h, fun b o h => hb.frozen (p := ⟨b, o, none⟩) h⟩

set_option maxHeartbeats 1000000 in
theorem classLaw_any (c : Nat → Int) (wk : Nat → Bool) (pick : Int) (w : World) :
    Calls Try.prog 3 #[.agg (c4 c), .agg #[.bool (wk 0), .bool (wk 1), .bool (wk 2), .bool (wk 3)], .int .i64 pick] w fun e w' => e = .returned (.bool true) ∧ Below w.heap.size w w' := by
  have heq := eql_same (Cls.wait c wk (Cls.served c wk pick))
  unfold c4
  go_enter Try.func3, Try.ntmps3
  go_wp2_with fail
  refine (class_any c wk pick _).mono ?_
  rintro e w1 ⟨rfl, hb1⟩
  unfold c4
  have hz := hb1.size
  have hs := fun (b o : Nat) (h : b < w.heap.size + 1 + 1) => hb1.cell (p := ⟨b, o, none⟩) (by simpa using h)
  have a0 := hs w.heap.size 0 (by omega)
  have a1 := hs w.heap.size 1 (by omega)
  have a2 := hs w.heap.size 2 (by omega)
  have a3 := hs w.heap.size 3 (by omega)
  have b0 := hs (w.heap.size + 1) 0 (by omega)
  have b1 := hs (w.heap.size + 1) 1 (by omega)
  have b2 := hs (w.heap.size + 1) 2 (by omega)
  have b3 := hs (w.heap.size + 1) 3 (by omega)
  simp at a0 a1 a2 a3 b0 b1 b2 b3 hz
  have z1 : w.heap.size < w1.heap.size := by omega
  have z2 : w.heap.size + 1 < w1.heap.size := by omega
  have Hb := Lib.hid hb1
  clear hs hb1 hz
  go_wp2_with fail
  refine (classRef_any c wk pick _).mono ?_
  rintro e w2 ⟨rfl, hb2⟩
  unfold c4
  have hz2 := hb2.size
  have q0 := hb2.cell (p := ⟨w1.heap.size, 0, none⟩) (by simp)
  have q1 := hb2.cell (p := ⟨w1.heap.size, 1, none⟩) (by simp)
  have q2 := hb2.cell (p := ⟨w1.heap.size, 2, none⟩) (by simp)
  have q3 := hb2.cell (p := ⟨w1.heap.size, 3, none⟩) (by simp)
  simp at q0 q1 q2 q3 hz2
  have z3 : w1.heap.size < w2.heap.size := by omega
  have Hb2 := Lib.hid hb2
  clear hb2 hz2 a0 a1 a2 a3 b0 b1 b2 b3 z1 z2
  go_wp2_with fail
  go_ret
  refine ⟨rfl, ?_⟩
  have e1 : Below w.heap.size w w1 := (((Below.refl _ _).alloc (Nat.le_refl _) _).alloc (by simp) _).trans (Hb.out.mono (by simp; omega))
  exact ((e1.alloc e1.size _).trans (Hb2.out.mono (by have := e1.size; simp; omega))).alloc (by have := e1.size; omega) _
end Go.Proofs.Ytgbjhkgbjnobcaa
