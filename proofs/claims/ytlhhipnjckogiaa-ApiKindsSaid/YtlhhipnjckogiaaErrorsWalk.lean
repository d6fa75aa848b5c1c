/- The walk of ApiErrors and of ApiBounds: one call of 'pairs' over a list of constants. Conditions: none. -/
import Derived.Test.YtlhhipnjckogiaaPairs
namespace Go.Proofs.Ytlhhipnjckogiaa
open Go.RowKit

theorem wpList_ints {ops : Array Oper} {rest : List Oper} {o : Oper} {a : Act} {w : World} {Q : Exit → Act → World → Prop} (zs : List Int) (n : Nat) (hg : o.guard = none)
    (hop : o.op = .buildSlice 23 n (zs.zipIdx.map fun p => (p.2, Operand.const (.int .i64 p.1))).toArray) {v : Value} {w' : World}
    (hrun : (Instr.buildSlice 23 n (zs.zipIdx.map fun p => (p.2, Value.int .i64 p.1)).toArray).run Try.prog w = .ok v w')
    (h : wpList Try.prog ops Q rest (a.put o.dst v) w') : wpList Try.prog ops Q (o :: rest) a w := by
  refine wpList_plain hg fun K hK => ?_
  have e : (zs.zipIdx.map fun p => (p.2, Operand.const (.int .i64 p.1))).toArray.map (fun (x : Nat × Operand) => (x.1, a.eval x.2)) = (zs.zipIdx.map fun p => (p.2, Value.int .i64 p.1)).toArray := by
    simp [Act.eval]
  unfold Oper.wp
  simp only [execOp, hop]
  rw [show (fun x : Nat × Operand => (x.fst, a.eval x.snd)) = _ from rfl, e]
  simp only [Sem.run_bind, hrun, Result.andThen_ok, Sem.run_pure]
  exact hK _ _ h

def errorsList : List Int := [0, 0, 1, 1, 2, 2, 3, 3, 4, 4, 10, 10, 11, 11, 12, 12, 13, 13, 14, 14, 20, 20, 21, 21, 30, 30, 31, 31, 32, 32, 33, 33, 34, 34, 35, 35, 36, 36, 40, 40, 41, 41, 42, 42, 43, 43, 44, 44, 45, 45, 50, 50, 51, 51, 52, 52, 53, 53, 54, 54, 60, 60, 70, 70, 71, 71, 72, 72, 74, 74, 90, 90, 91, 91, 92, 92, 93, 93, 100, 100, 101, 101, 102, 102, 103, 103, 104, 104, 105, 105, 110, 110, 111, 111, 112, 112, 120, 120, 121, 121, 122, 122, 130, 130, 131, 131, 141, 141, 142, 142, 143, 143, 150, 150, 151, 151, 152, 152, 153, 153, 160, 160, 161, 161, 162, 162, 163, 163, 173, 173, 180, 180, 182, 182, 183, 183, 184, 184, 185, 185, 190, 190, 191, 191, 200, 200, 201, 201, 202, 202, 203, 203, 220, 220, 221, 221, 230, 230]
theorem errors_parts : (errorsList.zipIdx.map fun p => (p.2, Operand.const (.int .i64 p.1))).length = 158 := by decide +kernel
/-- The list of constants, laid: one new block. -/
theorem errors_laid (w : World) : (Instr.buildSlice 23 158 (errorsList.zipIdx.map fun p => (p.2, Value.int .i64 p.1)).toArray).run Try.prog w =
    .ok (.slice (some ⟨w.heap.size, 0, none⟩) 158 158) (w.alloc (.cells (errorsList.map (Value.int .i64)).toArray 3)) := by kernel_rfl
theorem errors_ok : pairsOk errorsList = true := by decide +kernel
theorem errors_cell (w : World) (i : Nat) (h : i < errorsList.length) : (w.alloc (.cells (errorsList.map (Value.int .i64)).toArray 3)).cell? ⟨w.heap.size, i, none⟩ = some (.int .i64 (errorsList.getD i 0)) := by
  rw [World.cell?_alloc_new]
  simp [List.getElem?_eq_getElem h, List.getD_eq_getElem?_getD]

theorem errors_any (w : World) : Calls Try.prog 3 #[] w fun e w' => e = .returned (.bool true) ∧ Below w.heap.size w w' := by
  go_enter Try.func3, Try.ntmps3
  have tok : True := trivial
  go_wp2_with (have _t := tok; refine wpList_ints errorsList _ rfl (by kernel_rfl) (errors_laid _) ?_; clear _t tok)
  go_wp2_with (go_at_call 6; refine (pairs_any _ _ errorsList (errors_cell w) (by decide +kernel) (by decide +kernel) errors_ok).mono ?_; rintro e w' ⟨rfl, hw⟩)
  go_ret
  refine ⟨rfl, ?_⟩
  obtain ⟨n, rfl⟩ := hw
  exact below_drewN ((Below.refl _ _).alloc (Nat.le_refl _) _) n

def boundsList : List Int := [4096, 4096, 5, 5, 258, 258, 2048, 2048, 32, 32, 65536, 65536, 1073741824, 1073741824, 4096, 4096, 64, 64, 1024, 1024, 1099511627776, 1099511627776, 1125899906842624, 1125899906842624, 4294967296, 4294967296, 1099511627776, 1099511627776, 256, 256, 65536, 65536, 21, 21, 17, 17, 64, 64, 64, 64, 16, 16, 24, 24, 1073741824, 1073741824, 1099511627776, 1099511627776, 1073741824, 1073741824, 1048576, 1048576, 1073741824, 1073741824, 64, 64, 4096, 4096, 32, 32, 1048576, 1048576, 65536, 65536, 16, 16, 24, 24, 1099511627776, 1099511627776, 64, 64, 65536, 65536, 8, 8, 4, 4, 256, 256, 16, 16, 4096, 4096, 4096, 4096, 169, 169, 173, 173, 174, 174, 177, 177, 179, 179, 183, 183, 197, 197, 1, 1, 2, 2, 1, 1, 2, 2, 3, 3, 4, 4, 5, 5, 6, 6, 7, 7, 8, 8, 9, 9, 10, 10, 11, 11, 12, 12, 13, 13, 14, 14, 15, 15, 64, 64]
theorem bounds_parts : (boundsList.zipIdx.map fun p => (p.2, Operand.const (.int .i64 p.1))).length = 136 := by decide +kernel
/-- The list of constants, laid: one new block. -/
theorem bounds_laid (w : World) : (Instr.buildSlice 23 136 (boundsList.zipIdx.map fun p => (p.2, Value.int .i64 p.1)).toArray).run Try.prog w =
    .ok (.slice (some ⟨w.heap.size, 0, none⟩) 136 136) (w.alloc (.cells (boundsList.map (Value.int .i64)).toArray 3)) := by kernel_rfl
theorem bounds_ok : pairsOk boundsList = true := by decide +kernel
theorem bounds_cell (w : World) (i : Nat) (h : i < boundsList.length) : (w.alloc (.cells (boundsList.map (Value.int .i64)).toArray 3)).cell? ⟨w.heap.size, i, none⟩ = some (.int .i64 (boundsList.getD i 0)) := by
  rw [World.cell?_alloc_new]
  simp [List.getElem?_eq_getElem h, List.getD_eq_getElem?_getD]

theorem bounds_any (w : World) : Calls Try.prog 4 #[] w fun e w' => e = .returned (.bool true) ∧ Below w.heap.size w w' := by
  go_enter Try.func4, Try.ntmps4
  have tok : True := trivial
  go_wp2_with (have _t := tok; refine wpList_ints boundsList _ rfl (by kernel_rfl) (bounds_laid _) ?_; clear _t tok)
  go_wp2_with (go_at_call 6; refine (pairs_any _ _ boundsList (bounds_cell w) (by decide +kernel) (by decide +kernel) bounds_ok).mono ?_; rintro e w' ⟨rfl, hw⟩)
  go_ret
  refine ⟨rfl, ?_⟩
  obtain ⟨n, rfl⟩ := hw
  exact below_drewN ((Below.refl _ _).alloc (Nat.le_refl _) _) n
end Go.Proofs.Ytlhhipnjckogiaa
