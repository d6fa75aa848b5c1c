/- The walk of slices.Delete at queues, one queue. Conditions: the list's block is there, as long as the list. -/
import Derived.Test.YtgbjhkgbjnobcaaEnter
import Derived.Lib.SliceRun
namespace Go.Proofs.Ytgbjhkgbjnobcaa
open Go.RowKit Trn Go.Lib

/-- 'clear' of one element of four cells. -/
theorem run_clear_queue (w : World) (ty : TypeId) (b o c : Nat) (hc : ∀ j, j < 4 → (w.cell? ⟨b, o + j, none⟩).isSome = true) (hf : ∀ j, j < 4 → w.frozen? ⟨b, o + j, none⟩ = false) :
    (Builtin.clear_ #[32] ty #[.slice (some ⟨b, o, none⟩) 1 c]).run Try.prog w = .ok (.tuple #[]) (w.setCells b o (flat [zrow])) := by
  obtain ⟨i0, hi0, hz0, hzs, hzb⟩ := info_parts info51
  have hst := run_storeCells_cells (P := Try.prog) b o (flat [zrow]) 0 w (by simpa [flat] using hc) (by simpa [flat] using hf) (by intro v hv; simp [flat, zrow] at hv; rcases hv with rfl | rfl | rfl | rfl <;> rfl)
  simp only [Nat.add_zero] at hst
  have hzc : (Builtin.zeroCells (Value.agg #[.int .i64 0, .int .i64 0, .int .i64 0, .slice none 0 0]).cells 1).toList = flat [zrow] := by
    rw [zero_rows]
    rfl
  simp [Builtin.clear_, run_underlying Try.underlying32, zeroValue, typeInfo, hi0, hz0, hzc, hst]
theorem wp_clear_run {P : Program} (w : World) {o : Oper} {a : Act} {K : Act → World → Prop} {Q : Exit → Act → World → Prop} (s : Operand) (t : TypeId)
    (ho : o.op = .call { callee := .builtin .clear, args := #[s], argTypes := #[t] }) (vs : Value) (hs : a.eval s = vs)
    (v' : Value) (w' : World) (hr : (Builtin.clear_ #[t] o.type #[vs]).run P w = .ok v' w') (h : K (a.put o.dst v') w') : o.wp P a w K Q := by
  unfold Oper.wp execOp
  simp only [ho, resolve, invoke, builtin, Sem.run_bind, Sem.run_pure, Result.andThen_ok, List.map_toArray, List.map_cons, List.map_nil, hs, hr]
  exact h
theorem wpList_clear_run {P : Program} (w : World) {ops : Array Oper} {rest : List Oper} {o : Oper} {a : Act} {Q : Exit → Act → World → Prop} (hgd : o.guard = none) (s : Operand) (t : TypeId)
    (ho : o.op = .call { callee := .builtin .clear, args := #[s], argTypes := #[t] }) (vs : Value) (hs : a.eval s = vs)
    (v' : Value) (w' : World) (hr : (Builtin.clear_ #[t] o.type #[vs]).run P w = .ok v' w') (h : wpList P ops Q rest (a.put o.dst v') w') : wpList P ops Q (o :: rest) a w :=
  wpList_plain hgd fun _ hK => wp_clear_run w s t ho vs hs v' w' hr (hK _ _ h)

set_option maxHeartbeats 1600000 in
set_option maxRecDepth 1000000 in
theorem delete_walk (b N i : Nat) (l : List R4) (w : World) (hi : i < N + 1) (hn : N ≤ 31) (hl : l.length = N + 1) (hb : QBlk w b l) (h1c : ∀ v ∈ flat l, v.oneCell' = true) :
    Calls Try.prog 41 #[.slice (some ⟨b, 0, none⟩) (N + 1) (N + 1), .int .i64 i, .int .i64 ((i : Int) + 1)] w fun e w' => e = .returned (.slice (some ⟨b, 0, none⟩) N (N + 1)) ∧
      w' = (w.drew.setCells b (i * 4) (flat (l.drop (i + 1)))).setCells b (N * 4) (flat [zrow]) := by
  obtain ⟨i0, hi0, hz0, hz1, hz2⟩ := info_parts info51
  have hfl : (flat l).length = (N + 1) * 4 := by rw [flat_len, hl]
  have hcs : ∀ j, w.cell? ⟨b, j, none⟩ = (flat l)[j]? := fun j => by rw [Blk.cell hb]; simp
  have hsome : ∀ j, j < (N + 1) * 4 → (w.cell? ⟨b, j, none⟩).isSome = true := fun j hj => by rw [hcs, List.getElem?_eq_getElem (by omega)]; rfl
  have hfz : ∀ j, w.frozen? ⟨b, j, none⟩ = false := fun j => Blk.frozen hb j
  have hml : (flat (l.drop (i + 1))).length = (N - i) * 4 := by rw [flat_len, List.length_drop, hl]; omega
  obtain ⟨A, hA, hnews⟩ : ∃ A : Addr, (if N = i then some (⟨b, 0, none⟩ : Addr) else some ⟨b, (i + 1) * 4, none⟩) = some A ∧ Hid (∀ j u, (flat (l.drop (i + 1)))[j]? = some u → w.drew.cell? (A.add j) = some u) := by
    by_cases h : N = i
    · refine ⟨⟨b, 0, none⟩, by rw [if_pos h], fun j u hu => ?_⟩
      have h0 : (flat (l.drop (i + 1))).length = 0 := by rw [hml]; omega
      rw [List.length_eq_zero_iff.1 h0] at hu
      simp at hu
    · refine ⟨⟨b, (i + 1) * 4, none⟩, by rw [if_neg h], fun j u hu => ?_⟩
      rw [Addr.add_lit]
      show w.cell? ⟨b, (i + 1) * 4 + j, none⟩ = some u
      rw [← flat_drop, List.getElem?_drop] at hu
      rw [hcs]
      exact hu
  have s1 : Hid ((flat (l.drop (i + 1))).length = (N - i) * 4) := hml
  have s2 : Hid (∀ u ∈ flat (l.drop (i + 1)), u.oneCell' = true) := fun u hu => h1c u (by rw [← flat_drop] at hu; exact List.mem_of_mem_drop hu)
  have s3 : Hid (∀ j, j < (flat (l.drop (i + 1))).length → (w.drew.cell? ⟨b, 0 + i * 4 + j, none⟩).isSome = true ∧ w.drew.frozen? ⟨b, 0 + i * 4 + j, none⟩ = false) := by
    intro j hj
    rw [hml] at hj
    rw [Nat.zero_add]
    exact ⟨hsome _ (by omega), hfz _⟩
  have hcl : ∀ ty c, (Builtin.clear_ #[32] ty #[.slice (some ⟨b, N * 4, none⟩) 1 c]).run Try.prog (w.drew.setCells b (0 + i * 4) (flat (l.drop (i + 1)))) = .ok (.tuple #[]) ((w.drew.setCells b (0 + i * 4) (flat (l.drop (i + 1)))).setCells b (N * 4) (flat [zrow])) := fun ty c =>
    run_clear_queue _ ty b (N * 4) c (fun j hj => isSome_setCells _ _ _ _ (fun t ht => (s3 t ht).1) _ (hsome _ (by omega))) (fun j hj => by rw [World.frozen?_setCells]; exact hfz _)
  have hij : ((i : Int) == (i : Int) + 1) = false := by simp; omega
  have hij2 : ¬ (i : Int) = (i : Int) + 1 := by omega
  have hp0 : (0 : Int) ≤ (i : Int) + 1 := by omega
  have hp1 : (i : Int) + 1 ≤ (N : Int) + 1 := by omega
  have hp2 : ((i : Int) + 1).toNat = i + 1 := by omega
  have hp3 : (i : Int) ≤ (i : Int) + 1 := by omega
  have hin : i ≤ N + 1 := by omega
  have hiI : (i : Int) ≤ (N : Int) + 1 := by omega
  have hiN : i ≤ N := by omega
  have hk : i + (N - i) = N := by omega
  have Hk := Lib.hid hk
  simp only [Nat.zero_add] at hcl
  clear hk hml hfl hcs hsome hfz hb
  go_enter Try.func41, Try.ntmps41
  go_wp2_with fail
  go_region_law (refine step_append_room rfl (.tmp 22) (.tmp 25) 32 rfl 51 i0 4 Try.underlying32 hi0 hz1 b 0 i (N + 1) (by simp [Act.eval, Act.put]) A (N - i) (N - i) (flat (l.drop (i + 1))) (by simp [Act.eval, Act.put]) s1.out hnews.out s2.out (by omega) s3.out ?_)
  go_wp2_with (at_builtin; refine wpList_clear_run _ rfl _ _ rfl _ rfl _ _ (hcl _ _) ?_)
  go_ret
  exact ⟨rfl, rfl⟩
end Go.Proofs.Ytgbjhkgbjnobcaa
