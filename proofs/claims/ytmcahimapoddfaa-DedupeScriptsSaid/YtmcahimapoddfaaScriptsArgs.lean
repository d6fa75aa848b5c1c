/- How a script reads; the walk of 'DedupeScripts' for whatever is handed in. Conditions: none beyond what a list bears. -/
import Derived.Test.YtmcahimapoddfaaScripts
import Derived.Test.YtmcahimapoddfaaApartArgs
namespace Go.Proofs.Ytmcahimapoddfaa
open Go.ChangeShapes Go.WideShapes Go.RowKit
theorem cells55 : Try.prog.cellsOf 55 = 4 := by kernel_rfl
theorem list4 {α : Type} {l : List α} (h : l.length = 4) : ∃ a b c d, l = [a, b, c, d] := by
  match l, h with
  | [a, b, c, d], _ => exact ⟨a, b, c, d, rfl⟩
theorem trod_struct4' {H : Type} {enc : TypeId × Value → H} {P : Program} {w : World} {base : Nat} {spare : Nat → Bool} {held : Bool} {t : TypeId} {f0 f1 f2 f3 : Field} {fuel : Nat} {cs : List Value} {x : DataW H × List MemPlace} (ht : P.underlying t = some (.struct #[f0, f1, f2, f3])) (h : DataW.trod enc P w base spare held fuel t cs = some x) :
    ∃ y0 y1 y2 y3 n, cs.length = P.cellsOf t ∧ DataW.trod enc P w base spare held n f0.type ((cs.drop f0.offset).take (P.cellsOf f0.type)) = some y0 ∧
      DataW.trod enc P w base spare held n f1.type ((cs.drop f1.offset).take (P.cellsOf f1.type)) = some y1 ∧ DataW.trod enc P w base spare held n f2.type ((cs.drop f2.offset).take (P.cellsOf f2.type)) = some y2 ∧
      DataW.trod enc P w base spare held n f3.type ((cs.drop f3.offset).take (P.cellsOf f3.type)) = some y3 := by
  obtain ⟨xs, n, _, rfl, hl, hlen, hf⟩ := DataW.trod_struct ht h
  match xs, hlen with
  | [y0, y1, y2, y3], _ => exact ⟨y0, y1, y2, y3, n, hl, by simpa using hf 0 f0 rfl, by simpa using hf 1 f1 rfl, by simpa using hf 2 f2 rfl, by simpa using hf 3 f3 rfl⟩
instance : Inhabited Sp := ⟨⟨0, 0, 0, 0⟩⟩
section
variable {H : Type} {enc : TypeId × Value → H} {w : World} {base : Nat} {spare : Nat → Bool} {held : Bool}
/-- A step: its kind, and three numbers. -/
theorem open_step {fuel : Nat} {cs : List Value} {x : DataW H × List MemPlace} (h : DataW.trod enc Try.prog w base spare held fuel 55 cs = some x) : ∃ p : Sp, cs = [.int .i64 p.kind, .int .i64 p.pid, .int .i64 p.seq, .int .i64 p.off] := by
  obtain ⟨y0, y1, y2, y3, n, hl, h0, h1, h2, h3⟩ := trod_struct4' Try.underlying55 h
  rw [cells55] at hl
  obtain ⟨a, b, c, d, rfl⟩ := list4 hl
  simp only [cells2, cells3, List.drop_zero, List.drop_succ_cons, List.take_succ_cons, List.take_zero] at h0 h1 h2 h3
  obtain ⟨i, rfl, _⟩ := int_of3 h0
  obtain ⟨j, rfl, _⟩ := int_of h1
  obtain ⟨k, rfl, _⟩ := int_of h2
  obtain ⟨l, rfl, _⟩ := int_of h3
  exact ⟨⟨i, j, k, l⟩, rfl⟩
set_option maxRecDepth 100000 in
/-- A script, handed in. -/
theorem open_steps {W : World} {v : Value} {d : DataW H} {p : List MemPlace} (hv : Value.okWide Try.prog W .any base 48 v) (h : DataW.Trod enc Try.prog W 0 (fun _ => true) true 48 v d p) : ∃ ss, SS W v ss := by
  obtain ⟨A, n, cap, rfl⟩ := okWide_slice Try.underlying48 hv
  obtain ⟨fuel, hf⟩ := h
  obtain ⟨A', n', cap', hcs, hn, hm, hnil, _, hat⟩ := open_rows Try.underlying48 cells55 (by omega) hf
  simp only [Value.cells, List.cons.injEq, Value.slice.injEq, and_true] at hcs
  obtain ⟨rfl, rfl, rfl⟩ := hcs
  rcases Nat.eq_zero_or_pos n with h0 | h0
  · subst h0
    exact ⟨[], A, cap, rfl, Nat.zero_le _, hm, fun h => absurd h (by decide)⟩
  · obtain ⟨b, o, hA, hb, hrow⟩ := hat h0
    have hch : ∀ i, i < n → ∃ q : Sp, W.cell? ⟨b, o + i * 4, none⟩ = some (.int .i64 q.kind) ∧ W.cell? ⟨b, o + i * 4 + 1, none⟩ = some (.int .i64 q.pid) ∧ W.cell? ⟨b, o + i * 4 + 2, none⟩ = some (.int .i64 q.seq) ∧ W.cell? ⟨b, o + i * 4 + 3, none⟩ = some (.int .i64 q.off) := fun i hi => by
      obtain ⟨cs', m, y, hl, hc, ht⟩ := hrow i hi
      obtain ⟨q, rfl⟩ := open_step ht
      exact ⟨q, hc 0 (by omega), hc 1 (by omega), hc 2 (by omega), hc 3 (by omega)⟩
    obtain ⟨F, hF⟩ := Go.Deep.choose_lt hch
    have hlen : ((List.range n).map F).length = n := by simp
    refine ⟨(List.range n).map F, A, cap, by rw [hlen], by rw [hlen]; exact hn, hm, fun _ => ⟨b, o, hA, hb, fun i z hz => ?_⟩⟩
    have hi : i < n := by have := (List.getElem?_eq_some_iff.1 hz).1; simpa using this
    have e : F i = z := by simpa [List.getElem?_map, List.getElem?_range hi] using hz
    rw [← e]
    exact hF i hi
end

set_option maxRecDepth 100000 in
theorem scripts_walk {H : Type} (enc : TypeId × Value → H) (W : World) (base : Nat) (args : Array Value) (ds gs : List (DataW H)) (before : List MemPlace)
    (hval : ∀ (j : Nat) t v, Try.f6.params[j]? = some t → args[j]? = some v → Value.okWide Try.prog W .any base t v)
    (hW : DataW.Whole enc Try.prog Try.f6.params.toList Rows.dedupeScriptsSpec.vars false W args.toList ds gs before)
    (hsz : (DataW.weightsEach Try.prog (Try.f6.params.toList ++ Rows.dedupeScriptsSpec.plain.varTypes Try.prog) (ds ++ gs)).all (· ≤ reachBytes) = true) :
    Calls Try.prog 6 args W fun e W' => e = .returned (.bool true) ∧ Below W.heap.size W W' := by
  obtain ⟨p, q, hA0, hV, rfl, hfz, hnd⟩ := hW
  have hA : DataW.TrodAll enc Try.prog W 0 (fun _ => true) true Try.f6.params.toList args.toList ds p := hA0
  rw [Try.params6] at hA hval hsz
  obtain ⟨v0, vs0, d0, ds0, p0, q0, hargs, rfl, rfl, h0, r0⟩ := trodAll_cons hA
  obtain ⟨v1, vs1, d1, ds1, p1, q1, rfl, rfl, rfl, h1, r1⟩ := trodAll_cons r0
  obtain ⟨rfl, rfl, rfl⟩ := trodAll_nil r1
  obtain rfl : args = #[v0, v1] := by cases args; simp_all
  have hw := weights_of hsz
  obtain ⟨ps, k0, _, l0⟩ := open_prods (hval 0 22 v0 rfl rfl) h0
  obtain ⟨ss, k1⟩ := open_steps (hval 1 48 v1 rfl rfl) h1
  exact scripts_any v0 v1 ps ss W k0 k1 (by have := l0 hw; omega)
end Go.Proofs.Ytmcahimapoddfaa
