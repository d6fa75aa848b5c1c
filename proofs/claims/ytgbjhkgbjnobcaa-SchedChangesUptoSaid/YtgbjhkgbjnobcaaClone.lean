/- The walk of 'slices.Clone' at a list of integers: a row of its own that holds the same. Conditions: the list is readable. -/
import Derived.Test.YtgbjhkgbjnobcaaTurnsMem
namespace Go.Proofs.Ytgbjhkgbjnobcaa
open Go.RowKit Trn

theorem info3 : (Try.prog.info? 3).map (fun i => (i.zero, i.size, i.bytes)) = some (some (.int .i64 0), 1, 8) := by kernel_rfl

/-- A slice value that owns the integers xs, in blocks from base on. -/
def OwnInts (w : World) (base : Nat) (v : Value) (xs : List Int) : Prop := w.ownsRow base 3 1 v xs.length (xs.map (Value.int .i64))

theorem ints_news {w : World} {B : Nat} {ad : Addr} {xs : List Int} (h : IntsAt w B (some ad) xs) : ∀ j u, (xs.map (Value.int .i64))[j]? = some u → w.cell? (ad.add j) = some u := by
  intro j u hu
  rw [List.getElem?_map] at hu
  obtain ⟨x, hx, rfl⟩ := Option.map_eq_some_iff.1 hu
  obtain ⟨b, o, e, _, hc⟩ := h (by have := (List.getElem?_eq_some_iff.1 hx).1; omega)
  injection e with e
  subst e
  rw [Go.WideShapes.add_plain]
  exact hc j x hx

set_option maxHeartbeats 1000000 in
theorem clone_any (A : Option Addr) (c : Nat) (xs : List Int) (w : World) (B : Nat) (h : IntsAt w B A xs) (hn : xs.length * 8 ≤ 140737488355328) :
    Calls Try.prog 43 #[.slice A xs.length c] w fun e w' => (∃ v, e = .returned v ∧ OwnInts w' w.heap.size v xs) ∧ Below w.heap.size w w' := by
  obtain ⟨i0, hi, hz0, hz1, hz2⟩ := info_parts info3
  have hml : xs.length ≤ maxLen := by unfold maxLen; omega
  cases A with
  | none =>
    have hx : xs.length = 0 := by
      rcases Nat.eq_zero_or_pos xs.length with h0 | h0
      · exact h0
      · obtain ⟨b, o, e, _⟩ := h h0
        cases e
    have hnil : xs = [] := List.eq_nil_of_length_eq_zero hx
    subst hnil
    have hq : ∀ w, (binOp .eql 30 (.slice none 0 c) (.slice none 0 0)).run Try.prog w = .ok (.bool true) w := fun w => Lib.run_eql_slice_nil w 30 3 none 0 c 0 0 Try.underlying30
    simp only [List.length_nil]
    go_enter Try.func43, Try.ntmps43
    go_wp2
    go_ret
    exact ⟨⟨_, rfl, by simp, .inl ⟨rfl, rfl⟩⟩, Below.refl _ _⟩
  | some ad =>
    have hnews := Lib.hid (ints_news h)
    clear h
    have hq : ∀ w, (binOp .eql 30 (.slice (some ad) xs.length c) (.slice none 0 0)).run Try.prog w = .ok (.bool false) w := fun w => Lib.run_eql_slice_nil w 30 3 (some ad) _ c 0 0 Try.underlying30
    have hown0 : (w.alloc (.cells #[] 3)).ownsRow w.heap.size 3 1 (.slice (some ⟨w.heap.size, 0, none⟩) 0 0) 0 [] :=
      ⟨rfl, .inr ⟨w.heap.size, 0, #[], rfl, Nat.le_refl _, heap_alloc_new w _, Nat.le_refl _, Nat.zero_le _, rfl, rfl⟩⟩
    have Hown0 := Lib.hid hown0
    have hlt : ∀ j u, (xs.map (Value.int .i64))[j]? = some u → (w.alloc (.cells #[] 3)).cell? (ad.add j) = some u := fun j u hu => by
      have := hnews.out j u hu
      rw [World.cell?_alloc_some _ _ _ (by rw [this]; rfl), this]
    have Hlt := Lib.hid hlt
    clear hown0 hlt
    go_enter Try.func43, Try.ntmps43
    go_wp2_with (at_builtin; refine wpList_append_own _ rfl _ _ 30 rfl w.heap.size 3 i0 (.int .i64 0) 1 8 Try.underlying30 hi hz0 hz1 hz2 rfl (by decide) _ _ _ rfl Hown0.out ad xs.length c (xs.map (Value.int .i64)) rfl ?c1 Hlt.out ?c2 ?c3 ?c4 ?c5 ?_)
    case c1 => simp
    case c2 => intro u hu; obtain ⟨x, _, rfl⟩ := List.mem_map.1 hu; rfl
    case c3 => omega
    case c4 => omega
    case c5 => simp
    · intro v' w1 hown hg _
      have Hown := Lib.hid hown
      have Hg := Lib.hid hg
      clear hown hg
      go_wp2
      go_ret
      refine ⟨⟨v', rfl, ?_⟩, ((Below.refl _ _).alloc (Nat.le_refl _) _).grown Hg.out (by simp) (by simp [Value.ownBlock])⟩
      have := Hown.out
      simpa [OwnInts] using this
end Go.Proofs.Ytgbjhkgbjnobcaa
