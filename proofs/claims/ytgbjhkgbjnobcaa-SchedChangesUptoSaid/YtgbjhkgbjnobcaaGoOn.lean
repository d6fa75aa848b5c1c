/- The walks of 'sched.goOn', of slices.ContainsFunc and slices.IndexFunc at 'who waits'. Conditions: the turns are readable. -/
import Derived.Test.YtgbjhkgbjnobcaaCopied
import Derived.Test.YtgbjhkgbjnobcaaNextPlain
namespace Go.Proofs.Ytgbjhkgbjnobcaa
open Go.RowKit Trn

/-- Only block b was written. -/
structure Touch (b : Nat) (w w' : World) : Prop where
  os : w'.os = w.os
  tape : w'.tape = w.tape
  output : w'.output = w.output
  size : w'.heap.size = w.heap.size
  block : ∀ k, k ≠ b → w'.heap[k]? = w.heap[k]?
theorem Touch.refl (b : Nat) (w : World) : Touch b w w := ⟨rfl, rfl, rfl, rfl, fun _ _ => rfl⟩
theorem Touch.trans {b : Nat} {w w1 w2 : World} (h : Touch b w w1) (k : Touch b w1 w2) : Touch b w w2 :=
  ⟨k.os.trans h.os, k.tape.trans h.tape, k.output.trans h.output, k.size.trans h.size, fun j hj => (k.block j hj).trans (h.block j hj)⟩
theorem Touch.drew {b : Nat} {w w' : World} (h : Touch b w w') : Touch b w w'.drew := ⟨h.os, h.tape, h.output, h.size, h.block⟩
theorem Touch.set_ {b : Nat} {w w' : World} (h : Touch b w w') (o : Nat) (u : Value) : Touch b w (w'.setCell ⟨b, o, none⟩ u) := by
  have hb := (Below.refl b w').setCell (p := ⟨b, o, none⟩) (Nat.le_refl _) u
  refine ⟨hb.os.trans h.os, hb.tape.trans h.tape, hb.output.trans h.output, ?_, fun k hk => (Below.heap_setCell w' ⟨b, o, none⟩ u k hk).trans (h.block k hk)⟩
  rw [← h.size]
  simp
theorem Touch.below {b B : Nat} {w w' : World} (h : Touch b w w') (hB : B ≤ b) : Below B w w' := ⟨h.os, h.tape, h.output, by rw [h.size]; exact Nat.le_refl _, fun k hk => h.block k (by omega)⟩
theorem Touch.blk {b g : Nat} {w w' : World} {ty : TypeId} {cs : Array Value} (h : Touch b w w') (hg : Blk w g ty cs) (hne : g ≠ b) : Blk w' g ty cs := (h.block g hne).trans hg

set_option maxHeartbeats 1000000 in
theorem goOn_any (b : Nat) (A : Option Addr) (n c : Nat) (at_ : Int) (fr : Bool) (w : World) (hb : Blk w b 34 #[.slice A n c, .int .i64 at_, .bool fr]) (hn : 0 < n) (hn2 : n ≤ 32) (h0 : 0 ≤ at_) (h1 : at_ < n) :
    Calls Try.prog 35 #[.pointer (some ⟨b, 0, none⟩)] w fun e w' => e = .returned (.tuple #[]) ∧ Touch b w w' ∧ Blk w' b 34 #[.slice A n c, .int .i64 ((at_ + 1) % n), .bool false] := by
  have c0 := hb.cell 0
  have c1 := hb.cell 1
  have c2 := hb.cell 2
  have f1 := hb.frozen 1
  have f2 := hb.frozen 2
  simp at c0 c1 c2
  have Hb := Lib.hid hb
  clear hb
  have hrem : (at_ + 1).tmod n = (at_ + 1) % n := Int.tmod_eq_emod_of_nonneg (by omega)
  have hz : ¬ n = 0 := by omega
  have hz2 : ((n : Int) == 0) = false := by simp only [beq_eq_false_iff_ne, ne_eq]; omega
  have hwr : IntKind.i64.wrap (at_ + 1) = at_ + 1 := by rw [IntKind.wrap_i64]; omega
  go_enter Try.func35, Try.ntmps35
  go_wp2_with fail
  go_still_tail 14, (by kernel_rfl)
  change wpList _ _ _ _ _ w.drew
  go_wp2
  refine bodyPost_end (results_none rfl _ _ _) rfl ⟨rfl, (((Touch.refl b w).set_ 1 _).set_ 2 _).drew, ?_⟩
  have := (((Hb.out.set_ 1 (.int .i64 ((at_ + 1) % n))).set_ 2 (.bool false)).drew)
  simpa using this

theorem waits_any (q : Qu) (A : Option Addr) (c : Nat) (w : World) : Calls Try.prog 34 #[.agg #[.int .i64 q.id, .int .i64 q.qu, .int .i64 q.de, .slice A q.cs.length c]] w fun e w' => e = .returned (.bool (decide (0 < q.cs.length))) ∧ Below w.heap.size w w' := by
  by_cases h : 0 < q.cs.length
  · rw [decide_eq_true h]
    go_enter Try.func34, Try.ntmps34
    go_wp2
    go_ret
    refine ⟨by simp <;> omega, (Below.refl _ _).alloc (Nat.le_refl _) _⟩
  · rw [decide_eq_false h]
    go_enter Try.func34, Try.ntmps34
    go_wp2
    go_ret
    refine ⟨by simp <;> omega, (Below.refl _ _).alloc (Nat.le_refl _) _⟩

set_option maxHeartbeats 1000000 in
theorem index_any (A : Option Addr) (c : Nat) (qs : List Qu) (w : World) (B : Nat) (hB : B ≤ w.heap.size) (h : QsAt w B A qs) (hn : qs.length ≤ 32) :
    Calls Try.prog 44 #[.slice A qs.length c, .func (.func 34) #[] #[]] w fun e w' => (∃ r : Int, e = .returned (.int .i64 r) ∧ ((0 ≤ r ∧ waits qs) ∨ (r < 0 ∧ ¬ waits qs))) ∧ Below w.heap.size w w' := by
  have Hq := Lib.hid h
  clear h
  go_enter Try.func44, Try.ntmps44
  go_wp2
  go_loopg [8] qs.length (fun g i wr => ∃ k, g + k = qs.length ∧ i = .int .i64 (k : Nat) ∧ (∀ (j : Nat) (q : Qu), j < k → qs[j]? = some q → q.cs.length = 0) ∧ Below w.heap.size w wr)
  case atStart => exact ⟨0, by omega, rfl, fun j q hj => by omega, Below.refl _ _⟩
  case round =>
    obtain ⟨k, hk, rfl, hno, hbel⟩ := hrel
    have Hk := Lib.hid hk
    have Hno := Lib.hid hno
    have hkn : k ≤ qs.length := by omega
    clear hk hno
    by_cases hlt : k < qs.length
    · have hki : (k : Int) < qs.length := by omega
      obtain ⟨b, o, q, rfl, hb, hqk, q0, q1, q2, Aq, cq, q3, hcq, hcqm, hin⟩ := (Hq.out.below (hbel.mono hB)).at_ hlt
      have Hb := Lib.hid hbel
      clear hbel
      have hwt := fun u => waits_any q Aq cq u
      by_cases hq0 : 0 < q.cs.length
      · simp only [decide_eq_true hq0] at hwt
        go_wp2_with (go_at_call 34; refine (hwt _).mono ?_; rintro e w1 ⟨rfl, hb1⟩)
        go_ret
        exact ⟨⟨k, rfl, .inl ⟨by omega, k, q, hqk, hq0⟩⟩, Hb.out.trans (hb1.mono Hb.out.size)⟩
      · simp only [decide_eq_false hq0] at hwt
        go_wp2_with (go_at_call 34; refine (hwt _).mono ?_; rintro e w1 ⟨rfl, hb1⟩)
        go_roundg (gk - 1)
        case measure => have := Hk.out; omega
        case rel => exact ⟨k + 1, by have := Hk.out; omega, by go_num, fun j x hj hx => by
          by_cases e : j = k
          · subst e; rw [hqk] at hx; injection hx with hx; subst hx; omega
          · exact Hno.out j x (by omega) hx, Hb.out.trans (hb1.mono Hb.out.size)⟩
    · have hki : ¬ (k : Int) < qs.length := by omega
      have Hb := Lib.hid hbel
      clear hbel
      go_wp2
      go_ret
      refine ⟨⟨-1, rfl, .inr ⟨by omega, fun ⟨i, q, hi, hq⟩ => ?_⟩⟩, Hb.out⟩
      have := Hno.out i q (by have := (List.getElem?_eq_some_iff.1 hi).1; omega) hi
      omega
theorem contains_any (A : Option Addr) (c : Nat) (qs : List Qu) (w : World) (B : Nat) (hB : B ≤ w.heap.size) (h : QsAt w B A qs) (hn : qs.length ≤ 32) :
    Calls Try.prog 33 #[.slice A qs.length c, .func (.func 34) #[] #[]] w fun e w' => ((e = .returned (.bool true) ∧ waits qs) ∨ (e = .returned (.bool false) ∧ ¬ waits qs)) ∧ Below w.heap.size w w' := by
  go_enter Try.func33, Try.ntmps33
  go_wp2_with (go_at_call 44; refine (index_any A c qs _ B hB h hn).mono ?_; rintro e w1 ⟨⟨r, rfl, hr⟩, hb1⟩)
  have Hr := Lib.hid hr
  clear hr
  by_cases h0 : r ≥ 0
  · have h1 : (0 : Int) ≤ r := h0
    go_wp2
    go_ret
    rcases Hr.out with ⟨_, hw⟩ | ⟨hl, _⟩
    · exact ⟨.inl ⟨by simp <;> omega, hw⟩, hb1⟩
    · omega
  · have h1 : ¬ (0 : Int) ≤ r := h0
    go_wp2
    go_ret
    rcases Hr.out with ⟨hl, _⟩ | ⟨_, hw⟩
    · omega
    · exact ⟨.inr ⟨by simp <;> omega, hw⟩, hb1⟩
end Go.Proofs.Ytgbjhkgbjnobcaa
