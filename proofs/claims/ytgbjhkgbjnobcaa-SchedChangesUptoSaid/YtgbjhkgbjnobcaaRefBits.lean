/- The walks of the document's waits and on. Conditions: the turns are readable; 'on': there is a queue, and the turn is one's. -/
import Derived.Test.YtgbjhkgbjnobcaaRefCheck
namespace Go.Proofs.Ytgbjhkgbjnobcaa
open Go.RowKit Trn

set_option maxRecDepth 100000 in
set_option maxHeartbeats 4000000 in
theorem waitsRef_any (v : Value) (t : Tu) (w : World) (B : Nat) (hB : B ≤ w.heap.size) (hv : TuAt w B v t) (r : Bool) (hr : r = true ↔ waits t.qs) :
    Calls Try.prog 36 #[v] w fun e w' => e = .returned (.bool r) ∧ Below w.heap.size w w' := by
  obtain ⟨A, c, rfl, hlc, hcm, hq⟩ := hv
  unfold maxLen at hcm
  have Hr := Lib.hid hr
  have Hq := Lib.hid hq
  have hx := Boxed.start w A t.qs.length c t.at_ t.fr
  obtain ⟨x0, x1, x2⟩ := hx.cells
  clear hr hq
  go_enter Try.func36, Try.ntmps36
  go_upto_region 1 with fail
  generalize hw1 : w.alloc (.cells #[.slice A t.qs.length c, .int .i64 t.at_, .bool t.fr] 34) = w1 at *
  clear hw1
  have HX := Lib.hid hx
  clear hx x1 x2
  go_wp2
  go_loopg [3] t.qs.length (fun g vi wx => ∃ k : Nat, g + k = t.qs.length ∧ vi = .int .i64 (k : Nat) ∧ (∀ (j : Nat) (q : Qu), j < k → t.qs[j]? = some q → q.cs.length = 0) ∧ w1 = wx)
  case atStart => exact ⟨0, by omega, rfl, (by intro j q hj; omega), rfl⟩
  case round =>
    obtain ⟨k, hk, rfl, hno, rfl⟩ := hrel
    have hkn : k ≤ t.qs.length := by omega
    have Hk := Lib.hid hk
    have Hno := Lib.hid hno
    clear hk hno
    by_cases hkl : k < t.qs.length
    · have hki : (k : Int) < t.qs.length := by omega
      have hq' := Hq.out.below (HX.out.below.mono hB)
      obtain ⟨b, o, q, rfl, hbl, hqk, q0, q1, q2, Aq, cq, q3, hcq, hcqm, hin⟩ := hq'.at_ hkl
      have Hqk := Lib.hid hqk
      clear hq' hqk hin
      by_cases hl : q.cs.length = 0
      · have hl' : ¬ (q.cs.length : Int) > 0 := by omega
        have Hl := Lib.hid hl
        clear hl
        go_wp2
        have hk := Hk.out
        go_roundg (gk - 1)
        case measure => omega
        case rel => exact ⟨k + 1, by omega, by go_num, fun j p hj hp => by
          rcases Nat.lt_or_ge j k with h | h
          · exact Hno.out j p h hp
          · obtain rfl : j = k := by omega
            rw [Hqk.out] at hp
            injection hp with hp
            subst hp
            exact Hl.out, rfl⟩
      · have hl' : (q.cs.length : Int) > 0 := by omega
        have hrt : r = true := Hr.out.2 ⟨k, q, Hqk.out, by omega⟩
        subst hrt
        clear hl
        go_wp2
        go_ret
        exact ⟨rfl, HX.out.below⟩
    · have hki : ¬ (k : Int) < t.qs.length := by omega
      have hrf : r = false := by
        cases r
        · rfl
        · obtain ⟨i, q, hi, hp⟩ := Hr.out.1 rfl
          have := Hno.out i q (by have := (List.getElem?_eq_some_iff.1 hi).1; omega) hi
          omega
      subst hrf
      clear hkl hkn
      go_wp2
      go_ret
      exact ⟨rfl, HX.out.below⟩

set_option maxRecDepth 100000 in
set_option maxHeartbeats 4000000 in
theorem onRef_any (A : Option Addr) (n c : Nat) (at_ : Int) (fr : Bool) (w : World) (hn : 0 < n) (hn2 : n ≤ 32) (h0 : 0 ≤ at_) (h1 : at_ < n) :
    Calls Try.prog 37 #[.agg #[.slice A n c, .int .i64 at_, .bool fr]] w fun e w' => e = .returned (.agg #[.slice A n c, .int .i64 ((at_ + 1) % n), .bool false]) ∧ Below w.heap.size w w' := by
  have hrem : (at_ + 1).tmod n = (at_ + 1) % n := Int.tmod_eq_emod_of_nonneg (by omega)
  have hz : ¬ n = 0 := by omega
  have hz2 : ((n : Int) == 0) = false := by simp only [beq_eq_false_iff_ne, ne_eq]; omega
  have hwr : IntKind.i64.wrap (at_ + 1) = at_ + 1 := by rw [IntKind.wrap_i64]; omega
  have hx := (Boxed.start w A n c at_ fr).alloc (.cells #[.slice none 0 0, .int .i64 0, .bool false] 34)
  have hres := Blk.new (w.alloc (.cells #[.slice A n c, .int .i64 at_, .bool fr] 34)) 34 #[.slice none 0 0, .int .i64 0, .bool false]
  rw [World.size_alloc] at hres
  go_enter Try.func37, Try.ntmps37
  go_upto_region 1 with fail
  generalize hW0 : World.alloc (World.alloc _ _) _ = W0
  rw [hW0] at hx hres
  clear hW0
  obtain ⟨x0, x1, x2⟩ := hx.cells
  have f1 := hx.box.frozen 1
  have f2 := hx.box.frozen 2
  have HX := Lib.hid hx
  have HR := Lib.hid hres
  clear hx hres
  go_upto_region 3 with fail
  have hb2 := (HX.out.box.set_ 1 (.int .i64 ((at_ + 1) % n))).set_ 2 (.bool false)
  have hr2 := (HR.out.far (p := ⟨w.heap.size, 1, none⟩) (by simp) (.int .i64 ((at_ + 1) % n))).far (p := ⟨w.heap.size, 2, none⟩) (by simp) (.bool false)
  have hbel := (HX.out.below.setCell (p := ⟨w.heap.size, 1, none⟩) (Nat.le_refl _) (.int .i64 ((at_ + 1) % n))).setCell (p := ⟨w.heap.size, 2, none⟩) (Nat.le_refl _) (.bool false)
  generalize hW2 : World.setCell (World.setCell W0 _ _) _ _ = W2
  rw [hW2] at hb2 hr2 hbel
  clear hW2 x0 x1 x2 f1 f2
  have y0 := hb2.cell 0
  have y1 := hb2.cell 1
  have y2 := hb2.cell 2
  simp at y0 y1 y2
  have r0 := hr2.cell 0
  have r1 := hr2.cell 1
  have r2 := hr2.cell 2
  simp at r0 r1 r2
  have f0 := hr2.frozen 0
  have f1 := hr2.frozen 1
  have f2 := hr2.frozen 2
  have Hr2 := Lib.hid hr2
  have Hbel := Lib.hid hbel
  clear hb2 hr2 hbel
  go_wp2
  have hf := ((Hr2.out.set_ 0 (.slice A n c)).set_ 1 (.int .i64 ((at_ + 1) % n))).set_ 2 (.bool false)
  have hb := ((Hbel.out.setCell (p := ⟨w.heap.size + 1, 0, none⟩) (by simp) (.slice A n c)).setCell (p := ⟨w.heap.size + 1, 1, none⟩) (by simp) (.int .i64 ((at_ + 1) % n))).setCell (p := ⟨w.heap.size + 1, 2, none⟩) (by simp) (.bool false)
  have s0 := hf.cell 0
  have s1 := hf.cell 1
  have s2 := hf.cell 2
  simp at s0 s1 s2
  exact bodyPost_ret (v := .agg #[.slice A n c, .int .i64 ((at_ + 1) % n), .bool false]) (by simp [results, Try.results37, go_sem, s0, s1, s2]) rfl ⟨rfl, hb⟩
end Go.Proofs.Ytgbjhkgbjnobcaa
