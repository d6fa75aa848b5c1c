/- The walk of 'sched.find': the place of a queue's number among numbers that ascend. Conditions: numbers from 0 on. -/
import Derived.Test.YtgbjhkgbjnobcaaNext
namespace Go.Proofs.Ytgbjhkgbjnobcaa
open Go.RowKit Trn

/-- Numbers ascend from 0 on, within reach. -/
structure Trn.Asc (qs : List Qu) : Prop where
  lo : ∀ (i : Nat) (q : Qu), qs[i]? = some q → 0 ≤ q.id ∧ q.id ≤ 9223372036854775807
  lt : ∀ (i j : Nat) (p q : Qu), i < j → qs[i]? = some p → qs[j]? = some q → p.id < q.id
/-- The place of a number. -/
structure Trn.Spot (qs : List Qu) (id : Int) (p : Nat) (b : Bool) : Prop where
  le : p ≤ qs.length
  below : ∀ (i : Nat) (q : Qu), i < p → qs[i]? = some q → q.id < id
  above : ∀ (i : Nat) (q : Qu), p ≤ i → qs[i]? = some q → id ≤ q.id
  yes : b = true → ∃ q, qs[p]? = some q ∧ q.id = id
  no : b = false → ∀ (i : Nat) (q : Qu), qs[i]? = some q → q.id ≠ id

theorem cmp_any (q : Qu) (A : Option Addr) (c : Nat) (id : Int) (w : World) (h0 : 0 ≤ q.id ∧ q.id ≤ 9223372036854775807) (h1 : 0 ≤ id ∧ id ≤ 9223372036854775807) :
    Calls Try.prog 46 #[.agg #[.int .i64 q.id, .int .i64 q.qu, .int .i64 q.de, .slice A q.cs.length c], .int .i64 id] w fun e w' => e = .returned (.int .i64 (q.id - id)) ∧ Below w.heap.size w w' := by
  have hwr : IntKind.i64.wrap (q.id - id) = q.id - id := by rw [IntKind.wrap_i64]; omega
  go_enter Try.func46, Try.ntmps46
  go_wp2
  go_ret
  exact ⟨rfl, (Below.refl _ _).alloc (Nat.le_refl _) _⟩

set_option maxHeartbeats 2000000 in
theorem search_any (A : Option Addr) (c : Nat) (qs : List Qu) (id : Int) (w : World) (B : Nat) (hB : B ≤ w.heap.size) (h : QsAt w B A qs) (hn : qs.length ≤ 32) (hasc : Asc qs) (hid : 0 ≤ id ∧ id ≤ 9223372036854775807) :
    Calls Try.prog 45 #[.slice A qs.length c, .int .i64 id, .func (.func 46) #[] #[]] w fun e w' => (∃ p b, e = .returned (.tuple #[.int .i64 (p : Nat), .bool b]) ∧ Spot qs id p b) ∧ Below w.heap.size w w' := by
  have Hq := Lib.hid h
  have Hasc := Lib.hid hasc
  clear h hasc
  go_enter Try.func45, Try.ntmps45
  go_wp2
  go_loopg [9, 10] qs.length (fun g vi vj wr => ∃ i j : Nat, vi = .int .i64 (i : Nat) ∧ vj = .int .i64 (j : Nat) ∧ g = j - i ∧ i ≤ j ∧ j ≤ qs.length ∧ (∀ (k : Nat) (q : Qu), k < i → qs[k]? = some q → q.id < id) ∧ (∀ (k : Nat) (q : Qu), j ≤ k → qs[k]? = some q → id ≤ q.id) ∧ Below w.heap.size w wr)
  case atStart => exact ⟨0, qs.length, rfl, rfl, rfl, Nat.zero_le _, Nat.le_refl _, fun k q hk => by omega, fun k q hk hq => by have := (List.getElem?_eq_some_iff.1 hq).1; omega, Below.refl _ _⟩
  case round =>
    obtain ⟨i, j, rfl, rfl, rfl, hij, hjn, hlo, hhi, hbel⟩ := hrel
    have Hlo := Lib.hid hlo
    have Hhi := Lib.hid hhi
    clear hlo hhi
    by_cases hlt : i < j
    · have hki : (i : Int) < j := by omega
      have hm1 : i ≤ (i + j) / 2 ∧ (i + j) / 2 < j := by omega
      have hwr : IntKind.i64.wrap ((i : Int) + j) = (i : Int) + j := by rw [IntKind.wrap_i64]; omega
      obtain ⟨b, o, q, rfl, hb, hqk, q0, q1, q2, Aq, cq, q3, hcq, hcqm, hin⟩ := (Hq.out.below (hbel.mono hB)).at_ (i := (i + j) / 2) (by omega)
      have hmi : (((i + j) / 2 : Nat) : Int) < qs.length := by omega
      have hcmp := fun u => cmp_any q Aq cq id u (Hasc.out.lo _ q hqk) hid
      have Hb := Lib.hid hbel
      clear hbel
      have Hqk := Lib.hid hqk
      clear hqk
      by_cases hc : q.id < id
      · have hc2 : q.id - id < 0 := by omega
        go_wp2_with (first | (go_at_call 46; refine (hcmp _).mono ?_; rintro e w1 ⟨rfl, hb1⟩))
        go_roundg (j - ((i + j) / 2 + 1))
        case measure => omega
        case rel => exact ⟨(i + j) / 2 + 1, j, congrArg _ (by omega), rfl, rfl, by omega, hjn, fun k x hk hx => by
          by_cases e : k = (i + j) / 2
          · subst e; rw [Hqk.out] at hx; injection hx with hx; subst hx; exact hc
          · have := Hasc.out.lt k _ x q (by omega) hx Hqk.out; omega, Hhi.out, Hb.out.trans (hb1.mono Hb.out.size)⟩
      · have hc2 : ¬ q.id - id < 0 := by omega
        go_wp2_with (first | (go_at_call 46; refine (hcmp _).mono ?_; rintro e w1 ⟨rfl, hb1⟩))
        go_roundg ((i + j) / 2 - i)
        case measure => omega
        case rel => exact ⟨i, (i + j) / 2, rfl, congrArg _ (by omega), rfl, by omega, by omega, Hlo.out, fun k x hk hx => by
          by_cases e : k = (i + j) / 2
          · subst e; rw [Hqk.out] at hx; injection hx with hx; subst hx; omega
          · have := Hasc.out.lt _ k q x (by omega) Hqk.out hx; omega, Hb.out.trans (hb1.mono Hb.out.size)⟩
    · have hije : i = j := by omega
      subst hije
      have hki : ¬ (i : Int) < i := by omega
      by_cases hin : i < qs.length
      · have hin2 : (i : Int) < qs.length := by omega
        obtain ⟨b, o, q, rfl, hb, hqk, q0, q1, q2, Aq, cq, q3, hcq, hcqm, hin⟩ := (Hq.out.below (hbel.mono hB)).at_ (i := i) hin
        have hcmp := fun u => cmp_any q Aq cq id u (Hasc.out.lo _ q hqk) hid
        have Hb := Lib.hid hbel
        have Hqk := Lib.hid hqk
        clear hbel hqk
        by_cases hc : q.id = id
        · have hc2 : (q.id - id == 0) = true := by simp <;> omega
          have Hc := Lib.hid hc
          clear hc
          go_wp2_with (first | (go_at_call 46; refine (hcmp _).mono ?_; rintro e w1 ⟨rfl, hb1⟩))
          refine bodyPost_ret (results_tmp2 rfl _ _ _) rfl ⟨⟨i, true, rfl, ?_⟩, Hb.out.trans (hb1.mono Hb.out.size)⟩
          exact ⟨hjn, Hlo.out, Hhi.out, fun _ => ⟨q, Hqk.out, Hc.out⟩, fun h => by cases h⟩
        · have hc2 : (q.id - id == 0) = false := by simp only [beq_eq_false_iff_ne, ne_eq]; omega
          go_wp2_with (first | (go_at_call 46; refine (hcmp _).mono ?_; rintro e w1 ⟨rfl, hb1⟩))
          refine bodyPost_ret (results_tmp2 rfl _ _ _) rfl ⟨⟨i, false, rfl, ?_⟩, Hb.out.trans (hb1.mono Hb.out.size)⟩
          refine ⟨hjn, Hlo.out, Hhi.out, fun h => (by cases h), fun _ k x hx e => ?_⟩
          rcases Nat.lt_trichotomy k i with hk | hk | hk
          · have := Hlo.out k x hk hx; omega
          · subst hk; rw [Hqk.out] at hx; injection hx with hx; subst hx; exact hc e
          · have := Hasc.out.lt i k q x hk Hqk.out hx
            have := Hhi.out i q (Nat.le_refl _) Hqk.out
            omega
      · have hin2 : ¬ (i : Int) < qs.length := by omega
        have Hb := Lib.hid hbel
        clear hbel
        go_wp2
        refine bodyPost_ret (results_tmp2 rfl _ _ _) rfl ⟨⟨i, .inl ⟨rfl, ?_⟩⟩, Hb.out⟩
        refine ⟨hjn, Hlo.out, Hhi.out, fun h => (by cases h), fun _ k x hx e => ?_⟩
        have := (List.getElem?_eq_some_iff.1 hx).1
        have := Hlo.out k x (by omega) hx
        omega
theorem find_any (v : Value) (t : Tu) (id : Int) (w : World) (B : Nat) (hB : B ≤ w.heap.size) (h : TuAt w B v t) (hn : t.qs.length ≤ 32) (hasc : Asc t.qs) (hid : 0 ≤ id ∧ id ≤ 9223372036854775807) :
    Calls Try.prog 39 #[v, .int .i64 id] w fun e w' => (∃ p b, e = .returned (.tuple #[.int .i64 (p : Nat), .bool b]) ∧ Spot t.qs id p b) ∧ Below w.heap.size w w' := by
  obtain ⟨A, c, rfl, hlc, hcm, hq⟩ := h
  have hbl : Below w.heap.size w (w.alloc (.cells #[.slice A t.qs.length c, .int .i64 t.at_, .bool t.fr] 34)) := (Below.refl _ _).alloc (Nat.le_refl _) _
  have hs := fun u (hu : Below w.heap.size w u) => search_any A c t.qs id u B (by have := hu.size; omega) (hq.below (hu.mono hB)) hn hasc hid
  have Hbl := Lib.hid hbl
  clear hbl hq hasc
  go_enter Try.func39, Try.ntmps39
  go_wp2_with (first | (go_at_call 45; refine Calls.mono (hs _ Hbl.out) ?_; rintro e w1 ⟨⟨p, b, rfl, hsp⟩, hb1⟩; have Hsp := Lib.hid hsp; clear hsp))
  exact bodyPost_ret (results_tmp2 rfl _ _ _) rfl ⟨⟨p, b, rfl, Hsp.out⟩, Hbl.out.trans (hb1.mono Hbl.out.size)⟩
end Go.Proofs.Ytgbjhkgbjnobcaa
