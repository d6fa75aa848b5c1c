/- The walk of 'sched.Check': it says 'Trn.chk'. Conditions: the turns read as such. -/
import Derived.Test.YtgbjhkgbjnobcaaTurnsMem
namespace Go.Proofs.Ytgbjhkgbjnobcaa
open Go.RowKit Trn
attribute [local go_sem high] run_max_mx run_min_mn

/-- The memory of a function that holds turns in a box of its own. -/
structure Boxed (w : World) (A : Option Addr) (n c : Nat) (at_ : Int) (fr : Bool) (wr : World) : Prop where
  box : Blk wr w.heap.size 34 #[.slice A n c, .int .i64 at_, .bool fr]
  below : Below w.heap.size w wr
theorem Boxed.start (w : World) (A : Option Addr) (n c : Nat) (at_ : Int) (fr : Bool) : Boxed w A n c at_ fr (w.alloc (.cells #[.slice A n c, .int .i64 at_, .bool fr] 34)) :=
  ⟨Blk.new _ _ _, (Below.refl _ _).alloc (Nat.le_refl _) _⟩
section
variable {w wr w1 : World} {A : Option Addr} {n c : Nat} {at_ : Int} {fr : Bool}
theorem Boxed.cells (h : Boxed w A n c at_ fr wr) : wr.cell? ⟨w.heap.size, 0, none⟩ = some (.slice A n c) ∧ wr.cell? ⟨w.heap.size, 1, none⟩ = some (.int .i64 at_) ∧ wr.cell? ⟨w.heap.size, 2, none⟩ = some (.bool fr) :=
  ⟨h.box.cell 0, h.box.cell 1, h.box.cell 2⟩
theorem Boxed.alloc (h : Boxed w A n c at_ fr wr) (o : Obj) : Boxed w A n c at_ fr (wr.alloc o) := ⟨h.box.alloc o, h.below.alloc h.below.size o⟩
theorem Boxed.drewN (h : Boxed w A n c at_ fr wr) (k : Nat) : Boxed w A n c at_ fr (wr.drewN k) := ⟨h.box, below_drewN h.below k⟩
theorem Boxed.more (h : Boxed w A n c at_ fr wr) (hb : Below wr.heap.size wr w1) : Boxed w A n c at_ fr w1 := ⟨h.box.below hb h.box.lt, h.below.trans (hb.mono h.below.size)⟩
theorem Boxed.lt (h : Boxed w A n c at_ fr wr) : w.heap.size < wr.heap.size := h.box.lt
end
theorem lastId_next {t : Tu} {k : Nat} {q : Qu} (h : t.qs[k]? = some q) : lastId t (k + 1) = q.id := by
  simp [lastId, List.getD_eq_getElem?_getD, h]
theorem ok_next {t : Tu} {k : Nat} {q : Qu} (h : t.qs[k]? = some q) (h1 : ∀ j q, j < k → t.qs[j]? = some q → okQ t j q) (h2 : okQ t k q) : ∀ j q, j < k + 1 → t.qs[j]? = some q → okQ t j q := by
  intro j q' hj hq
  by_cases e : j = k
  · subst e
    rw [h] at hq
    injection hq with hq
    subst hq
    exact h2
  · exact h1 j q' (by omega) hq
theorem okAt_iff {t : Tu} : okAt t ↔ (inB t.at_ 0 (Cls.mx ((t.qs.length : Int) - 1) 0) = true ∧ (t.fr = true → 0 < t.qs.length)) := by
  unfold okAt inB Cls.mx
  simp only [decide_eq_true_eq]
  constructor
  · rintro ⟨h1, h2, h3⟩
    refine ⟨?_, h3⟩
    split <;> omega
  · rintro ⟨h1, h3⟩
    refine ⟨by omega, ?_, h3⟩
    split at h1 <;> omega
theorem okQ_iff {t : Tu} {i : Nat} {q : Qu} : okQ t i q ↔ (lastId t i < q.id ∧ inB q.qu 1 65536 = true ∧ inB q.de 0 (most t i) = true ∧ (q.cs.length = 0 → q.de ≤ 0)) := by
  unfold okQ inB
  simp only [decide_eq_true_eq]
  omega

set_option maxRecDepth 100000 in
set_option maxHeartbeats 2000000 in
theorem check_any (v : Value) (t : Tu) (w : World) (B : Nat) (hB : B ≤ w.heap.size) (hv : TuAt w B v t) :
    Calls Try.prog 20 #[v] w fun e w' => e = .returned (.int .i64 (chk t)) ∧ Below w.heap.size w w' := by
  obtain ⟨A, c, rfl, hlc, hcm, hq⟩ := hv
  unfold maxLen at hcm
  by_cases hlen : 32 < t.qs.length
  · have hl := chk_len hlen
    have Hl := Lib.hid hl
    clear hl
    go_enter Try.func20, Try.ntmps20
    go_wp2
    go_ret
    exact ⟨by rw [Hl.out]; rfl, by repeat (first | exact Below.refl _ _ | (refine Below.alloc ?_ (by simp; try omega) _))⟩
  · go_enter Try.func20, Try.ntmps20
    go_wp2
    go_loopg [4, 20] t.qs.length (fun g l i wr => ∃ k : Nat, g + k = t.qs.length ∧ i = .int .i64 k ∧ l = .int .i64 (lastId t k) ∧ (∀ j q, j < k → t.qs[j]? = some q → okQ t j q) ∧ Boxed w A t.qs.length c t.at_ t.fr wr)
    case atStart => exact ⟨0, by omega, rfl, rfl, fun j q h => absurd h (by omega), Boxed.start _ _ _ _ _ _⟩
    case round =>
      obtain ⟨k, hk, rfl, rfl, hok, hm⟩ := hrel
      have Hk := Lib.hid hk
      have Hok := Lib.hid hok
      have hkn : k ≤ t.qs.length := by omega
      clear hk hok
      obtain ⟨c0, c1, c2⟩ := hm.cells
      have hsz := hm.lt
      by_cases hlt : k < t.qs.length
      · have hq' := hq.below (hm.below.mono hB)
        obtain ⟨b, o, q, rfl, hb, hqk, q0, q1, q2, Aq, cq, q3, hcq, hcqm, hin⟩ := hq'.at_ hlt
        have Hm := Lib.hid hm
        have Hin := Lib.hid hin
        have Hqk := Lib.hid hqk
        clear hm hin hqk hq'
        have hki : (k : Int) < t.qs.length := by omega
        go_upto_region 9 with fail
        have hm1 := Hm.out.alloc (.cells #[.int .i64 q.id, .int .i64 q.qu, .int .i64 q.de, .slice Aq q.cs.length cq] 51)
        have hb6 := Blk.new wr 51 #[.int .i64 q.id, .int .i64 q.qu, .int .i64 q.de, .slice Aq q.cs.length cq]
        clear Hm q0 q1 q2 q3
        generalize wr.alloc (.cells #[.int .i64 q.id, .int .i64 q.qu, .int .i64 q.de, .slice Aq q.cs.length cq] 51) = w1 at *
        generalize wr.heap.size = b6 at *
        obtain ⟨c0, c1, c2⟩ := hm1.cells
        obtain ⟨q0, q1, q2, q3, _⟩ := hb6.four
        have Hm := Lib.hid hm1
        have Hb6 := Lib.hid hb6
        clear hm1 hb6
        go_cut [32] (fun s wx => s = .bool (decide (t.fr = true ∧ (k : Int) = t.at_)) ∧ wx = w1)
        case first =>
          rcases Bool.eq_false_or_eq_true t.fr with hfr | hfr
          · rw [hfr] at c2
            have hfr := Lib.hid hfr
            by_cases hka : (k : Int) = t.at_
            · have hke : ((k : Int) == t.at_) = true := by simpa using hka
              have hka := Lib.hid hka
              go_wp2
              go_meet
              case rel => exact ⟨by simp [hfr.out, hka.out], rfl⟩
            · have hke : ((k : Int) == t.at_) = false := by simpa using hka
              have hka := Lib.hid hka
              go_wp2
              go_meet
              case rel => exact ⟨by simp [hka.out], rfl⟩
          · rw [hfr] at c2
            have hfr := Lib.hid hfr
            go_wp2
            go_meet
            case rel => exact ⟨by simp [hfr.out], rfl⟩
        case rest =>
          obtain ⟨rfl, rfl⟩ := hcut
          have hmo : most t k = 1048575 + if decide (t.fr = true ∧ (k : Int) = t.at_) then 65536 else 0 := by unfold most; simp
          have hmb : 1048575 ≤ most t k ∧ most t k ≤ 1114111 := by rw [hmo]; split <;> omega
          have Hmo := Lib.hid hmo
          clear hmo
          generalize hfa : decide (t.fr = true ∧ (k : Int) = t.at_) = fa at *
          clear hfa
          go_upto_if 32 with fail
          go_cut [7, 32] (fun s _ wx => s = .int .i64 (most t k) ∧ wx = wc)
          case first =>
            cases fa
            · go_wp2
              go_meet
              case rel => exact ⟨by rw [Hmo.out]; rfl, rfl⟩
            · go_wp2
              go_meet
              case rel => exact ⟨by rw [Hmo.out]; rfl, rfl⟩
          case rest =>
            obtain ⟨rfl, rfl⟩ := hcut
            have hiff := Lib.hid (@okQ_iff t k q)
            generalize most t k = mo at *
            clear Hmo
            by_cases hall : okQ t k q
            · obtain ⟨d1, d2, d3, d4⟩ := hiff.out.1 hall
              have Hall := Lib.hid hall
              clear hall hiff
              by_cases d5 : q.cs.length = 0
              · have d6 := d4 d5
                have d7 : ((q.cs.length : Int) == 0) = true := by simp [d5]
                have d5 := Lib.hid d5
                clear d4
                go_wp2_with (go_at_call 38; refine (within_any _ _ _ _).mono ?_; rintro e w' ⟨rfl, rfl⟩)
                have hk := Hk.out
                go_roundg (gk - 1)
                case measure => omega
                case rel => exact ⟨k + 1, by omega, by go_num, by rw [lastId_next Hqk.out], ok_next Hqk.out Hok.out Hall.out, Hm.out⟩
              · have d7 : ((q.cs.length : Int) == 0) = false := by simp only [beq_eq_false_iff_ne, ne_eq]; omega
                clear d4
                go_wp2_with (go_at_call 38; refine (within_any _ _ _ _).mono ?_; rintro e w' ⟨rfl, rfl⟩)
                have hk := Hk.out
                go_roundg (gk - 1)
                case measure => omega
                case rel => exact ⟨k + 1, by omega, by go_num, by rw [lastId_next Hqk.out], ok_next Hqk.out Hok.out Hall.out, Hm.out⟩
            · by_cases d1 : lastId t k < q.id
              · by_cases d2 : inB q.qu 1 65536 = true
                · by_cases d3 : inB q.de 0 mo = true
                  · have d5 : q.cs.length = 0 := by
                      rcases Nat.eq_zero_or_pos q.cs.length with h | h
                      · exact h
                      · exact absurd (hiff.out.2 ⟨d1, d2, d3, fun h0 => absurd h0 (by omega)⟩) hall
                    have d6 : ¬ q.de ≤ 0 := fun h => hall (hiff.out.2 ⟨d1, d2, d3, fun _ => h⟩)
                    have d7 : ((q.cs.length : Int) == 0) = true := by simp [d5]
                    have d5 := Lib.hid d5
                    have Hall := Lib.hid hall
                    clear hiff hall
                    go_wp2_with (go_at_call 38; refine (within_any _ _ _ _).mono ?_; rintro e w' ⟨rfl, rfl⟩)
                    have hbel := Hm.out.below
                    go_ret
                    exact ⟨by rw [chk_q Hqk.out Hall.out]; rfl, hbel⟩
                  · have d3 : inB q.de 0 mo = false := by simpa using d3
                    have Hall := Lib.hid hall
                    clear hiff hall
                    go_wp2_with (go_at_call 38; refine (within_any _ _ _ _).mono ?_; rintro e w' ⟨rfl, rfl⟩)
                    have hbel := Hm.out.below
                    go_ret
                    exact ⟨by rw [chk_q Hqk.out Hall.out]; rfl, hbel⟩
                · have d2 : inB q.qu 1 65536 = false := by simpa using d2
                  have Hall := Lib.hid hall
                  clear hiff hall
                  go_wp2_with (go_at_call 38; refine (within_any _ _ _ _).mono ?_; rintro e w' ⟨rfl, rfl⟩)
                  have hbel := Hm.out.below
                  go_ret
                  exact ⟨by rw [chk_q Hqk.out Hall.out]; rfl, hbel⟩
              · have Hall := Lib.hid hall
                clear hiff hall
                go_wp2_with (go_at_call 38; refine (within_any _ _ _ _).mono ?_; rintro e w' ⟨rfl, rfl⟩)
                have hbel := Hm.out.below
                go_ret
                exact ⟨by rw [chk_q Hqk.out Hall.out]; rfl, hbel⟩

      · obtain rfl : k = t.qs.length := by omega
        have Hm := Lib.hid hm
        clear hm
        have hqs : okQs t := fun j q hq => Hok.out j q ((List.getElem?_eq_some_iff.1 hq).1) hq
        have Hqs := Lib.hid hqs
        clear hqs
        go_upto_region 15 with fail
        by_cases ha : okAt t
        · obtain ⟨d1, d2⟩ := okAt_iff.1 ha
          have Ha := Lib.hid ha
          clear ha
          go_cut [80] (fun s wx => s = .bool false ∧ wx = wr)
          case first =>
            rcases Bool.eq_false_or_eq_true t.fr with hfr | hfr
            · have d3 := d2 hfr
              rw [hfr] at c2
              clear hfr
              have d4 : ((t.qs.length : Int) == 0) = false := by simp only [beq_eq_false_iff_ne, ne_eq]; omega
              clear d2
              go_wp2_with (go_at_call 38; refine (within_any _ _ _ _).mono ?_; rintro e w' ⟨rfl, rfl⟩)
              go_meet
              case rel => exact ⟨rfl, rfl⟩
            · rw [hfr] at c2
              clear hfr
              clear d2
              go_wp2_with (go_at_call 38; refine (within_any _ _ _ _).mono ?_; rintro e w' ⟨rfl, rfl⟩)
              go_meet
              case rel => exact ⟨rfl, rfl⟩
          case rest =>
            obtain ⟨rfl, rfl⟩ := hcut
            clear d1 d2 c1 c2
            go_wp2
            go_loopg [84] t.qs.length (fun g i wx => ∃ k : Nat, g + k = t.qs.length ∧ i = .int .i64 k ∧ (∀ j q, j < k → t.qs[j]? = some q → ∀ x ∈ q.cs, 1 ≤ x ∧ x ≤ 1048576) ∧ Boxed w A t.qs.length c t.at_ t.fr wx)
            case atStart => exact ⟨0, by omega, rfl, fun j q h => absurd h (by omega), Hm.out⟩
            case round =>
              clear c0 Hm hsz Hok Hk
              obtain ⟨k, hk, rfl, hok, hm⟩ := hrel
              have Hk := Lib.hid hk
              have Hok := Lib.hid hok
              have hkn : k ≤ t.qs.length := by omega
              clear hk hok
              by_cases hlt : k < t.qs.length
              · have hsz := hm.lt
                have hq' := hq.below (hm.below.mono hB)
                obtain ⟨b, o, q, rfl, hb, hqk, q0, q1, q2, Aq, cq, q3, hcq, hcqm, hin⟩ := hq'.at_ hlt
                unfold maxLen at hcqm
                have hm1 := hm.alloc (.cells #[.int .i64 q.id, .int .i64 q.qu, .int .i64 q.de, .slice Aq q.cs.length cq] 51)
                have Hm := Lib.hid hm1
                have hin1 : IntsAt (wr.alloc (.cells #[.int .i64 q.id, .int .i64 q.qu, .int .i64 q.de, .slice Aq q.cs.length cq] 51)) B Aq q.cs :=
                  hin.below ((Below.refl _ _).alloc (by have := hm.below.size; omega) _)
                have Hin := Lib.hid hin1
                have Hqk := Lib.hid hqk
                clear hm hin hin1 hqk hq' hm1
                have hki : (k : Int) < t.qs.length := by omega
                go_wp2
                go_loopg [91] q.cs.length (fun g i wx => ∃ m : Nat, g + m = q.cs.length ∧ i = .int .i64 m ∧ (∀ j x, j < m → q.cs[j]? = some x → 1 ≤ x ∧ x ≤ 1048576) ∧ wx = wr.alloc (.cells #[.int .i64 q.id, .int .i64 q.qu, .int .i64 q.de, .slice Aq q.cs.length cq] 51))
                case atStart => exact ⟨0, by omega, rfl, fun j q h => absurd h (by omega), rfl⟩
                case round =>
                  obtain ⟨m, hm, rfl, hokm, hw⟩ := hrel
                  rw [← hw] at Hm Hin
                  have Hw := Lib.hid hw
                  clear q0 q1 q2 q3 hw
                  have Hmm := Lib.hid hm
                  have Hokm := Lib.hid hokm
                  have hmn : m ≤ q.cs.length := by omega
                  clear hm hokm
                  by_cases hmt : m < q.cs.length
                  · obtain ⟨b', o', x, rfl, hb', hx, hcell⟩ := Hin.out.at_ hmt
                    have Hx := Lib.hid hx
                    clear hx
                    have hmi : (m : Int) < q.cs.length := by omega
                    by_cases hxb : 1 ≤ x ∧ x ≤ 1048576
                    · have d1 := inB_yes hxb
                      go_wp2_with (go_at_call 38; refine (within_any _ _ _ _).mono ?_; rintro e w' ⟨rfl, rfl⟩)
                      have hk := Hmm.out
                      go_roundg (gk - 1)
                      case measure => omega
                      case rel => exact ⟨m + 1, by omega, by go_num, fun j y hj hy => by
                        by_cases e : j = m
                        · subst e
                          rw [Hx.out] at hy
                          injection hy with hy
                          subst hy
                          exact hxb
                        · exact Hokm.out j y (by omega) hy, Hw.out⟩
                    · have d1 := inB_no hxb
                      go_wp2_with (go_at_call 38; refine (within_any _ _ _ _).mono ?_; rintro e w' ⟨rfl, rfl⟩)
                      have hbel := Hm.out.below
                      have hno : ¬ okCs t := fun h => hxb (h q (List.mem_of_getElem? Hqk.out) x (List.mem_of_getElem? Hx.out))
                      go_ret
                      exact ⟨by rw [chk_cs (by omega) Hqs.out Ha.out hno]; rfl, hbel⟩
                  · go_wp2
                    have hk := Hk.out
                    go_roundg (t.qs.length - (k + 1))
                    case measure => omega
                    case rel => exact ⟨k + 1, by omega, by go_num, fun j q' hj hq' x hx => by
                      by_cases e : j = k
                      · subst e
                        rw [Hqk.out] at hq'
                        injection hq' with hq'
                        subst hq'
                        obtain ⟨i, hi⟩ := List.mem_iff_getElem?.1 hx
                        exact Hokm.out i x (by have := (List.getElem?_eq_some_iff.1 hi).1; omega) hi
                      · exact Hok.out j q' (by omega) hq' x hx, Hm.out⟩
              · obtain rfl : k = t.qs.length := by omega
                have hbel := Lib.hid hm.below
                clear hm
                have hcs : okCs t := fun q hq' x hx => by
                  obtain ⟨j, hj⟩ := List.mem_iff_getElem?.1 hq'
                  exact Hok.out j q (List.getElem?_eq_some_iff.1 hj).1 hj x hx
                have hv := chk_zero.2 ⟨by omega, Hqs.out, Ha.out, hcs⟩
                have Hv := Lib.hid hv
                clear hcs hv
                go_wp2
                go_ret
                exact ⟨by rw [Hv.out]; rfl, hbel.out⟩
        · have hiff := Lib.hid (@okAt_iff t)
          have Ha := Lib.hid ha
          clear ha
          by_cases d1 : inB t.at_ 0 (Cls.mx ((t.qs.length : Int) - 1) 0) = true
          · have hf : t.fr = true ∧ t.qs.length = 0 := by
              by_cases h1 : t.fr = true
              · refine ⟨h1, ?_⟩
                rcases Nat.eq_zero_or_pos t.qs.length with h | h
                · exact h
                · exact absurd (hiff.out.2 ⟨d1, fun _ => h⟩) Ha.out
              · exact absurd (hiff.out.2 ⟨d1, fun h => absurd h h1⟩) Ha.out
            rw [hf.1] at c2
            have d4 : ((t.qs.length : Int) == 0) = true := by simp [hf.2]
            clear hf
            go_wp2_with (go_at_call 38; refine (within_any _ _ _ _).mono ?_; rintro e w' ⟨rfl, rfl⟩)
            have hbel := Hm.out.below
            go_ret
            exact ⟨by rw [chk_at Ha.out]; rfl, hbel⟩
          · have d1 : inB t.at_ 0 (Cls.mx ((t.qs.length : Int) - 1) 0) = false := by simpa using d1
            go_wp2_with (go_at_call 38; refine (within_any _ _ _ _).mono ?_; rintro e w' ⟨rfl, rfl⟩)
            have hbel := Hm.out.below
            go_ret
            exact ⟨by rw [chk_at Ha.out]; rfl, hbel⟩
end Go.Proofs.Ytgbjhkgbjnobcaa
