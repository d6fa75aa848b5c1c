/- The walk of the document's own 'Check': it computes 'chk'. Conditions: the turns are readable. -/
import Derived.Test.YtgbjhkgbjnobcaaSame
namespace Go.Proofs.Ytgbjhkgbjnobcaa
open Go.RowKit Trn

theorem ids_pos {t : Tu} : ∀ {k : Nat}, (∀ j q, j < k → t.qs[j]? = some q → okQ t j q) → ∀ (j : Nat) (q : Qu), j < k → t.qs[j]? = some q → 0 ≤ q.id := by
  intro k h j
  induction j with
  | zero =>
    intro q hj hq
    have := (h 0 q hj hq).1
    simp only [lastId] at this
    omega
  | succ j ih =>
    intro q hj hq
    have hl := (List.getElem?_eq_some_iff.1 hq).1
    have hp : t.qs[j]? = some t.qs[j] := List.getElem?_eq_getElem (by omega)
    have h1 := ih _ (by omega) hp
    have h2 := (h (j + 1) q hj hq).1
    simp only [lastId, List.getD_eq_getElem?_getD, hp, Option.getD_some] at h2
    omega

set_option maxRecDepth 100000 in
set_option maxHeartbeats 8000000 in
theorem refcheck_any (v : Value) (t : Tu) (w : World) (B : Nat) (hB : B ≤ w.heap.size) (hv : TuAt w B v t) :
    Calls Try.prog 24 #[v] w fun e w' => e = .returned (.int .i64 (chk t)) ∧ Below w.heap.size w w' := by
  obtain ⟨A, c, rfl, hlc, hcm, hq⟩ := hv
  unfold maxLen at hcm
  obtain ⟨D, hD⟩ : ∃ D, D = Cls.mx ((t.qs.length : Int) - 1) 0 := ⟨_, rfl⟩
  have hDv : (D = (t.qs.length : Int) - 1 ∧ 0 < t.qs.length) ∨ (t.qs.length = 0 ∧ D = 0) := by
    rw [hD]; unfold Cls.mx; split <;> omega
  have hmx : ∀ w, (Builtin.max_ #[3, 3] 3 #[.int .i64 ((t.qs.length : Int) - 1), .int .i64 0]).run Try.prog w = .ok (.int .i64 D) w := fun w => by rw [hD]; exact run_max_mx w _ _ _ _ _ _
  have hwl : IntKind.i64.wrap ((t.qs.length : Int) - 1) = (t.qs.length : Int) - 1 := by rw [IntKind.wrap_i64]; omega
  obtain ⟨J, hJ⟩ : ∃ J, chk t = J := ⟨_, rfl⟩
  rw [hJ]
  have HJ := Lib.hid hJ
  obtain ⟨b0, hb0⟩ : ∃ b, b = decide (32 < t.qs.length ∨ t.at_ < 0 ∨ D < t.at_ ∨ (t.fr = true ∧ t.qs.length = 0)) := ⟨_, rfl⟩
  have Hb0 := Lib.hid hb0
  have HDv := Lib.hid hDv
  have Hq := Lib.hid hq
  have hx := Boxed.start w A t.qs.length c t.at_ t.fr
  obtain ⟨x0, x1, x2⟩ := hx.cells
  clear hD hDv hJ hb0 hq
  go_enter Try.func24, Try.ntmps24
  go_upto_region 1 with fail
  generalize hw1 : w.alloc (.cells #[.slice A t.qs.length c, .int .i64 t.at_, .bool t.fr] 34) = w1 at *
  clear hw1
  have HX := Lib.hid hx
  clear hx
  go_cut [36] (fun s wx => s = .bool b0 ∧ w1 = wx)
  case first =>
    have hDv := HDv.out
    rcases Bool.eq_false_or_eq_true t.fr with hfr | hfr
    · rw [hfr] at x2
      have Hfr := Lib.hid hfr
      clear hfr
      go_wp2
      all_goals (go_meet; (case rel => exact ⟨by rw [Hb0.out, Hfr.out]; refine congrArg Value.bool (Bool.eq_iff_iff.2 ?_); simp [-List.length_eq_zero_iff] <;> omega, rfl⟩))
    · rw [hfr] at x2
      have Hfr := Lib.hid hfr
      clear hfr
      go_wp2
      all_goals (go_meet; (case rel => exact ⟨by rw [Hb0.out, Hfr.out]; refine congrArg Value.bool (Bool.eq_iff_iff.2 ?_); simp [-List.length_eq_zero_iff] <;> omega, rfl⟩))
  case rest =>
    obtain ⟨rfl, rfl⟩ := hcut
    cases b0
    rotate_left
    · have hb := of_decide_eq_true Hb0.out.symm
      have hj : J = 190 := by
        have hDv := HDv.out
        refine HJ.out.symm.trans ?_
        rcases hb with h | h | h | h
        · exact chk_len h
        · exact chk_at fun h' => by have := h'.1; omega
        · exact chk_at fun h' => by have := h'.2.1; omega
        · exact chk_at fun h' => by have := h'.2.2 h.1; omega
      subst hj
      clear hb
      go_wp2
      go_ret
      exact ⟨rfl, HX.out.below⟩
    · have hb := of_decide_eq_false Hb0.out.symm
      have hDv := HDv.out
      have hlen : t.qs.length ≤ 32 := by omega
      have hat : okAt t := ⟨by omega, by omega, fun h => by
        refine Nat.pos_of_ne_zero fun h' => hb (.inr (.inr (.inr ⟨h, h'⟩)))⟩
      have Hat := Lib.hid hat
      clear hat hb hDv hmx hwl
      go_upto_region 4 with fail
      clear x0 x1 x2
      go_loopg [3] t.qs.length (fun g vi wr => ∃ k : Nat, g + k = t.qs.length ∧ vi = .int .i64 (k : Nat) ∧ (∀ j q, j < k → t.qs[j]? = some q → okQ t j q) ∧ Boxed w A t.qs.length c t.at_ t.fr wr)
      case atStart => exact ⟨0, by omega, rfl, fun j q h => absurd h (by omega), HX.out⟩
      case round =>
        obtain ⟨k, hk, rfl, hok, hm⟩ := hrel
        have hkn : k ≤ t.qs.length := by omega
        have Hk := Lib.hid hk
        have Hok := Lib.hid hok
        have Hm := Lib.hid hm
        obtain ⟨x0, x1, x2⟩ := hm.cells
        by_cases hkl : k < t.qs.length
        · have hki : (k : Int) < t.qs.length := by omega
          have hq' := Hq.out.below (hm.below.mono hB)
          obtain ⟨b, o, q, rfl, hbl, hqk, q0, q1, q2, Aq, cq, q3, hcq, hcqm, hin⟩ := hq'.at_ hkl
          have Hqk := Lib.hid hqk
          have hprev : ∀ z, k = z + 1 → ∃ p : Qu, wr.cell? ⟨b, o + z * 4, none⟩ = some (.int .i64 p.id) ∧ lastId t k = p.id ∧ 0 ≤ p.id := fun z hz => by
            obtain ⟨b', o', p, e, _, hp, p0, _⟩ := hq'.at_ (show z < t.qs.length by omega)
            injection e with e
            injection e with e1 e2 _
            subst e1 e2
            refine ⟨p, p0, ?_, ids_pos hok z p (by omega) hp⟩
            subst hz
            exact lastId_next hp
          have Hprev := Lib.hid hprev
          have hbw : b < wr.heap.size := by have := hm.below.size; omega
          obtain ⟨mo, hmo⟩ : ∃ mo, mo = most t k := ⟨_, rfl⟩
          have hmv : (t.fr = true ∧ (k : Int) = t.at_ → mo = 1114111) ∧ (¬ (t.fr = true ∧ (k : Int) = t.at_) → mo = 1048575) := by
            rw [hmo]
            unfold most
            constructor
            · intro h; rw [if_pos h]; rfl
            · intro h; rw [if_neg h]; rfl
          have Hmo := Lib.hid hmo
          have Hmv := Lib.hid hmv
          clear hk hok hm hq' hqk hin hprev hmo hmv hcq hcqm
          go_upto_region 7 with fail
          have hm1 := Hm.out.alloc (.cells #[.int .i64 q.id, .int .i64 q.qu, .int .i64 q.de, .slice Aq q.cs.length cq] 51)
          have hb6 := Blk.new wr 51 #[.int .i64 q.id, .int .i64 q.qu, .int .i64 q.de, .slice Aq q.cs.length cq]
          have hpc : ∀ z p, wr.cell? ⟨b, o + z * 4, none⟩ = some (.int .i64 p) → (wr.alloc (.cells #[.int .i64 q.id, .int .i64 q.qu, .int .i64 q.de, .slice Aq q.cs.length cq] 51)).cell? ⟨b, o + z * 4, none⟩ = some (.int .i64 p) := fun z p h => ((Below.refl wr.heap.size wr).alloc (Nat.le_refl _) _).cell (p := ⟨b, o + z * 4, none⟩) hbw |>.trans h
          have Hpc := Lib.hid hpc
          clear q0 q1 q2 q3 x0 x1 x2 hpc
          generalize hW1 : wr.alloc (.cells #[.int .i64 q.id, .int .i64 q.qu, .int .i64 q.de, .slice Aq q.cs.length cq] 51) = w2 at *
          clear hW1
          generalize wr.heap.size = b6 at *
          obtain ⟨x0, x1, x2⟩ := hm1.cells
          obtain ⟨q0, q1, q2, q3, _⟩ := hb6.four
          have Hm1 := Lib.hid hm1
          have Hb6 := Lib.hid hb6
          clear hm1 hb6
          go_upto_region 8 with fail
          obtain ⟨fa, hfa⟩ : ∃ fa, fa = decide (t.fr = true ∧ (k : Int) = t.at_) := ⟨_, rfl⟩
          have Hfa := Lib.hid hfa
          clear hfa
          go_cut [56] (fun s wx => s = .bool fa ∧ w2 = wx)
          case first =>
            rcases Bool.eq_false_or_eq_true t.fr with hfr | hfr
            · rw [hfr] at x2
              have Hfr := Lib.hid hfr
              clear hfr
              go_wp2
              all_goals (go_meet; (case rel => exact ⟨by rw [Hfa.out, Hfr.out]; refine congrArg Value.bool (Bool.eq_iff_iff.2 ?_); simp <;> omega, rfl⟩))
            · rw [hfr] at x2
              have Hfr := Lib.hid hfr
              clear hfr
              go_wp2
              all_goals (go_meet; (case rel => exact ⟨by rw [Hfa.out, Hfr.out]; refine congrArg Value.bool (Bool.eq_iff_iff.2 ?_); simp <;> omega, rfl⟩))
          case rest =>
            obtain ⟨rfl, rfl⟩ := hcut
            go_upto_if 56 with fail
            go_cut [5] (fun s wx => s = .int .i64 mo ∧ w2 = wx)
            case first =>
              cases fa
              · have hv := Hmv.out.2 (of_decide_eq_false Hfa.out.symm)
                subst hv
                go_wp2
                go_meet
                case rel => exact ⟨rfl, rfl⟩
              · have hv := Hmv.out.1 (of_decide_eq_true Hfa.out.symm)
                subst hv
                go_wp2
                go_meet
                case rel => exact ⟨rfl, rfl⟩
            case rest =>
              obtain ⟨rfl, rfl⟩ := hcut
              clear Hfa Hmv
              obtain ⟨bd, hbd⟩ : ∃ bd, bd = decide (¬ (lastId t k < q.id ∧ 1 ≤ q.qu ∧ q.qu ≤ 65536 ∧ 0 ≤ q.de ∧ q.de ≤ mo)) := ⟨_, rfl⟩
              have Hbd := Lib.hid hbd
              clear hbd
              go_upto_region 10 with fail
              go_cut [98] (fun s wx => s = .bool bd ∧ Below w2.heap.size w2 wx)
              case first =>
                rcases Nat.eq_zero_or_pos k with hk0 | hk0
                · have hl0 : lastId t k = -1 := by rw [hk0]; rfl
                  have hki0 : (k : Int) = 0 := by omega
                  rw [hl0] at Hbd
                  subst hk0
                  clear hl0 hki0
                  by_cases g1 : q.id < 0
                  · have g1d : decide (q.id < 0) = true := decide_eq_true g1
                    go_quiet (fail)
                    go_wp2
                    go_meet
                    case rel => exact ⟨by rw [Hbd.out]; refine congrArg Value.bool (Bool.eq_iff_iff.2 ?_); simp <;> omega, below_drewN (Below.refl _ _) _⟩
                  · have g1d : decide (q.id < 0) = false := decide_eq_false g1
                    by_cases g3 : q.qu < 1
                    · have g3d : decide (q.qu < 1) = true := decide_eq_true g3
                      go_quiet (fail)
                      go_wp2
                      go_meet
                      case rel => exact ⟨by rw [Hbd.out]; refine congrArg Value.bool (Bool.eq_iff_iff.2 ?_); simp <;> omega, below_drewN (Below.refl _ _) _⟩
                    · have g3d : decide (q.qu < 1) = false := decide_eq_false g3
                      by_cases g4 : q.qu > 65536
                      · have g4d : decide (q.qu > 65536) = true := decide_eq_true g4
                        go_quiet (fail)
                        go_wp2
                        go_meet
                        case rel => exact ⟨by rw [Hbd.out]; refine congrArg Value.bool (Bool.eq_iff_iff.2 ?_); simp <;> omega, below_drewN (Below.refl _ _) _⟩
                      · have g4d : decide (q.qu > 65536) = false := decide_eq_false g4
                        by_cases g5 : q.de < 0
                        · have g5d : decide (q.de < 0) = true := decide_eq_true g5
                          go_quiet (fail)
                          go_wp2
                          go_meet
                          case rel => exact ⟨by rw [Hbd.out]; refine congrArg Value.bool (Bool.eq_iff_iff.2 ?_); simp <;> omega, below_drewN (Below.refl _ _) _⟩
                        · have g5d : decide (q.de < 0) = false := decide_eq_false g5
                          by_cases g6 : q.de > mo
                          · have g6d : decide (q.de > mo) = true := decide_eq_true g6
                            go_quiet (fail)
                            go_wp2
                            go_meet
                            case rel => exact ⟨by rw [Hbd.out]; refine congrArg Value.bool (Bool.eq_iff_iff.2 ?_); simp <;> omega, below_drewN (Below.refl _ _) _⟩
                          · have g6d : decide (q.de > mo) = false := decide_eq_false g6
                            go_quiet (fail)
                            go_wp2
                            go_meet
                            case rel => exact ⟨by rw [Hbd.out]; refine congrArg Value.bool (Bool.eq_iff_iff.2 ?_); simp <;> omega, below_drewN (Below.refl _ _) _⟩
                · obtain ⟨z, hz⟩ : ∃ z, k = z + 1 := ⟨k - 1, by omega⟩
                  obtain ⟨p, hp0, hpl, hpp⟩ := Hprev.out z hz
                  have p0 := Hpc.out z p.id hp0
                  have hwz : IntKind.i64.wrap ((k : Int) - 1) = (z : Int) := by rw [IntKind.wrap_i64]; omega
                  have hzi : (z : Int) < t.qs.length := by omega
                  have gk1 : decide ((k : Int) > 0) = true := decide_eq_true (by omega)
                  have gk2 : decide (0 < (k : Int)) = true := decide_eq_true (by omega)
                  have gk3 : decide (0 < k) = true := decide_eq_true (by omega)
                  rw [hpl] at Hbd
                  clear hp0 hpl hz
                  by_cases g1 : q.id < 0
                  · have g1d : decide (q.id < 0) = true := decide_eq_true g1
                    go_quiet (fail)
                    go_wp2
                    go_meet
                    case rel => exact ⟨by rw [Hbd.out]; refine congrArg Value.bool (Bool.eq_iff_iff.2 ?_); simp <;> omega, below_drewN (Below.refl _ _) _⟩
                  · have g1d : decide (q.id < 0) = false := decide_eq_false g1
                    by_cases g2 : q.id ≤ p.id
                    · have g2d : decide (q.id ≤ p.id) = true := decide_eq_true g2
                      go_quiet (fail)
                      go_wp2
                      go_meet
                      case rel => exact ⟨by rw [Hbd.out]; refine congrArg Value.bool (Bool.eq_iff_iff.2 ?_); simp <;> omega, below_drewN (Below.refl _ _) _⟩
                    · have g2d : decide (q.id ≤ p.id) = false := decide_eq_false g2
                      by_cases g3 : q.qu < 1
                      · have g3d : decide (q.qu < 1) = true := decide_eq_true g3
                        go_quiet (fail)
                        go_wp2
                        go_meet
                        case rel => exact ⟨by rw [Hbd.out]; refine congrArg Value.bool (Bool.eq_iff_iff.2 ?_); simp <;> omega, below_drewN (Below.refl _ _) _⟩
                      · have g3d : decide (q.qu < 1) = false := decide_eq_false g3
                        by_cases g4 : q.qu > 65536
                        · have g4d : decide (q.qu > 65536) = true := decide_eq_true g4
                          go_quiet (fail)
                          go_wp2
                          go_meet
                          case rel => exact ⟨by rw [Hbd.out]; refine congrArg Value.bool (Bool.eq_iff_iff.2 ?_); simp <;> omega, below_drewN (Below.refl _ _) _⟩
                        · have g4d : decide (q.qu > 65536) = false := decide_eq_false g4
                          by_cases g5 : q.de < 0
                          · have g5d : decide (q.de < 0) = true := decide_eq_true g5
                            go_quiet (fail)
                            go_wp2
                            go_meet
                            case rel => exact ⟨by rw [Hbd.out]; refine congrArg Value.bool (Bool.eq_iff_iff.2 ?_); simp <;> omega, below_drewN (Below.refl _ _) _⟩
                          · have g5d : decide (q.de < 0) = false := decide_eq_false g5
                            by_cases g6 : q.de > mo
                            · have g6d : decide (q.de > mo) = true := decide_eq_true g6
                              go_quiet (fail)
                              go_wp2
                              go_meet
                              case rel => exact ⟨by rw [Hbd.out]; refine congrArg Value.bool (Bool.eq_iff_iff.2 ?_); simp <;> omega, below_drewN (Below.refl _ _) _⟩
                            · have g6d : decide (q.de > mo) = false := decide_eq_false g6
                              go_quiet (fail)
                              go_wp2
                              go_meet
                              case rel => exact ⟨by rw [Hbd.out]; refine congrArg Value.bool (Bool.eq_iff_iff.2 ?_); simp <;> omega, below_drewN (Below.refl _ _) _⟩
              case rest =>
                obtain ⟨hs, hbx⟩ := hcut
                subst hs
                rename World => w3
                have hm3 := Hm1.out.more hbx
                have Hm3 := Lib.hid hm3
                have hb63 := Hb6.out.below hbx Hb6.out.lt
                obtain ⟨x0, x1, x2⟩ := hm3.cells
                obtain ⟨q0, q1, q2, q3, _⟩ := hb63.four
                clear hm3 hb63 hbx Hb6 Hm1
                cases bd
                rotate_left
                · have hb := of_decide_eq_true Hbd.out.symm
                  have hj : J = 190 := HJ.out.symm.trans (chk_q Hqk.out (fun h => hb ⟨h.1, h.2.1, h.2.2.1, h.2.2.2.1, by rw [Hmo.out]; exact h.2.2.2.2.1⟩))
                  subst hj
                  clear hb
                  go_wp2
                  go_ret
                  exact ⟨rfl, Hm3.out.below⟩
                · have Hb := Lib.hid (Decidable.not_not.1 (of_decide_eq_false Hbd.out.symm))
                  by_cases he : q.cs.length = 0
                  · have he' : ((q.cs.length : Int) == 0) = true := by simp [he]
                    by_cases hd : q.de > 0
                    · have hj : J = 190 := HJ.out.symm.trans (chk_q Hqk.out (fun h => by have := h.2.2.2.2.2 he; omega))
                      subst hj
                      have He := Lib.hid he
                      clear he
                      go_wp2
                      go_ret
                      exact ⟨rfl, Hm3.out.below⟩
                    · have hokq : okQ t k q := ⟨Hb.out.1, Hb.out.2.1, Hb.out.2.2.1, Hb.out.2.2.2.1, by rw [← Hmo.out]; exact Hb.out.2.2.2.2, fun _ => by omega⟩
                      have Hokq := Lib.hid hokq
                      clear he hokq
                      go_wp2
                      have hk := Hk.out
                      go_roundg (gk - 1)
                      case measure => omega
                      case rel => exact ⟨k + 1, by omega, by go_num, ok_next Hqk.out Hok.out Hokq.out, Hm3.out⟩
                  · have he' : ((q.cs.length : Int) == 0) = false := by simp only [beq_eq_false_iff_ne, ne_eq]; omega
                    have hokq : okQ t k q := ⟨Hb.out.1, Hb.out.2.1, Hb.out.2.2.1, Hb.out.2.2.2.1, by rw [← Hmo.out]; exact Hb.out.2.2.2.2, fun h => absurd h he⟩
                    have Hokq := Lib.hid hokq
                    clear he hokq
                    go_wp2
                    have hk := Hk.out
                    go_roundg (gk - 1)
                    case measure => omega
                    case rel => exact ⟨k + 1, by omega, by go_num, ok_next Hqk.out Hok.out Hokq.out, Hm3.out⟩
        · have hki : ¬ (k : Int) < t.qs.length := by omega
          have hqs : okQs t := fun i q hi => hok i q (by have := (List.getElem?_eq_some_iff.1 hi).1; omega) hi
          have Hqs := Lib.hid hqs
          clear hqs hok hk hm hkl hkn
          go_wp2
          go_loopg [6] t.qs.length (fun g vi wx => ∃ k : Nat, g + k = t.qs.length ∧ vi = .int .i64 (k : Nat) ∧ (∀ (j : Nat) (q : Qu), j < k → t.qs[j]? = some q → ∀ c ∈ q.cs, 1 ≤ c ∧ c ≤ 1048576) ∧ wr = wx)
          case atStart => exact ⟨0, by omega, rfl, (by intro j q hj; omega), rfl⟩
          case round =>
            obtain ⟨k2, hk, rfl, hcs, rfl⟩ := hrel
            have hkn : k2 ≤ t.qs.length := by omega
            have Hk2 := Lib.hid hk
            have Hcs := Lib.hid hcs
            clear hk hcs
            by_cases hkl : k2 < t.qs.length
            · have hk2i : (k2 : Int) < t.qs.length := by omega
              have hq' := Hq.out.below (Hm.out.below.mono hB)
              obtain ⟨b, o, q, rfl, hbl, hqk, q0, q1, q2, Aq, cq, q3, hcq, hcqm, hin⟩ := hq'.at_ hkl
              have Hqk := Lib.hid hqk
              have Hin := Lib.hid hin
              unfold maxLen at hcqm
              clear hq' hqk hin hki
              go_wp2
              go_loopg [7] q.cs.length (fun g vi wx => ∃ i : Nat, g + i = q.cs.length ∧ vi = .int .i64 (i : Nat) ∧ (∀ (e : Nat) (x : Int), e < i → q.cs[e]? = some x → 1 ≤ x ∧ x ≤ 1048576) ∧ wr = wx)
              case atStart => exact ⟨0, by omega, rfl, (by intro e x he; omega), rfl⟩
              case round =>
                obtain ⟨i, hi, rfl, hx, rfl⟩ := hrel
                have hin : i ≤ q.cs.length := by omega
                have Hi := Lib.hid hi
                have Hx := Lib.hid hx
                clear hi hx
                by_cases hil : i < q.cs.length
                · have hii : (i : Int) < q.cs.length := by omega
                  obtain ⟨ib, io, x, e, _, hxi, z0⟩ := Hin.out.at_ hil
                  subst e
                  have Hxi := Lib.hid hxi
                  clear hxi
                  have bad : ¬ (1 ≤ x ∧ x ≤ 1048576) → J = 191 := fun h => HJ.out.symm.trans (chk_cs hlen Hqs.out Hat.out (fun h' => h (h' q (List.mem_of_getElem? Hqk.out) x (List.mem_of_getElem? Hxi.out))))
                  have Bad := Lib.hid bad
                  clear bad
                  by_cases h1 : x < 1
                  · have hj : J = 191 := Bad.out (by omega)
                    subst hj
                    clear Bad
                    go_wp2
                    go_ret
                    exact ⟨rfl, Hm.out.below⟩
                  · by_cases h2 : x > 1048576
                    · have hj : J = 191 := Bad.out (by omega)
                      subst hj
                      clear Bad
                      go_wp2
                      go_ret
                      exact ⟨rfl, Hm.out.below⟩
                    · clear Bad
                      go_wp2
                      have hi := Hi.out
                      go_roundg (q.cs.length - (i + 1))
                      case measure => omega
                      case rel => exact ⟨i + 1, by omega, by go_num, fun e y he hy => by
                        rcases Nat.lt_or_ge e i with h | h
                        · exact Hx.out e y h hy
                        · obtain rfl : e = i := by omega
                          rw [Hxi.out] at hy
                          injection hy with hy
                          omega, rfl⟩
                · have hii : ¬ (i : Int) < q.cs.length := by omega
                  have Hie := Lib.hid (show i = q.cs.length by omega)
                  clear hil
                  go_wp2
                  have hk := Hk2.out
                  go_roundg (t.qs.length - (k2 + 1))
                  case measure => omega
                  case rel => exact ⟨k2 + 1, by omega, by go_num, fun j p hj hp cc hcc => by
                    rcases Nat.lt_or_ge j k2 with h | h
                    · exact Hcs.out j p h hp cc hcc
                    · obtain rfl : j = k2 := by omega
                      rw [Hqk.out] at hp
                      injection hp with hp
                      subst hp
                      obtain ⟨e, he⟩ := List.mem_iff_getElem?.1 hcc
                      exact Hx.out e cc (by have := (List.getElem?_eq_some_iff.1 he).1; have := Hie.out; omega) he, rfl⟩
            · have hk2i : ¬ (k2 : Int) < t.qs.length := by omega
              have hj : J = 0 := HJ.out.symm.trans (chk_zero.2 ⟨hlen, Hqs.out, Hat.out, fun q hq => by
                obtain ⟨j, hj⟩ := List.mem_iff_getElem?.1 hq
                exact Hcs.out j q (by have := (List.getElem?_eq_some_iff.1 hj).1; omega) hj⟩)
              subst hj
              clear hkl hkn
              go_wp2
              go_ret
              exact ⟨rfl, Hm.out.below⟩
end Go.Proofs.Ytgbjhkgbjnobcaa
