/- The walk of the document's own 'Class': it computes 'Cls.served' and 'Cls.wait', too. Conditions: none. -/
import Derived.Test.YtgbjhkgbjnobcaaClassWalk
namespace Go.Proofs.Ytgbjhkgbjnobcaa
open Go.RowKit
attribute [local go_sem high] run_max_mx run_min_mn

set_option maxHeartbeats 4000000 in
theorem classRef_any (c : Nat → Int) (wk : Nat → Bool) (pick : Int) (w : World) :
    Calls Try.prog 11 #[.agg (c4 c), .agg #[.bool (wk 0), .bool (wk 1), .bool (wk 2), .bool (wk 3)], .int .i64 pick] w fun e w' =>
      e = .returned (.tuple #[.agg (c4 (Cls.wait c wk (Cls.served c wk pick))), .int .i64 (Cls.served c wk pick)]) ∧ Below w.heap.size w w' := by
  unfold c4
  go_enter Try.func11, Try.ntmps11
  go_wp2
  go_loopg [8, 9, 10] 4 (fun g s an i wr => ∃ k : Nat, g + k = 4 ∧ i = .int .i64 k ∧ s = .int .i64 (Cls.best c wk k) ∧ an = .bool (Cls.anyw wk k) ∧ ClMem w (c4 (cw c k)) wk wr)
  case atStart => exact ⟨0, by omega, rfl, rfl, rfl, ClMem.start w _ wk⟩
  case round =>
    obtain ⟨k, hk, rfl, rfl, rfl, hm⟩ := hrel
    have hkg := Lib.hid hk
    have hk4 : k ≤ 4 := by omega
    clear hk
    by_cases hlt : k < 4
    · have hi : (k : Int) < 4 := by omega
      have hwk4 : wr.cell? ⟨w.heap.size + 1, k, none⟩ = some (.bool (wk k)) := by rw [hm.work.cell, b4_at _ hlt]
      have hck : wr.cell? ⟨w.heap.size, k, none⟩ = some (.int .i64 (c k)) := by
        rw [hm.counts.cell, c4_at _ hlt]; simp [cw]
      have hfk := hm.counts.frozen k
      have hb := Cls.best_bd c wk k
      cases han : Cls.anyw wk k
      all_goals
        go_wp2
        have hm2 := hm.set_ k (.int .i64 (Cls.cl (c k)))
        rw [c4_set _ hlt, cw_next] at hm2
        rw [Cls.cl_ref (c k)]
        clear hm hck hfk hwk4
        generalize wr.setCell ⟨w.heap.size, k, none⟩ (.int .i64 (Cls.cl (c k))) = w2 at *
        have hck := hm2.counts.cell k
        rw [c4_at _ hlt] at hck
        simp only [cw, Nat.lt_succ_self, if_true] at hck
        have hbc : 0 ≤ Cls.best c wk k → w2.cell? ⟨w.heap.size, (Cls.best c wk k).toNat, none⟩ = some (.int .i64 (Cls.cl (c (Cls.best c wk k).toNat))) := fun h0 => by
          rw [hm2.counts.cell, c4_at _ (by omega), cw, if_pos (by omega)]
        have hwk4 : w2.cell? ⟨w.heap.size + 1, k, none⟩ = some (.bool (wk k)) := by rw [hm2.work.cell, b4_at _ hlt]
        have Hm := Lib.hid hm2
        have Han := Lib.hid han
        clear hm2 han
        cases hwk : wk k
        · go_quiet (fail)
          go_wp2
          have hkg := hkg.out
          go_roundg (gk - 1)
          case measure => omega
          case rel => exact ⟨k + 1, by omega, by go_num, by simp [Cls.best, Cls.takes, hwk], by simp [Cls.anyw, Han.out, hwk], Hm.out.drewN _⟩
        · by_cases h13 : 13 ≤ Cls.cl (c k)
          · by_cases hb0 : Cls.best c wk k < 0
            · go_quiet (fail)
              go_wp2
              have hkg := hkg.out
              go_roundg (gk - 1)
              case measure => omega
              case rel => exact ⟨k + 1, by omega, by go_num, by simp [Cls.best, Cls.takes, hwk, h13, hb0], by simp [Cls.anyw, hwk], Hm.out.drewN _⟩
            · have hb1 : 0 ≤ Cls.best c wk k := by omega
              have hbc := hbc hb1
              have hb2 := hb.2
              go_quiet (fail)
              go_wp2
              · have hkg := hkg.out
                go_roundg (gk - 1)
                case measure => omega
                case rel => exact ⟨k + 1, by omega, by go_num, by simp [Cls.best, Cls.takes, *], by simp [Cls.anyw, hwk], Hm.out.drewN _⟩
              · have hkg := hkg.out
                go_roundg (gk - 1)
                case measure => omega
                case rel => exact ⟨k + 1, by omega, by go_num, by simp [Cls.best, Cls.takes, hwk, h13, Int.not_lt.2 ‹Cls.cl (c k) ≤ _›]; intros; omega, by simp [Cls.anyw, hwk], Hm.out.drewN _⟩
          · go_quiet (fail)
            go_wp2
            have hkg := hkg.out
            go_roundg (gk - 1)
            case measure => omega
            case rel => exact ⟨k + 1, by omega, by go_num, by simp [Cls.best, Cls.takes, hwk]; intros; omega, by simp [Cls.anyw, hwk], Hm.out.drewN _⟩
    · obtain rfl : k = 4 := by omega
      clear hkg
      cases han : Cls.anyw wk 4
      · have hs := Cls.served_no c wk pick han
        have hw := Lib.hid (Cls.wait_no c wk (Cls.served c wk pick) han)
        obtain ⟨r0, r1, r2, r3, s0, s1, s2, s3⟩ := hm.res.four
        have hbel := Lib.hid hm.below
        have hs := Lib.hid hs
        clear hm
        go_wp2
        have hw := hw.out
        rw [hs.out] at hw
        refine bodyPost_ret (v := .tuple #[.agg #[.int .i64 0, .int .i64 0, .int .i64 0, .int .i64 0], .int .i64 (-1)]) (by simp [results, Try.results11, go_sem, r0, r1, r2, r3]) rfl ⟨?_, ?_⟩
        · rw [hs.out, hw 0 (by omega), hw 1 (by omega), hw 2 (by omega), hw 3 (by omega)]
        · exact (((hbel.out.setCell (by simp; omega) _).setCell (by simp; omega) _).setCell (by simp; omega) _).setCell (by simp; omega) _
      · have hf := Cls.first_lt pick
        have hf2 := Cls.tmod4 pick
        have hsb := Cls.served_bd c wk pick
        have hx0 : ClMem w (c4 (cx c wk (Cls.served c wk pick) 0)) wk wr := by
          have e : cx c wk (Cls.served c wk pick) 0 = cw c 4 := by funext j; simp [cx]
          rw [e]; exact hm
        have Hx := Lib.hid hx0
        have Han := Lib.hid han
        clear hx0 hm
        rw [← Cls.sofar_zero c wk pick]
        by_cases hs0 : Cls.sofar c wk pick 0 < 0
        · go_wp2
          rw [Cls.first_eq' pick]
          clear hf2
          have Hs0 := Lib.hid hs0
          clear hs0
          go_loopg [8] 4 (fun g s wr => ∃ k : Nat, g + k = 4 ∧ k < 4 ∧ s = .int .i64 ((Cls.first pick + k) % 4 : Nat) ∧ Hid (Cls.sofar c wk pick k < 0) ∧ ClMem w (c4 (cx c wk (Cls.served c wk pick) 0)) wk wr)
          case atStart => exact ⟨0, by omega, by omega, by rw [Nat.add_zero, Nat.mod_eq_of_lt hf], Hs0, Hx.out⟩
          case round =>
            clear Hx Hs0
            obtain ⟨k, hk, hk4, rfl, hs0, hm⟩ := hrel
            have hkg := Lib.hid hk
            clear hk
            have hwc : wr.cell? ⟨w.heap.size + 1, (Cls.first pick + k) % 4, none⟩ = some (.bool (wk ((Cls.first pick + k) % 4))) := by rw [hm.work.cell, b4_at _ (by omega)]
            have hn := Lib.hid (Cls.sofar_next c wk pick k hs0.out)
            have Hx := Lib.hid hm
            clear hm
            have hlt : (Cls.first pick + k) % 4 < 4 := Nat.mod_lt _ (by omega)
            have hnx : (Cls.first pick + (k + 1)) % 4 = ((Cls.first pick + k) % 4 + 1) % 4 := by omega
            have Hnx := Lib.hid hnx
            clear hnx
            cases hwk : wk ((Cls.first pick + k) % 4)
            · have hn2 : Cls.sofar c wk pick (k + 1) < 0 := by rw [hn.out, hwk, if_neg (by simp)]; omega
              have hmore := Cls.sofar_more c wk pick (k + 1) Han.out hn2
              have hn2 := Lib.hid hn2
              generalize (Cls.first pick + k) % 4 = q at *
              go_wp2
              have hkg := hkg.out
              go_roundg (gk - 1)
              case measure => omega
              case rel => exact ⟨k + 1, by omega, by omega, by rw [Hnx.out]; go_num, hn2, Hx.out⟩
            · have hse : (((Cls.first pick + k) % 4 : Nat) : Int) = Cls.served c wk pick := by
                rw [← Cls.sofar_end c wk pick (k + 1) (by omega) (by rw [hn.out, hwk, if_pos rfl]; omega), hn.out, hwk, if_pos rfl]
              clear Hnx
              generalize (Cls.first pick + k) % 4 = q at *
              have Hse := Lib.hid hse
              clear hse
              go_wp2
              rw [Hse.out]
              clear Hse hn
              go_loopg [11] 4 (fun g i wr => ∃ k : Nat, g + k = 4 ∧ i = .int .i64 k ∧ ClMem w (c4 (cx c wk (Cls.served c wk pick) k)) wk wr)
              case atStart => exact ⟨0, by omega, rfl, Hx.out⟩
              case round =>
                clear Hx
                obtain ⟨j, hj, rfl, hm⟩ := hrel
                have hjg := Lib.hid hj
                have hj4 : j ≤ 4 := by omega
                clear hj
                by_cases hjt : j < 4
                · have hji : (j : Int) < 4 := by omega
                  have hck : wr.cell? ⟨w.heap.size, j, none⟩ = some (.int .i64 (Cls.cl (c j))) := by
                    rw [hm.counts.cell, c4_at _ hjt]; simp [cx, cw, hjt]
                  have hwk4 : wr.cell? ⟨w.heap.size + 1, j, none⟩ = some (.bool (wk j)) := by rw [hm.work.cell, b4_at _ hjt]
                  have hfk := hm.counts.frozen j
                  have hb := Cls.cl_bd (c j)
                  have Hm := Lib.hid hm
                  clear hm
                  by_cases hjs : (j : Int) = Cls.served c wk pick
                  · have hne : ((j : Int) == Cls.served c wk pick) = true := by rw [hjs]; simp
                    have Hjs := Lib.hid hjs
                    clear hjs
                    go_wp2
                    have hjg := hjg.out
                    have hm2 := Hm.out.set_ j (.int .i64 (Cls.wait c wk (Cls.served c wk pick) j))
                    rw [c4_set _ hjt, cx_next] at hm2
                    have hw0 : Cls.wait c wk (Cls.served c wk pick) j = 0 := by simp [Cls.wait, Hjs.out]
                    rw [hw0] at hm2
                    go_roundg (gk - 1)
                    case measure => omega
                    case rel => exact ⟨j + 1, by omega, by go_num, hm2⟩
                  · have hne : ((j : Int) == Cls.served c wk pick) = false := by simp [hjs]
                    have Hjs := Lib.hid hjs
                    clear hjs
                    cases hwk : wk j
                    · go_wp2
                      have hjg := hjg.out
                      have hm2 := Hm.out.set_ j (.int .i64 (Cls.wait c wk (Cls.served c wk pick) j))
                      rw [c4_set _ hjt, cx_next] at hm2
                      have hw0 : Cls.wait c wk (Cls.served c wk pick) j = 0 := by simp [Cls.wait, hwk]
                      rw [hw0] at hm2
                      go_roundg (gk - 1)
                      case measure => omega
                      case rel => exact ⟨j + 1, by omega, by go_num, hm2⟩
                    · go_wp2
                      have hjg := hjg.out
                      have hm2 := Hm.out.set_ j (.int .i64 (Cls.wait c wk (Cls.served c wk pick) j))
                      rw [c4_set _ hjt, cx_next] at hm2
                      have hw0 : Cls.wait c wk (Cls.served c wk pick) j = Cls.cl (c j) + 1 := by simp [Cls.wait, Hjs.out, hwk]
                      rw [hw0] at hm2
                      go_roundg (gk - 1)
                      case measure => omega
                      case rel => exact ⟨j + 1, by omega, by go_num, hm2⟩
                · obtain rfl : j = 4 := by omega
                  obtain ⟨a0, a1, a2, a3, _⟩ := hm.counts.four
                  obtain ⟨r0, r1, r2, r3, s0, s1, s2, s3⟩ := hm.res.four
                  have hbel := Lib.hid hm.below
                  simp only [cx, Nat.reduceLT, if_true] at a0 a1 a2 a3
                  clear hm
                  go_wp2
                  refine bodyPost_ret (v := .tuple #[.agg (c4 (Cls.wait c wk (Cls.served c wk pick))), .int .i64 (Cls.served c wk pick)]) (by simp [results, Try.results11, go_sem, c4, r0, r1, r2, r3]) rfl ⟨rfl, ?_⟩
                  exact (((hbel.out.setCell (by simp; omega) _).setCell (by simp; omega) _).setCell (by simp; omega) _).setCell (by simp; omega) _

        · have hse := Cls.sofar_end c wk pick 0 (by omega) (by omega)
          rw [hse] at hs0 ⊢
          clear hf2 hse
          go_wp2
          go_loopg [11] 4 (fun g i wr => ∃ k : Nat, g + k = 4 ∧ i = .int .i64 k ∧ ClMem w (c4 (cx c wk (Cls.served c wk pick) k)) wk wr)
          case atStart => exact ⟨0, by omega, rfl, Hx.out⟩
          case round =>
            clear Hx
            obtain ⟨j, hj, rfl, hm⟩ := hrel
            have hjg := Lib.hid hj
            have hj4 : j ≤ 4 := by omega
            clear hj
            by_cases hjt : j < 4
            · have hji : (j : Int) < 4 := by omega
              have hck : wr.cell? ⟨w.heap.size, j, none⟩ = some (.int .i64 (Cls.cl (c j))) := by
                rw [hm.counts.cell, c4_at _ hjt]; simp [cx, cw, hjt]
              have hwk4 : wr.cell? ⟨w.heap.size + 1, j, none⟩ = some (.bool (wk j)) := by rw [hm.work.cell, b4_at _ hjt]
              have hfk := hm.counts.frozen j
              have hb := Cls.cl_bd (c j)
              have Hm := Lib.hid hm
              clear hm
              by_cases hjs : (j : Int) = Cls.served c wk pick
              · have hne : ((j : Int) == Cls.served c wk pick) = true := by rw [hjs]; simp
                have Hjs := Lib.hid hjs
                clear hjs
                go_wp2
                have hjg := hjg.out
                have hm2 := Hm.out.set_ j (.int .i64 (Cls.wait c wk (Cls.served c wk pick) j))
                rw [c4_set _ hjt, cx_next] at hm2
                have hw0 : Cls.wait c wk (Cls.served c wk pick) j = 0 := by simp [Cls.wait, Hjs.out]
                rw [hw0] at hm2
                go_roundg (gk - 1)
                case measure => omega
                case rel => exact ⟨j + 1, by omega, by go_num, hm2⟩
              · have hne : ((j : Int) == Cls.served c wk pick) = false := by simp [hjs]
                have Hjs := Lib.hid hjs
                clear hjs
                cases hwk : wk j
                · go_wp2
                  have hjg := hjg.out
                  have hm2 := Hm.out.set_ j (.int .i64 (Cls.wait c wk (Cls.served c wk pick) j))
                  rw [c4_set _ hjt, cx_next] at hm2
                  have hw0 : Cls.wait c wk (Cls.served c wk pick) j = 0 := by simp [Cls.wait, hwk]
                  rw [hw0] at hm2
                  go_roundg (gk - 1)
                  case measure => omega
                  case rel => exact ⟨j + 1, by omega, by go_num, hm2⟩
                · go_wp2
                  have hjg := hjg.out
                  have hm2 := Hm.out.set_ j (.int .i64 (Cls.wait c wk (Cls.served c wk pick) j))
                  rw [c4_set _ hjt, cx_next] at hm2
                  have hw0 : Cls.wait c wk (Cls.served c wk pick) j = Cls.cl (c j) + 1 := by simp [Cls.wait, Hjs.out, hwk]
                  rw [hw0] at hm2
                  go_roundg (gk - 1)
                  case measure => omega
                  case rel => exact ⟨j + 1, by omega, by go_num, hm2⟩
            · obtain rfl : j = 4 := by omega
              obtain ⟨a0, a1, a2, a3, _⟩ := hm.counts.four
              obtain ⟨r0, r1, r2, r3, s0, s1, s2, s3⟩ := hm.res.four
              have hbel := Lib.hid hm.below
              simp only [cx, Nat.reduceLT, if_true] at a0 a1 a2 a3
              clear hm
              go_wp2
              refine bodyPost_ret (v := .tuple #[.agg (c4 (Cls.wait c wk (Cls.served c wk pick))), .int .i64 (Cls.served c wk pick)]) (by simp [results, Try.results11, go_sem, c4, r0, r1, r2, r3]) rfl ⟨rfl, ?_⟩
              exact (((hbel.out.setCell (by simp; omega) _).setCell (by simp; omega) _).setCell (by simp; omega) _).setCell (by simp; omega) _

end Go.Proofs.Ytgbjhkgbjnobcaa
