/- The walks of the document's Judge, Refuse. Conditions: the table's list is a right one. -/
import Derived.Test.YtmcahimapoddfaaRefFold
import Derived.Test.YtmcahimapoddfaaNote
namespace Go.Proofs.Ytmcahimapoddfaa
open Go.RowKit Go.Maps

theorem judgeRef_bad (p s : Int) : (¬ (p = 0 ∧ s = 0) ∧ goodB p s = false) ↔ (p < 0 ∨ 4294967296 ≤ p ∨ (p = 0 ∧ ¬ s = 0) ∨ (0 < p ∧ (s < 1 ∨ 1099511627776 ≤ s))) := by
  unfold goodB
  rw [decide_eq_false_iff_not]
  omega

set_option maxRecDepth 100000 in
set_option maxHeartbeats 4000000 in
theorem judgeRef_any (c : Nat) (v : Value) (l : List Pr) (w : World) (hc : Blk w c 87 #[v]) (hv : PS w v l) (hl : NewOk l) (p s : Int) :
    Calls Try.prog 40 #[.pointer (some ⟨c, 0, none⟩), .int .i64 p, .int .i64 s] w fun e w' => e = .returned (.tuple #[.int .i64 (judge l p s).1, .int .i64 (judge l p s).2]) ∧ Below w.heap.size w w' := by
  have hris := (newOk_iff.1 hl).2.1
  have hall := (newOk_iff.1 hl).2.2
  have h64 := hl.1
  have tc := hc.cell 0
  simp only [List.getElem?_toArray, List.getElem?_cons_zero] at tc
  have hcl := hc.lt
  have HV := Lib.hid hv
  obtain ⟨A, cv, rfl, h1, h2, hn, h3⟩ := hv
  unfold maxLen at h2
  have H3 := Lib.hid h3
  have Hris := Lib.hid hris
  obtain ⟨bd, hbd⟩ : ∃ bd, bd = decide (p < 0 ∨ 4294967296 ≤ p ∨ (p = 0 ∧ ¬ s = 0) ∨ (0 < p ∧ (s < 1 ∨ 1099511627776 ≤ s))) := ⟨_, rfl⟩
  have Hbd := Lib.hid hbd
  have Hall := Lib.hid hall
  have Hbi := Lib.hid (judgeRef_bad p s)
  obtain ⟨J, hJ⟩ : ∃ J, judge l p s = J := ⟨_, rfl⟩
  rw [hJ]
  have HJ := Lib.hid hJ
  clear hc hn h3 hris hall hbd hl hJ
  go_enter Try.func40, Try.ntmps40
  go_upto_region 1 with fail
  go_cut [1, 2, 39] (fun a b x wx => a = .int .i64 p ∧ b = .int .i64 s ∧ x = .bool bd ∧ w = wx)
  case first =>
    go_wp2
    all_goals (go_meet; (case rel => exact ⟨by first | rfl | (simp <;> omega), by first | rfl | (simp <;> omega), by rw [Hbd.out]; refine congrArg Value.bool (Bool.eq_iff_iff.2 ?_); simp <;> omega, rfl⟩))
  case rest =>
    obtain ⟨rfl, rfl, rfl, rfl⟩ := hcut
    cases bd
    rotate_left
    · have hb := of_decide_eq_true Hbd.out.symm
      obtain ⟨hz, hg⟩ := Hbi.out.2 hb
      have hj : J = (-1, 0) := HJ.out.symm.trans (judge_bad (l := l) hz hg)
      subst hj
      clear hb hz hg
      go_wp2
      go_ret2
      exact ⟨rfl, Below.refl _ _⟩
    · have hb := of_decide_eq_false Hbd.out.symm
      have hng := fun h => hb (Hbi.out.1 h)
      have Hng := Lib.hid hng
      clear hb hng
      by_cases hp : p = 0
      · have hp' : (p == 0) = true := by simpa using hp
        have hs : s = 0 := by
          refine Decidable.byContradiction fun h => Hng.out ⟨fun h' => h h'.2, ?_⟩
          unfold goodB
          rw [decide_eq_false_iff_not]
          omega
        have hj : J = (0, 0) := HJ.out.symm.trans (judge_free (l := l) (p := p) (s := s) ⟨hp, hs⟩)
        subst hj
        clear hp hs
        go_wp2
        go_ret2
        exact ⟨rfl, Below.refl _ _⟩
      · have hp' : (p == 0) = false := by simpa using hp
        have hg : goodB p s = true := by
          rcases Bool.eq_false_or_eq_true (goodB p s) with h | h
          · exact h
          · exact absurd ⟨fun h' => hp h'.1, h⟩ Hng.out
        have Hg := Lib.hid hg
        clear hp hg Hng Hbd Hbi
        rcases hlk : look l p with _ | q
        · have cF := find_no HV.out Hris.out hlk
          have hjn := judge_none Hg.out hlk
          clear hlk
          by_cases hs : s = 1
          · have hs' : (s != 1) = false := by simp [hs]
            by_cases hf : 64 ≤ l.length
            · have hfi : (l.length : Int) ≥ 64 := by omega
              have hj : J = (5, 0) := HJ.out.symm.trans (by rw [hjn, if_neg (not_not_intro hs), if_pos hf])
              subst hj
              clear hjn hs hf
              go_wp2_with (go_at_call 33; refine cF.mono ?_; rintro e w4 ⟨rfl, rfl⟩)
              go_ret2
              exact ⟨rfl, Below.refl _ _⟩
            · have hfi : ¬ (l.length : Int) ≥ 64 := by omega
              have hj : J = (1, 0) := HJ.out.symm.trans (by rw [hjn, if_neg (not_not_intro hs), if_neg hf])
              subst hj
              clear hjn hs hf
              go_wp2_with (go_at_call 33; refine cF.mono ?_; rintro e w4 ⟨rfl, rfl⟩)
              go_ret2
              exact ⟨rfl, Below.refl _ _⟩
          · have hs' : (s != 1) = true := by simpa using hs
            have hj : J = (4, 0) := HJ.out.symm.trans (by rw [hjn, if_pos hs])
            subst hj
            clear hjn hs
            go_wp2_with (go_at_call 33; refine cF.mono ?_; rintro e w4 ⟨rfl, rfl⟩)
            go_ret2
            exact ⟨rfl, Below.refl _ _⟩
        · have hok := Hall.out q (look_mem hlk).1
          unfold okPr at hok
          have cF := find_yes HV.out Hris.out hlk
          have hjs := judge_some Hg.out hlk
          have Hjs := Lib.hid hjs
          have hwr : IntKind.i64.wrap (q.seq + 1) = q.seq + 1 := by rw [IntKind.wrap_i64]; omega
          clear hlk hjs
          go_upto_region 6 with (go_at_call 33; refine cF.mono ?_; rintro e w4 ⟨⟨j, rfl, hj⟩, rfl⟩)
          have hjl := (List.getElem?_eq_some_iff.1 hj).1
          have hji : (j : Int) < l.length := by omega
          have hj0 : ¬ (j : Int) < 0 := by omega
          obtain ⟨lb, lo, he, hll, hlc⟩ := H3.out (by omega)
          subst he
          obtain ⟨y0, y1, y2⟩ := hlc j q hj
          have x0 := (Blk.new w 67 #[.int .i64 q.pid, .int .i64 q.seq, .int .i64 q.off]).cell 0
          have x1 := (Blk.new w 67 #[.int .i64 q.pid, .int .i64 q.seq, .int .i64 q.off]).cell 1
          have x2 := (Blk.new w 67 #[.int .i64 q.pid, .int .i64 q.seq, .int .i64 q.off]).cell 2
          simp only [List.getElem?_toArray, List.getElem?_cons_zero, List.getElem?_cons_succ] at x0 x1 x2
          have Hb1 := Lib.hid ((Below.refl w.heap.size w).alloc (Nat.le_refl _) (.cells #[.int .i64 q.pid, .int .i64 q.seq, .int .i64 q.off] 67))
          clear hlc hj hok cF
          go_upto_region 13 with fail
          clear y0 y1 y2 tc
          generalize hW1 : w.alloc (.cells #[.int .i64 q.pid, .int .i64 q.seq, .int .i64 q.off] 67) = w1 at *
          clear hW1
          by_cases h1 : s = q.seq
          · have h1' : (s == q.seq) = true := by simpa using h1
            have hj : J = (2, q.off) := HJ.out.symm.trans (by rw [Hjs.out, if_pos h1])
            subst hj
            clear Hjs h1
            go_upto_region 14 with fail
            go_quiet (fail)
            go_wp2
            go_ret2
            exact ⟨rfl, below_drewN Hb1.out _⟩
          · have h1' : (s == q.seq) = false := by simpa using h1
            by_cases h3 : s = q.seq + 1
            · have h3' : (s == q.seq + 1) = true := by simpa using h3
              have hj : J = (1, 0) := HJ.out.symm.trans (by rw [Hjs.out, if_neg h1, if_neg (by omega), if_neg (not_not_intro h3)])
              subst hj
              clear Hjs h1 h3
              go_wp2
              go_ret2
              exact ⟨rfl, Hb1.out⟩
            · have h3' : (s == q.seq + 1) = false := by simpa using h3
              by_cases h2 : s < q.seq
              · have hj : J = (3, 0) := HJ.out.symm.trans (by rw [Hjs.out, if_neg h1, if_pos h2])
                subst hj
                clear Hjs h1 h3
                go_wp2
                go_ret2
                exact ⟨rfl, Hb1.out⟩
              · have hj : J = (4, 0) := HJ.out.symm.trans (by rw [Hjs.out, if_neg h1, if_neg h2, if_pos h3])
                subst hj
                clear Hjs h1 h3
                go_wp2
                go_ret2
                exact ⟨rfl, Hb1.out⟩
end Go.Proofs.Ytmcahimapoddfaa
