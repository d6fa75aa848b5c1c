/- The walk of the document's Right. Conditions: the list is readable. -/
import Derived.Test.YtmcahimapoddfaaRefFind
namespace Go.Proofs.Ytmcahimapoddfaa
open Go.RowKit Go.Maps

set_option maxRecDepth 100000 in
set_option maxHeartbeats 4000000 in
theorem right_any (v : Value) (ps : List Pr) (w : World) (h : PS w v ps) (r : Bool) (hr : r = true ↔ NewOk ps) :
    Calls Try.prog 31 #[v] w fun e w' => e = .returned (.bool r) ∧ Below w.heap.size w w' := by
  have Hr := Lib.hid hr
  clear hr
  obtain ⟨A, c, rfl, h1, h2, hnn, h3⟩ := h
  unfold maxLen at h2
  clear hnn
  have H := Lib.hid h3
  clear h3
  by_cases hlen : 64 < ps.length
  · have hli : (ps.length : Int) > 64 := by omega
    have hr : r = false := by
      cases r
      · rfl
      · have := (Hr.out.1 rfl).1; omega
    subst hr
    go_enter Try.func31, Try.ntmps31
    go_wp2
    go_ret
    exact ⟨rfl, Below.refl _ _⟩
  · have hli : ¬ (ps.length : Int) > 64 := by omega
    go_enter Try.func31, Try.ntmps31
    go_wp2
    go_loopg [3, 4] ps.length (fun g vl vi wr => ∃ k : Nat, g + k = ps.length ∧ vi = .int .i64 (k : Nat) ∧ vl = .int .i64 (lastPid ps k) ∧ (∀ (j : Nat) (p : Pr), j < k → ps[j]? = some p → okPr p ∧ lastPid ps j < p.pid) ∧ Below w.heap.size w wr)
    case atStart => exact ⟨0, by omega, rfl, rfl, fun j p h => absurd h (by omega), Below.refl _ _⟩
    case round =>
      obtain ⟨k, hk, rfl, rfl, hok, hbw⟩ := hrel
      have hkn : k ≤ ps.length := by omega
      have Hk := Lib.hid hk
      have Hok := Lib.hid hok
      have Hbw := Lib.hid hbw
      clear hk hok hbw
      by_cases hkl : k < ps.length
      · have hki : (k : Int) < ps.length := by omega
        obtain ⟨b, o, he, hbl, hc⟩ := H.out (by omega)
        subst he
        obtain ⟨p, hp⟩ : ∃ p, ps[k]? = some p := ⟨_, List.getElem?_eq_getElem hkl⟩
        obtain ⟨q0, q1, q2⟩ := hc k p hp
        have y0 := (Hbw.out.cell (p := ⟨b, o + k * 3, none⟩) hbl).trans q0
        have y1 := (Hbw.out.cell (p := ⟨b, o + k * 3 + 1, none⟩) hbl).trans q1
        have y2 := (Hbw.out.cell (p := ⟨b, o + k * 3 + 2, none⟩) hbl).trans q2
        have hnext : lastPid ps (k + 1) = p.pid := by simp [lastPid, List.getD_eq_getElem?_getD, hp]
        have Hnext := Lib.hid hnext
        have Hp := Lib.hid hp
        obtain ⟨bd, hbd⟩ : ∃ bd, bd = decide (¬ ((1 ≤ p.pid ∧ p.pid < 4294967296 ∧ 1 ≤ p.seq ∧ p.seq < 1099511627776 ∧ 0 ≤ p.off ∧ p.off < 1099511627776) ∧ lastPid ps k < p.pid)) := ⟨_, rfl⟩
        have Hbd := Lib.hid hbd
        clear hp hc q0 q1 q2 hbl hbd hnext
        have hl0 : 0 ≤ lastPid ps k := by
          rcases Nat.eq_zero_or_pos k with h0 | h0
          · subst h0; exact Int.le_refl _
          · obtain ⟨z, rfl⟩ : ∃ z, k = z + 1 := ⟨k - 1, by omega⟩
            have hz : ps[z]? = some ps[z] := List.getElem?_eq_getElem (by omega)
            have := (Hok.out z _ (by omega) hz).1
            unfold okPr at this
            simp only [lastPid, List.getD_eq_getElem?_getD, hz, Option.getD_some]
            omega
        obtain ⟨lp, hlp⟩ : ∃ lp, lastPid ps k = lp := ⟨_, rfl⟩
        rw [hlp] at hl0
        rw [hlp] at Hbd
        have Hlp := Lib.hid hlp
        rw [hlp]
        clear hlp
        go_upto_region 8 with fail
        have b0 := (Blk.new wr 67 #[.int .i64 p.pid, .int .i64 p.seq, .int .i64 p.off]).cell 0
        have b1 := (Blk.new wr 67 #[.int .i64 p.pid, .int .i64 p.seq, .int .i64 p.off]).cell 1
        have b2 := (Blk.new wr 67 #[.int .i64 p.pid, .int .i64 p.seq, .int .i64 p.off]).cell 2
        simp only [List.getElem?_toArray, List.getElem?_cons_zero, List.getElem?_cons_succ] at b0 b1 b2
        have Hb1 := Lib.hid (Hbw.out.alloc Hbw.out.size (.cells #[.int .i64 p.pid, .int .i64 p.seq, .int .i64 p.off] 67))
        clear y0 y1 y2
        generalize hW1 : wr.alloc (.cells #[.int .i64 p.pid, .int .i64 p.seq, .int .i64 p.off] 67) = w1 at *
        clear hW1
        go_cut [47] (fun s wx => s = .bool bd ∧ w1 = wx)
        case first =>
          go_wp2
          all_goals (go_meet; (case rel => exact ⟨by rw [Hbd.out]; refine congrArg Value.bool (Bool.eq_iff_iff.2 ?_); simp <;> omega, rfl⟩))
        case rest =>
          obtain ⟨rfl, rfl⟩ := hcut
          cases bd
          · have hg := of_decide_eq_false Hbd.out.symm
            have Hg := Lib.hid (Classical.not_not.1 hg)
            clear hg
            go_wp2
            have hk := Hk.out
            go_roundg (gk - 1)
            case measure => omega
            case rel => exact ⟨k + 1, by omega, by go_num, by rw [Hnext.out], fun j q hj hq => by
              rcases Nat.lt_or_ge j k with h1 | h1
              · exact Hok.out j q h1 hq
              · obtain rfl : j = k := by omega
                rw [Hp.out] at hq
                injection hq with hq
                rw [← hq]
                exact ⟨Hg.out.1, by rw [Hlp.out]; exact Hg.out.2⟩, Hb1.out⟩
          · have hg := of_decide_eq_true Hbd.out.symm
            have Hg := Lib.hid hg
            clear hg
            have hr : r = false := by
              cases r
              · rfl
              · exact absurd (by have := (Hr.out.1 rfl).2 k p Hp.out; rw [Hlp.out] at this; exact ⟨this.1, this.2⟩) Hg.out
            subst hr
            go_wp2
            go_ret
            exact ⟨rfl, Hb1.out⟩
      · have hki : ¬ (k : Int) < ps.length := by omega
        have Hke := Lib.hid (show k = ps.length by omega)
        have Hlen := Lib.hid hlen
        clear hlen
        have hr : r = true := Hr.out.2 ⟨by have := Hlen.out; omega, fun j q hq => Hok.out j q (by have := (List.getElem?_eq_some_iff.1 hq).1; have := Hke.out; omega) hq⟩
        subst hr
        go_wp2
        go_ret
        exact ⟨rfl, Hbw.out⟩
end Go.Proofs.Ytmcahimapoddfaa
