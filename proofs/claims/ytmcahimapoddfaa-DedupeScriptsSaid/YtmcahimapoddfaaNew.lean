/- The walk of New: the table that a right list gives, or the refusal. Conditions: the producers are readable. -/
import Derived.Test.YtmcahimapoddfaaMem
import Derived.Test.YtmcahimapoddfaaCheck
import Derived.Deep.RegionLaw
namespace Go.Proofs.Ytmcahimapoddfaa
open Go.RowKit Go.Maps

section
variable {w : World}
/-- 't[p.Pid] = p' at a step of a region that draws its order. -/
theorem step_store {ops : Array Oper} {o : Oper} {a : Act} {K : Act → World → Prop} {Q : Exit → Act → World → Prop} {E : Prop} (hgd : o.guard = none) (mo x v : Operand) (hop : o.op = Op.mapUpdate 73 mo x v)
    (b : Nat) (l : List Pr) (p : Pr) (hm : a.eval mo = .map (some b)) (hx : a.eval x = .int .i64 p.pid) (hv : a.eval v = prV p) (h : Tab w b l) (hl : l.length < maxLen)
    (hk : -9223372036854775808 ≤ p.pid ∧ p.pid ≤ 9223372036854775807)
    (hK : ∀ w', Tab w' b (put l p) → w.mapTurned w' b → K (a.put o.dst undef) w') :
    if Region.wanted o (yielded ops a.tmps) = true then Oper.wp Try.prog o a w K Q else E := by
  have hw : Region.wanted o (yielded ops a.tmps) = true := by simp [Region.wanted, hgd]
  rw [if_pos hw]
  obtain ⟨w', hr, h1, h2⟩ := h.store hl hk
  unfold Oper.wp
  simp [execOp, hop, hm, hx, hv, hr, Result.andThen]
  exact hK w' h1 h2
end

def goodB (p s : Int) : Bool := decide (1 ≤ p ∧ p < 4294967296 ∧ 1 ≤ s ∧ s < 1099511627776)
def goodO (o : Int) : Bool := decide (0 ≤ o ∧ o < 1099511627776)
theorem goodP_any (p s : Int) (w : World) : Calls Try.prog 35 #[.int .i64 p, .int .i64 s] w fun e w' => e = .returned (.bool (goodB p s)) ∧ w = w' := by
  have Hb := Lib.hid (show goodB p s = decide (1 ≤ p ∧ p < 4294967296 ∧ 1 ≤ s ∧ s < 1099511627776) from rfl)
  go_enter Try.func35, Try.ntmps35
  go_wp2
  all_goals (go_ret; exact ⟨by rw [Hb.out]; refine congrArg (fun b => Ending.returned (.bool b)) (Bool.eq_iff_iff.2 ?_); simp <;> omega, rfl⟩)
theorem goodO_any (o : Int) (w : World) : Calls Try.prog 36 #[.int .i64 o] w fun e w' => e = .returned (.bool (goodO o)) ∧ w = w' := by
  have Hb := Lib.hid (show goodO o = decide (0 ≤ o ∧ o < 1099511627776) from rfl)
  go_enter Try.func36, Try.ntmps36
  go_wp2
  all_goals (go_ret; exact ⟨by rw [Hb.out]; refine congrArg (fun b => Ending.returned (.bool b)) (Bool.eq_iff_iff.2 ?_); simp <;> omega, rfl⟩)

theorem take_snoc {α : Type} (l : List α) (k : Nat) (x : α) (h : l[k]? = some x) : l.take (k + 1) = l.take k ++ [x] := by
  have hk := (List.getElem?_eq_some_iff.1 h).1
  rw [List.take_succ_eq_append_getElem hk, (List.getElem?_eq_some_iff.1 h).2]
theorem rising_take {ps : List Pr} {k : Nat} (hkl : k ≤ ps.length) (h : ∀ j p, j < k → ps[j]? = some p → okPr p ∧ lastPid ps j < p.pid) : ∀ q ∈ ps.take k, q.pid ≤ lastPid ps k := by
  induction k with
  | zero => intro q hq; simp at hq
  | succ k ih =>
    intro q hq
    have hx : ps[k]? = some ps[k] := List.getElem?_eq_getElem hkl
    rw [take_snoc ps k _ hx] at hq
    have e : lastPid ps (k + 1) = ps[k].pid := by simp [lastPid, List.getD_eq_getElem?_getD, hx]
    rcases List.mem_append.1 hq with hq | hq
    · have := ih (by omega) (fun j p hj hp => h j p (by omega) hp) q hq
      have := (h k _ (by omega) hx).2
      omega
    · simp at hq; subst hq; omega

instance (p : Pr) : Decidable (okPr p) := by unfold okPr; infer_instance

set_option maxRecDepth 100000 in
set_option maxHeartbeats 4000000 in
theorem new_any (A : Option Addr) (ps : List Pr) (c : Nat) (w : World) (B : Nat) (hB : B ≤ w.heap.size) (hc : ps.length ≤ c ∧ c ≤ maxLen) (hp : ProdsAt w B A ps) :
    Calls Try.prog 23 #[.slice A ps.length c] w fun e w' => Below w.heap.size w w' ∧
      ((NewOk ps ∧ e = .returned (.tuple #[.pointer (some ⟨w.heap.size + 1, 0, none⟩), .int .i64 0]) ∧ TabAt w' w.heap.size (w.heap.size + 1) w.heap.size ps) ∨
       (¬ NewOk ps ∧ e = .returned (.tuple #[.pointer none, .int .i64 92]))) := by
  have hcm := hc.2
  unfold maxLen at hcm
  have hlc := hc.1
  have hmm := @run_makeMap Try.prog
  by_cases hlen : 64 < ps.length
  · have hli : (ps.length : Int) > 64 := by omega
    have hno : ¬ NewOk ps := fun h => by have := h.1; omega
    have Hno := Lib.hid hno
    clear hno
    go_enter Try.func23, Try.ntmps23
    go_wp2
    go_ret2
    exact ⟨Below.refl _ _, .inr ⟨Hno.out, rfl⟩⟩
  · have hli : ¬ (ps.length : Int) > 64 := by omega
    go_enter Try.func23, Try.ntmps23
    go_upto_region 4 with fail
    have ht0 : TabAt ((w.alloc (.map #[] 0)).alloc (.cells #[.map (some w.heap.size)] 75)) w.heap.size (w.heap.size + 1) w.heap.size [] := by
      have h1 := Tab.made w
      have e : (w.alloc (.map #[] 0)).heap.size = w.heap.size + 1 := by simp
      refine ⟨?_, h1.alloc _, by omega, Nat.le_refl _, by omega⟩
      have := Blk.new (w.alloc (.map #[] 0)) 75 #[.map (some w.heap.size)]
      rwa [e] at this
    have hb0 : Below w.heap.size w ((w.alloc (.map #[] 0)).alloc (.cells #[.map (some w.heap.size)] 75)) := ((Below.refl _ _).alloc (Nat.le_refl _) _).alloc (by simp) _
    have Ht0 := Lib.hid ht0
    have Hb0 := Lib.hid hb0
    have Hp := Lib.hid hp
    clear ht0 hb0 hp hmm
    go_wp2
    go_loopg [15] ps.length (fun g vi wr => ∃ k : Nat, g + k = ps.length ∧ vi = .int .i64 (k : Nat) ∧ (∀ j p, j < k → ps[j]? = some p → okPr p ∧ lastPid ps j < p.pid) ∧
      TabAt wr w.heap.size (w.heap.size + 1) w.heap.size (ps.take k) ∧ Below w.heap.size w wr)
    case atStart => exact ⟨0, by omega, rfl, fun j p h => absurd h (by omega), Ht0.out, Hb0.out⟩
    case round =>
      obtain ⟨k, hk, rfl, hok, ht, hbw⟩ := hrel
      have hkn : k ≤ ps.length := by omega
      have Hk := Lib.hid hk
      have tc := ht.cell.cell 0
      simp only [List.getElem?_toArray, List.getElem?_cons_zero] at tc
      have hsz := ht.cell.lt
      by_cases hkl : k < ps.length
      · have hki : (k : Int) < ps.length := by omega
        have hpW := (Hp.out.mono hB).below hbw
        obtain ⟨qb, qo, hAe, hqb, hrow⟩ := hpW (by omega)
        subst hAe
        have hqk : ps[k]? = some ps[k] := List.getElem?_eq_getElem hkl
        obtain ⟨p, hpe⟩ : ∃ p, p = ps[k] := ⟨_, rfl⟩
        rw [← hpe] at hqk
        obtain ⟨q0, q1, q2⟩ := hrow k p hqk
        have hprev : ∀ z, k = z + 1 → ∃ q, ps[z]? = some q ∧ okPr q ∧ wr.cell? ⟨qb, qo + z * 3, none⟩ = some (.int .i64 q.pid) ∧ lastPid ps k = q.pid := fun z hz => by
          have hq : ps[z]? = some ps[z] := List.getElem?_eq_getElem (by omega)
          refine ⟨_, hq, (hok z _ (by omega) hq).1, (hrow z _ hq).1, ?_⟩
          subst hz
          simp only [lastPid, List.getD_eq_getElem?_getD, hq, Option.getD_some]
        have hiff : (okPr p ∧ lastPid ps k < p.pid) ↔ ((1 ≤ p.pid ∧ p.pid < 4294967296 ∧ 1 ≤ p.seq ∧ p.seq < 1099511627776) ∧ (0 ≤ p.off ∧ p.off < 1099511627776) ∧ lastPid ps k < p.pid) := by
          unfold okPr
          constructor
          · exact fun h => ⟨⟨h.1.1, h.1.2.1, h.1.2.2.1, h.1.2.2.2.1⟩, h.1.2.2.2.2, h.2⟩
          · exact fun h => ⟨⟨h.1.1, h.1.2.1, h.1.2.2.1, h.1.2.2.2, h.2.1⟩, h.2.2⟩
        have hrt := rising_take hkn hok
        have hts := take_snoc ps k p hqk
        have Hiff := Lib.hid hiff
        have Hrt := Lib.hid hrt
        have Hts := Lib.hid hts
        have Hqk := Lib.hid hqk
        have Hok := Lib.hid hok
        have Ht := Lib.hid ht
        have Hbw := Lib.hid hbw
        have Hprev := Lib.hid hprev
        have Hno := Lib.hid (fun (h : ¬ (okPr p ∧ lastPid ps k < p.pid)) (hn : NewOk ps) => h (hn.2 k p hqk))
        clear hk hok ht hbw hpW hrow hqk hpe hprev hiff hrt hts
        have hqbl : qb < wr.heap.size := by have := Hbw.out.size; omega
        go_upto_region 7 with fail
        have ht1 : TabAt (wr.alloc (.cells #[.int .i64 p.pid, .int .i64 p.seq, .int .i64 p.off] 67)) w.heap.size (w.heap.size + 1) w.heap.size (ps.take k) := Ht.out.below ((Below.refl _ _).alloc (Nat.le_refl _) _) (Nat.le_refl _)
        have hb1 : Below w.heap.size w (wr.alloc (.cells #[.int .i64 p.pid, .int .i64 p.seq, .int .i64 p.off] 67)) := Hbw.out.alloc Hbw.out.size _
        have hb6 := Blk.new wr 67 #[.int .i64 p.pid, .int .i64 p.seq, .int .i64 p.off]
        have hpc : ∀ z x, wr.cell? ⟨qb, qo + z * 3, none⟩ = some (.int .i64 x) → (wr.alloc (.cells #[.int .i64 p.pid, .int .i64 p.seq, .int .i64 p.off] 67)).cell? ⟨qb, qo + z * 3, none⟩ = some (.int .i64 x) := fun z x h => ((Below.refl wr.heap.size wr).alloc (Nat.le_refl _) _).cell (p := ⟨qb, qo + z * 3, none⟩) hqbl |>.trans h
        have Hpc := Lib.hid hpc
        have hws : w.heap.size + 1 < wr.heap.size := hsz
        clear q0 q1 q2 tc hpc hsz
        generalize hW1 : wr.alloc (.cells #[.int .i64 p.pid, .int .i64 p.seq, .int .i64 p.off] 67) = w1 at *
        clear hW1
        generalize wr.heap.size = b6 at *
        have tc := ht1.cell.cell 0
        simp only [List.getElem?_toArray, List.getElem?_cons_zero] at tc
        have q0 := hb6.cell 0
        have q1 := hb6.cell 1
        have q2 := hb6.cell 2
        simp only [List.getElem?_toArray, List.getElem?_cons_zero, List.getElem?_cons_succ] at q0 q1 q2
        have Ht1 := Lib.hid ht1
        have Hb1 := Lib.hid hb1
        have Hb6 := Lib.hid hb6
        clear ht1 hb1 hb6
        obtain ⟨bd, hbd⟩ : ∃ bd, bd = !decide (okPr p ∧ lastPid ps k < p.pid) := ⟨_, rfl⟩
        have Hbd := Lib.hid hbd
        clear hbd
        have cO : ∀ n, Calls Try.prog 36 #[.int .i64 p.off] (w1.drewN n) fun e w' => e = .returned (.bool (goodO p.off)) ∧ w' = w1.drewN n := fun n => (goodO_any p.off _).mono fun e w' ⟨h1, h2⟩ => ⟨h1, h2.symm⟩
        have cP : ∀ n, Calls Try.prog 35 #[.int .i64 p.pid, .int .i64 p.seq] (w1.drewN n) fun e w' => e = .returned (.bool (goodB p.pid p.seq)) ∧ w' = w1.drewN n := fun n => (goodP_any p.pid p.seq _).mono fun e w' ⟨h1, h2⟩ => ⟨h1, h2.symm⟩
        go_cut [46] (fun s wx => s = .bool bd ∧ ∃ j, w1.drewN j = wx)
        case first =>
          rcases Bool.eq_false_or_eq_true (goodB p.pid p.seq) with hg | hg
          · rw [hg] at cP
            rcases Bool.eq_false_or_eq_true (goodO p.off) with ho | ho
            · rw [ho] at cO
              have Hg := Lib.hid (of_decide_eq_true hg)
              have Ho := Lib.hid (of_decide_eq_true ho)
              rcases Nat.eq_zero_or_pos k with hk0 | hk0
              · have hkp : decide (0 < k) = false := by simp; omega
                have Hk0 := Lib.hid hk0
                clear hg ho hk0
                go_quiet (first | (go_at_call 35; refine Calls.quiet_of_same (cP _)) | (go_at_call 36; refine Calls.quiet_of_same (cO _)))
                go_wp2
                go_meet
                case rel =>
                  refine ⟨congrArg Value.bool ?_, _, rfl⟩
                  have hx : lastPid ps k < p.pid := by
                    have := Hg.out.1
                    rw [Hk0.out]
                    simp only [lastPid]
                    omega
                  rw [Hbd.out, decide_eq_true (Hiff.out.2 ⟨Hg.out, Ho.out, hx⟩)]
                  rfl
              · have hkp : decide (0 < k) = true := by simp; omega
                obtain ⟨z, hz⟩ : ∃ z, k = z + 1 := ⟨k - 1, by omega⟩
                obtain ⟨q, hq, hqo, hqc, hql⟩ := Hprev.out z hz
                have hqc' := Hpc.out z _ hqc
                have hzi : ((k : Nat) : Int) - 1 = (z : Nat) := by omega
                have hzw : IntKind.i64.wrap (z : Nat) = ((z : Nat) : Int) := by rw [IntKind.wrap_i64]; omega
                have hzl : (z : Int) < ps.length := by omega
                have hz0 : (0 : Int) ≤ z := by omega
                have Hz := Lib.hid hz
                have Hql := Lib.hid hql
                clear hg ho hq hqo hqc hql hz
                by_cases hge : q.pid ≥ p.pid
                · go_quiet (first | (go_at_call 35; refine Calls.quiet_of_same (cP _)) | (go_at_call 36; refine Calls.quiet_of_same (cO _)))
                  go_wp2
                  go_meet
                  case rel =>
                    refine ⟨congrArg Value.bool ?_, _, rfl⟩
                    rw [Hbd.out, decide_eq_false (fun h => by have := h.2; rw [Hql.out] at this; omega)]
                    rfl
                · go_quiet (first | (go_at_call 35; refine Calls.quiet_of_same (cP _)) | (go_at_call 36; refine Calls.quiet_of_same (cO _)))
                  go_wp2
                  go_meet
                  case rel =>
                    refine ⟨congrArg Value.bool ?_, _, rfl⟩
                    rw [Hbd.out, decide_eq_true (Hiff.out.2 ⟨Hg.out, Ho.out, by rw [Hql.out]; omega⟩)]
                    rfl
            · rw [ho] at cO
              have Ho := Lib.hid (of_decide_eq_false ho)
              clear hg ho
              go_quiet (first | (go_at_call 35; refine Calls.quiet_of_same (cP _)) | (go_at_call 36; refine Calls.quiet_of_same (cO _)))
              go_wp2
              go_meet
              case rel =>
                refine ⟨congrArg Value.bool ?_, _, rfl⟩
                rw [Hbd.out, decide_eq_false (fun h => Ho.out (Hiff.out.1 h).2.1)]
                rfl
          · rw [hg] at cP
            have Hg := Lib.hid (of_decide_eq_false hg)
            clear hg
            go_quiet (first | (go_at_call 35; refine Calls.quiet_of_same (cP _)) | (go_at_call 36; refine Calls.quiet_of_same (cO _)))
            go_wp2
            go_meet
            case rel =>
              refine ⟨congrArg Value.bool ?_, _, rfl⟩
              rw [Hbd.out, decide_eq_false (fun h => Hg.out (Hiff.out.1 h).1)]
              rfl
        case rest =>
          obtain ⟨rfl, jj, rfl⟩ := hcut
          clear cO cP
          by_cases hX : okPr p ∧ lastPid ps k < p.pid
          · have hbf : bd = false := by rw [Hbd.out, decide_eq_true hX]; rfl
            have HX := Lib.hid hX
            clear Hbd hX
            subst hbf
            have tc' : (w1.drewN jj).cell? ⟨w.heap.size + 1, 0, none⟩ = some (.map (some w.heap.size)) := tc
            have q0' : (w1.drewN jj).cell? ⟨b6, 0, none⟩ = some (.int .i64 p.pid) := q0
            have q1' : (w1.drewN jj).cell? ⟨b6, 1, none⟩ = some (.int .i64 p.seq) := q1
            have q2' : (w1.drewN jj).cell? ⟨b6, 2, none⟩ = some (.int .i64 p.off) := q2
            have ht2 : TabAt (w1.drewN jj) w.heap.size (w.heap.size + 1) w.heap.size (ps.take k) := Ht1.out.below (below_drewN (Below.refl w1.heap.size w1) jj) (Nat.le_refl _)
            have hb2 : Below w.heap.size w (w1.drewN jj) := below_drewN Hb1.out jj
            have Ht2 := Lib.hid ht2
            have Hb2 := Lib.hid hb2
            have hw2 : w.heap.size ≤ (w1.drewN jj).heap.size := hb2.size
            clear ht2 hb2 tc q0 q1 q2 Ht1 Hb1
            generalize w1.drewN jj = w2 at *
            have hpk := HX.out.1
            have hlt : (ps.take k).length < maxLen := by rw [List.length_take]; unfold maxLen; omega
            obtain ⟨w3, hr, h3, ht3⟩ := Ht2.out.tab.drew.store hlt (p := p) (by unfold okPr at hpk; omega)
            unfold prV at hr
            have h4 : TabAt w3 w.heap.size (w.heap.size + 1) w.heap.size (ps.take (k + 1)) := by
              rw [Hts.out, ← put_append (fun q hq => by have := Hrt.out q hq; have := HX.out.2; omega)]
              exact TabAt.turned (w := w2.drew) (Ht2.out.below (Below.refl w2.heap.size w2).drew (Nat.le_refl _)) ht3 h3
            have h5 : Below w.heap.size w w3 := below_turned Hb2.out.drew ht3 (Nat.le_refl _) hw2
            have H4 := Lib.hid h4
            have H5 := Lib.hid h5
            clear hpk hlt h3 ht3 h4 h5
            go_upto_region 9 with fail
            go_region
            all_goals (
              go_wp2
              (have hk := Hk.out)
              go_roundg (gk - 1)
              (case measure => omega)
              (case rel => exact ⟨k + 1, by omega, by go_num, fun j q hj hq => by
                rcases Nat.lt_or_ge j k with h | h
                · exact Hok.out j q h hq
                · obtain rfl : j = k := by omega
                  rw [Hqk.out] at hq
                  injection hq with hq
                  subst hq
                  exact HX.out, H4.out, H5.out⟩))
          · have hbf : bd = true := by rw [Hbd.out, decide_eq_false hX]; rfl
            have HX := Lib.hid hX
            clear Hbd hX
            subst hbf
            go_wp2
            go_ret2
            exact ⟨below_drewN Hb1.out jj, .inr ⟨Hno.out HX.out, rfl⟩⟩
      · have hki : ¬ (k : Int) < ps.length := by omega
        have hkp : k = ps.length := by omega
        have hno : NewOk ps := ⟨by omega, fun i p hp => hok i p (by have := (List.getElem?_eq_some_iff.1 hp).1; omega) hp⟩
        have ht' : TabAt wr w.heap.size (w.heap.size + 1) w.heap.size ps := by
          rw [hkp, List.take_length] at ht
          exact ht
        have Hno := Lib.hid hno
        have Ht := Lib.hid ht'
        have Hbw := Lib.hid hbw
        clear hno ht' hbw ht hok hk hkp Hk
        go_wp2
        go_ret2
        exact ⟨Hbw.out, .inl ⟨Hno.out, rfl, Ht.out⟩⟩
end Go.Proofs.Ytmcahimapoddfaa
