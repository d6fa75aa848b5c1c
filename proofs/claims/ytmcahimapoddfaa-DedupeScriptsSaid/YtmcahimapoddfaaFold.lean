/- The walk of Fold: it computes 'foldR'. Conditions: the arguments are readable. -/
import Derived.Test.YtmcahimapoddfaaNew
import Derived.Test.YtmcahimapoddfaaList
namespace Go.Proofs.Ytmcahimapoddfaa
open Go.RowKit Go.Maps

theorem chk_zero {r : Rc} (h : chkR r = 0) : (r.kind = 1 ∨ r.kind = 2) ∧ 0 ≤ r.off ∧ r.off < 1099511627776 ∧ 0 ≤ r.pid ∧ r.pid < 4294967296 ∧ (r.pid = 0 → r.seq = 0) ∧ (0 < r.pid → 1 ≤ r.seq ∧ r.seq < 1099511627776) := by
  unfold chkR at h
  split at h
  · cases h
  · rename_i h0
    split at h
    · cases h
    · rename_i h1
      split at h
      · cases h
      · rename_i h2
        simp only [inB, decide_eq_false_iff_not] at h1 h2
        omega
theorem fold_cons (l : List Pr) (r : Rc) (rs : List Rc) : foldGo l (r :: rs) = if (step1 l r).1 ≠ 0 then ((step1 l r).1, []) else foldGo (step1 l r).2 rs := rfl
section
variable {l : List Pr} {r : Rc} {rs : List Rc}
theorem foldGo_err (h : chkR r ≠ 0) : foldGo l (r :: rs) = (chkR r, []) := by
  rw [fold_cons, show step1 l r = (chkR r, []) from if_pos h, if_pos h]
theorem foldGo_skip (h : chkR r = 0) (h0 : r.pid = 0) : foldGo l (r :: rs) = foldGo l rs := by
  rw [fold_cons, show step1 l r = (0, l) by unfold step1; rw [if_neg (not_not_intro h), if_pos h0], if_neg (not_not_intro rfl)]
theorem foldGo_full (h : chkR r = 0) (h0 : ¬ r.pid = 0) (hn : look l r.pid = none) (hf : 64 ≤ l.length) : foldGo l (r :: rs) = (92, []) := by
  rw [fold_cons, show step1 l r = (92, []) by unfold step1; rw [if_neg (not_not_intro h), if_neg h0, hn]; exact if_pos hf, if_pos (by decide)]
theorem foldGo_new (h : chkR r = 0) (h0 : ¬ r.pid = 0) (hn : look l r.pid = none) (hf : ¬ 64 ≤ l.length) : foldGo l (r :: rs) = foldGo (put l (ofR r)) rs := by
  rw [fold_cons, show step1 l r = (0, put l (ofR r)) by unfold step1; rw [if_neg (not_not_intro h), if_neg h0, hn]; exact if_neg hf, if_neg (not_not_intro rfl)]
theorem foldGo_put {p : Pr} (h : chkR r = 0) (h0 : ¬ r.pid = 0) (hn : look l r.pid = some p) (hf : p.seq < r.seq) : foldGo l (r :: rs) = foldGo (put l (ofR r)) rs := by
  rw [fold_cons, show step1 l r = (0, put l (ofR r)) by unfold step1; rw [if_neg (not_not_intro h), if_neg h0, hn]; exact if_pos hf, if_neg (not_not_intro rfl)]
theorem foldGo_old {p : Pr} (h : chkR r = 0) (h0 : ¬ r.pid = 0) (hn : look l r.pid = some p) (hf : ¬ p.seq < r.seq) : foldGo l (r :: rs) = foldGo l rs := by
  rw [fold_cons, show step1 l r = (0, l) by unfold step1; rw [if_neg (not_not_intro h), if_neg h0, hn]; exact if_neg hf, if_neg (not_not_intro rfl)]
end
theorem drop_at {α : Type} {l : List α} {k : Nat} {x : α} (h : l[k]? = some x) : l.drop k = x :: l.drop (k + 1) := by
  have hk := (List.getElem?_eq_some_iff.1 h).1
  rw [List.drop_eq_getElem_cons hk, (List.getElem?_eq_some_iff.1 h).2]
theorem zero67c (w : World) : (zeroValue 67).run Try.prog w = .ok (.agg #[.int .i64 0, .int .i64 0, .int .i64 0]) w := zero67 w

set_option maxRecDepth 100000 in
set_option maxHeartbeats 4000000 in
theorem fold_any (A A2 : Option Addr) (ps : List Pr) (rs : List Rc) (c c2 : Nat) (w : World) (B : Nat) (hB : B ≤ w.heap.size) (hc : ps.length ≤ c ∧ c ≤ maxLen) (hc2 : rs.length ≤ c2 ∧ c2 ≤ maxLen) (hp : ProdsAt w B A ps) (hr : RecsAt w B A2 rs) :
    Calls Try.prog 10 #[.slice A ps.length c, .slice A2 rs.length c2] w fun e w' => Below w.heap.size w w' ∧ ∃ v, e = .returned (.tuple #[v, .int .i64 (foldR ps rs).1]) ∧ OwnP w' w.heap.size v (foldR ps rs).2 := by
  have hcm := hc2.2
  unfold maxLen at hcm
  have hlc := hc2.1
  have cN := new_any A ps c w B hB hc hp
  have Hr := Lib.hid hr
  clear hr hp
  by_cases hok : NewOk ps
  · have hf : foldR ps rs = foldGo ps rs := if_pos hok
    rw [hf]
    have cN' : Calls Try.prog 23 #[.slice A ps.length c] w fun e w' => Below w.heap.size w w' ∧ e = .returned (.tuple #[.pointer (some ⟨w.heap.size + 1, 0, none⟩), .int .i64 0]) ∧ TabAt w' w.heap.size (w.heap.size + 1) w.heap.size ps :=
      cN.mono fun e w' ⟨h1, h2⟩ => ⟨h1, h2.elim (fun h => ⟨h.2.1, h.2.2⟩) (fun h => absurd hok h.1)⟩
    have hl64 := hok.1
    have hl64' := Lib.hid hl64
    clear cN hf hok hl64
    go_enter Try.func10, Try.ntmps10
    go_wp2_with (go_at_call 23; refine cN'.mono ?_; rintro e w1 ⟨hb1, rfl, ht1⟩)
    clear cN'
    have Hb1 := Lib.hid hb1
    have Ht1 := Lib.hid ht1
    have h64 := hl64'.out
    clear hb1 ht1
    go_loopg [23] rs.length (fun g i wr => ∃ (k : Nat) (l : List Pr), g + k = rs.length ∧ i = .int .i64 (k : Nat) ∧ TabAt wr w.heap.size (w.heap.size + 1) w.heap.size l ∧ l.length ≤ 64 ∧ foldGo ps rs = foldGo l (rs.drop k) ∧ Below w.heap.size w wr)
    case atStart => exact ⟨0, ps, by omega, rfl, Ht1.out, h64, rfl, Hb1.out⟩
    case round =>
      clear h64
      obtain ⟨k, l, hk, rfl, ht, h64, hfo, hbw⟩ := hrel
      have hkn : k ≤ rs.length := by omega
      have Hk := Lib.hid hk
      have hsz := hbw.size
      by_cases hkl : k < rs.length
      · have hki : (k : Int) < rs.length := by omega
        obtain ⟨qb, qo, hAe, hqb, hrow⟩ := ((Hr.out.mono hB).below hbw) (by omega)
        subst hAe
        have hqk : rs[k]? = some rs[k] := List.getElem?_eq_getElem hkl
        obtain ⟨r, hre⟩ : ∃ r, r = rs[k] := ⟨_, rfl⟩
        rw [← hre] at hqk
        obtain ⟨q0, q1, q2, q3, q4, q5, q6⟩ := hrow k r hqk
        rw [drop_at hqk] at hfo
        have Hfo := Lib.hid hfo
        have H64 := Lib.hid h64
        have Ht := Lib.hid ht
        have Hbw := Lib.hid hbw
        clear hk hbw hrow hqk hre hfo h64 ht
        go_upto_region 7 with fail
        have ht1 : TabAt (wr.alloc (.cells #[.int .i64 r.kind, .int .i64 r.off, .int .i64 r.tim, .int .i64 r.pid, .int .i64 r.seq, .string r.key, .string r.val] 32)) w.heap.size (w.heap.size + 1) w.heap.size l := Ht.out.below ((Below.refl _ _).alloc (Nat.le_refl _) _) (Nat.le_refl _)
        have hb1 : Below w.heap.size w (wr.alloc (.cells #[.int .i64 r.kind, .int .i64 r.off, .int .i64 r.tim, .int .i64 r.pid, .int .i64 r.seq, .string r.key, .string r.val] 32)) := Hbw.out.alloc Hbw.out.size _
        have hb9 := Blk.new wr 32 #[.int .i64 r.kind, .int .i64 r.off, .int .i64 r.tim, .int .i64 r.pid, .int .i64 r.seq, .string r.key, .string r.val]
        clear q0 q1 q2 q3 q4 q5 q6 hsz
        generalize hW1 : wr.alloc (.cells #[.int .i64 r.kind, .int .i64 r.off, .int .i64 r.tim, .int .i64 r.pid, .int .i64 r.seq, .string r.key, .string r.val] 32) = w2 at *
        clear hW1
        have hb9s : w.heap.size + 1 < wr.heap.size := Ht.out.cell.lt
        generalize wr.heap.size = b9 at *
        have q0 := hb9.cell 0
        have q1 := hb9.cell 1
        have q2 := hb9.cell 2
        have q3 := hb9.cell 3
        have q4 := hb9.cell 4
        have q5 := hb9.cell 5
        have q6 := hb9.cell 6
        simp only [List.getElem?_toArray, List.getElem?_cons_zero, List.getElem?_cons_succ] at q0 q1 q2 q3 q4 q5 q6
        have Ht1 := Lib.hid ht1
        have Hb1 := Lib.hid hb1
        have Hb9 := Lib.hid hb9
        clear ht1 hb1 hb9
        have cC := chk_any r w2
        unfold rcV at cC
        go_upto_region 8 with (go_at_call 30; refine cC.mono ?_; rintro e w3 ⟨rfl, hb3⟩)
        have hb9l : b9 < w2.heap.size := Hb9.out.lt
        have ht3 : TabAt w3 w.heap.size (w.heap.size + 1) w.heap.size l := Ht1.out.below hb3 (Nat.le_refl _)
        have hbw3 : Below w.heap.size w w3 := Hb1.out.trans (hb3.mono Hb1.out.size)
        have hb93 := Hb9.out.below hb3 hb9l
        clear cC q0 q1 q2 q3 q4 q5 q6 hb3 Hb9
        have q1 := hb93.cell 1
        have q3 := hb93.cell 3
        have q4 := hb93.cell 4
        simp only [List.getElem?_toArray, List.getElem?_cons_zero, List.getElem?_cons_succ] at q1 q3 q4
        have tc := ht3.cell.cell 0
        simp only [List.getElem?_toArray, List.getElem?_cons_zero] at tc
        have hsz3 : b9 < w3.heap.size := hb93.lt
        have Ht3 := Lib.hid ht3
        have Hb3 := Lib.hid hbw3
        clear ht3 hbw3 hb93 Ht1 Hb1 hb9l
        obtain ⟨ck, hck⟩ : ∃ ck, ck = chkR r := ⟨_, rfl⟩
        rw [← hck]
        have Hck := Lib.hid hck
        clear hck
        by_cases hc0 : ck = 0
        rotate_left
        · have hc0' : (ck != 0) = true := by simpa using hc0
          have hfe : foldGo ps rs = (ck, []) := by rw [Hfo.out, Hck.out]; exact foldGo_err (by rw [← Hck.out]; exact hc0)
          have Hfe := Lib.hid hfe
          clear hfe
          go_wp2
          go_ret2
          exact ⟨Hb3.out, _, by rw [Hfe.out]; rfl, by rw [Hfe.out]; exact OwnP.nil _ _⟩
        · subst hc0
          have hz := chk_zero Hck.out.symm
          have Hz := Lib.hid hz
          have hpw : -9223372036854775808 ≤ r.pid ∧ r.pid ≤ 9223372036854775807 := by omega
          have Hpw := Lib.hid hpw
          clear hz hpw
          by_cases hp0 : r.pid = 0
          · have hfe : foldGo ps rs = foldGo l (rs.drop (k + 1)) := by rw [Hfo.out]; exact foldGo_skip Hck.out.symm hp0
            have Hfe := Lib.hid hfe
            have hp0' : (r.pid == 0) = true := by simpa using hp0
            have Hp0 := Lib.hid hp0
            clear hfe hp0
            go_wp2
            have hk := Hk.out
            go_roundg (gk - 1)
            case measure => omega
            case rel => exact ⟨k + 1, l, by omega, by go_num, Ht3.out, H64.out, Hfe.out, Hb3.out⟩
          · have hp0' : (r.pid == 0) = false := by simpa using hp0
            have hlk := Ht3.out.tab.drew.look Hpw.out
            have hlk2 := ((Ht3.out.tab.alloc (.cells #[.int .i64 0, .int .i64 0, .int .i64 0] 67)).drew).look Hpw.out
            unfold prV at hlk hlk2
            obtain ⟨kn, hkn⟩ : ∃ kn, kn = (look l r.pid).isSome := ⟨_, rfl⟩
            obtain ⟨p, hpe⟩ : ∃ p, p = (look l r.pid).getD zPr := ⟨_, rfl⟩
            rw [← hkn, ← hpe] at hlk hlk2
            have Hkn := Lib.hid hkn
            have Hpe := Lib.hid hpe
            clear hkn hpe
            have hsz4 : w.heap.size + 1 < w3.heap.size := by omega
            have hn1 : ¬ w.heap.size + 1 = w3.heap.size := by omega
            have hn2 : ¬ w3.heap.size = w.heap.size + 1 := by omega
            have hn3 : ¬ b9 = w3.heap.size := by omega
            have hn4 : ¬ w3.heap.size = b9 := by omega
            go_upto_region 11 with fail
            go_cut [11, 12] (fun u v wx => u = .pointer (some ⟨w3.heap.size, 0, none⟩) ∧ v = .bool kn ∧ (w3.alloc (.cells #[.int .i64 p.pid, .int .i64 p.seq, .int .i64 p.off] 67)).drew = wx)
            case first =>
              go_region
              all_goals (go_wp2; go_meet; (case rel => exact ⟨rfl, rfl, rfl⟩))
            case rest =>
              obtain ⟨rfl, rfl, rfl⟩ := hcut
              have hb4 := Blk.drew (Blk.new w3 67 #[.int .i64 p.pid, .int .i64 p.seq, .int .i64 p.off])
              have hbe : Below w3.heap.size w3 (w3.alloc (.cells #[.int .i64 p.pid, .int .i64 p.seq, .int .i64 p.off] 67)).drew := ((Below.refl _ _).alloc (Nat.le_refl _) _).drew
              have ht4 : TabAt (w3.alloc (.cells #[.int .i64 p.pid, .int .i64 p.seq, .int .i64 p.off] 67)).drew w.heap.size (w.heap.size + 1) w.heap.size l := Ht3.out.below hbe (Nat.le_refl _)
              have hbw4 : Below w.heap.size w (w3.alloc (.cells #[.int .i64 p.pid, .int .i64 p.seq, .int .i64 p.off] 67)).drew := Hb3.out.trans (hbe.mono Hb3.out.size)
              have hcc : ∀ j, (w3.alloc (.cells #[.int .i64 p.pid, .int .i64 p.seq, .int .i64 p.off] 67)).drew.cell? ⟨b9, j, none⟩ = w3.cell? ⟨b9, j, none⟩ := fun j => hbe.cell (p := ⟨b9, j, none⟩) hsz3
              have q1' := (hcc 1).trans q1
              have q3' := (hcc 3).trans q3
              have q4' := (hcc 4).trans q4
              clear q1 q3 q4 tc hlk hlk2 hcc hbe hsz4 hn1 hn2 hn3 hn4
              generalize (w3.alloc (.cells #[.int .i64 p.pid, .int .i64 p.seq, .int .i64 p.off] 67)).drew = w4 at *
              generalize w3.heap.size = b11 at *
              have r1 := hb4.cell 1
              simp only [List.getElem?_toArray, List.getElem?_cons_zero, List.getElem?_cons_succ] at r1
              have tc := ht4.cell.cell 0
              simp only [List.getElem?_toArray, List.getElem?_cons_zero] at tc
              have hln := ht4.tab.len 3
              have Ht4 := Lib.hid ht4
              have Hb4 := Lib.hid hbw4
              have Hp0 := Lib.hid hp0
              clear hb4 ht4 hbw4 Ht3 Hb3 hp0 hp0'
              rcases hlo : look l r.pid with _ | p0
              · have hknf : kn = false := by rw [Hkn.out, hlo]; rfl
                subst hknf
                have Hlo := Lib.hid hlo
                clear hlo
                by_cases h64 : 64 ≤ l.length
                · have h64i : (l.length : Int) ≥ 64 := by omega
                  have hfe : foldGo ps rs = (92, []) := by rw [Hfo.out]; exact foldGo_full Hck.out.symm Hp0.out Hlo.out h64
                  have Hfe := Lib.hid hfe
                  clear hfe
                  go_wp2
                  go_ret2
                  exact ⟨Hb4.out, _, by rw [Hfe.out]; rfl, by rw [Hfe.out]; exact OwnP.nil _ _⟩
                · have h64i : ¬ (l.length : Int) ≥ 64 := by omega
                  have hfe : foldGo ps rs = foldGo (put l (ofR r)) (rs.drop (k + 1)) := by rw [Hfo.out]; exact foldGo_new Hck.out.symm Hp0.out Hlo.out h64
                  have Hfe := Lib.hid hfe
                  clear hfe
                  obtain ⟨w5, hrun, h5, ht5⟩ := Ht4.out.tab.drew.store (p := ofR r) (by have := H64.out; unfold maxLen; omega) Hpw.out
                  unfold prV ofR at hrun
                  dsimp only at hrun
                  have h6 : TabAt w5 w.heap.size (w.heap.size + 1) w.heap.size (put l (ofR r)) := TabAt.turned (w := w4.drew) (Ht4.out.below (Below.refl w4.heap.size w4).drew (Nat.le_refl _)) ht5 h5
                  have hb6 : Below w.heap.size w w5 := below_turned Hb4.out.drew ht5 (Nat.le_refl _) Hb4.out.size
                  have hl6 : (put l (ofR r)).length ≤ 64 := by
                    rw [length_put Ht4.out.tab.rising]
                    have := H64.out
                    have hx : look l (ofR r).pid = look l r.pid := rfl
                    rw [hx, Hlo.out]
                    rw [if_pos rfl]; omega
                  have H6 := Lib.hid h6
                  have Hb6 := Lib.hid hb6
                  have Hl6 := Lib.hid hl6
                  clear h5 ht5 h6 hb6 hl6
                  go_upto_region 15 with fail
                  go_region
                  all_goals (
                    go_wp2
                    (have hk := Hk.out)
                    go_roundg (gk - 1)
                    (case measure => omega)
                    (case rel => exact ⟨k + 1, put l (ofR r), by omega, by go_num, H6.out, Hl6.out, Hfe.out, Hb6.out⟩))
              · have hknf : kn = true := by rw [Hkn.out, hlo]; rfl
                have hpf : p = p0 := by rw [Hpe.out, hlo]; rfl
                subst hknf
                subst hpf
                have Hlo := Lib.hid hlo
                clear hlo
                by_cases hlt : p.seq < r.seq
                · have hfe : foldGo ps rs = foldGo (put l (ofR r)) (rs.drop (k + 1)) := by rw [Hfo.out]; exact foldGo_put Hck.out.symm Hp0.out Hlo.out hlt
                  have Hfe := Lib.hid hfe
                  clear hfe
                  obtain ⟨w5, hrun, h5, ht5⟩ := Ht4.out.tab.drew.store (p := ofR r) (by have := H64.out; unfold maxLen; omega) Hpw.out
                  unfold prV ofR at hrun
                  dsimp only at hrun
                  have h6 : TabAt w5 w.heap.size (w.heap.size + 1) w.heap.size (put l (ofR r)) := TabAt.turned (w := w4.drew) (Ht4.out.below (Below.refl w4.heap.size w4).drew (Nat.le_refl _)) ht5 h5
                  have hb6 : Below w.heap.size w w5 := below_turned Hb4.out.drew ht5 (Nat.le_refl _) Hb4.out.size
                  have hl6 : (put l (ofR r)).length ≤ 64 := by
                    rw [length_put Ht4.out.tab.rising]
                    have := H64.out
                    have hx : look l (ofR r).pid = look l r.pid := rfl
                    rw [hx, Hlo.out]
                    rw [if_neg (by simp)]; omega
                  have H6 := Lib.hid h6
                  have Hb6 := Lib.hid hb6
                  have Hl6 := Lib.hid hl6
                  clear h5 ht5 h6 hb6 hl6
                  go_upto_region 15 with fail
                  go_region
                  all_goals (
                    go_wp2
                    (have hk := Hk.out)
                    go_roundg (gk - 1)
                    (case measure => omega)
                    (case rel => exact ⟨k + 1, put l (ofR r), by omega, by go_num, H6.out, Hl6.out, Hfe.out, Hb6.out⟩))
                · have hfe : foldGo ps rs = foldGo l (rs.drop (k + 1)) := by rw [Hfo.out]; exact foldGo_old Hck.out.symm Hp0.out Hlo.out hlt
                  have Hfe := Lib.hid hfe
                  clear hfe
                  go_wp2
                  have hk := Hk.out
                  go_roundg (gk - 1)
                  case measure => omega
                  case rel => exact ⟨k + 1, l, by omega, by go_num, Ht4.out, H64.out, Hfe.out, Hb4.out⟩
        
      · have hki : ¬ (k : Int) < rs.length := by omega
        have hfe : foldGo ps rs = (0, l) := by rw [hfo, List.drop_eq_nil_of_le (by omega)]; rfl
        have cL := list_any w.heap.size (w.heap.size + 1) w.heap.size l wr ht h64
        have Hfe := Lib.hid hfe
        have Hbw := Lib.hid hbw
        clear hfe hbw hfo hk ht h64 Hk
        go_wp2_with (go_at_call 21; refine cL.mono ?_; rintro e w6 ⟨v, rfl, hv, hb⟩)
        go_ret2
        exact ⟨Hbw.out.trans (hb.mono Hbw.out.size), v, by rw [Hfe.out]; rfl, by rw [Hfe.out]; exact hv.mono Hbw.out.size⟩
  · have hf : foldR ps rs = (92, []) := if_neg hok
    rw [hf]
    have cN' : Calls Try.prog 23 #[.slice A ps.length c] w fun e w' => Below w.heap.size w w' ∧ e = .returned (.tuple #[.pointer none, .int .i64 92]) :=
      cN.mono fun e w' ⟨h1, h2⟩ => ⟨h1, h2.elim (fun h => absurd h.1 hok) (fun h => h.2)⟩
    clear cN hf hok
    go_enter Try.func10, Try.ntmps10
    go_wp2_with (go_at_call 23; refine cN'.mono ?_; rintro e w1 ⟨hb1, rfl⟩)
    go_ret2
    exact ⟨hb1, _, rfl, OwnP.nil _ _⟩
end Go.Proofs.Ytmcahimapoddfaa
