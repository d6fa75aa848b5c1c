/- The walk of the document's Fold. Conditions: the arguments are readable. -/
import Derived.Test.YtmcahimapoddfaaRefRight
import Derived.Test.YtmcahimapoddfaaRefCheck
namespace Go.Proofs.Ytmcahimapoddfaa
open Go.RowKit Go.Maps

theorem find_no {v : Value} {tb : List Pr} {pid : Int} {w : World} (h : PS w v tb) (hr : Rising tb) (hn : look tb pid = none) : Calls Try.prog 33 #[v, .int .i64 pid] w fun e w' => e = .returned (.int .i64 (-1)) ∧ w = w' := by
  refine (find_any v tb pid w h hr).mono ?_
  rintro e w' ⟨hw, r, rfl, ⟨rfl, _⟩ | ⟨k, p, _, _, e⟩⟩
  · exact ⟨rfl, hw⟩
  · rw [hn] at e; cases e
theorem find_yes {v : Value} {tb : List Pr} {pid : Int} {p : Pr} {w : World} (h : PS w v tb) (hr : Rising tb) (hn : look tb pid = some p) : Calls Try.prog 33 #[v, .int .i64 pid] w fun e w' => (∃ k : Nat, e = .returned (.int .i64 (k : Nat)) ∧ tb[k]? = some p) ∧ w = w' := by
  refine (find_any v tb pid w h hr).mono ?_
  rintro e w' ⟨hw, r, rfl, ⟨_, e⟩ | ⟨k, q, rfl, hk, e⟩⟩
  · rw [hn] at e; cases e
  · rw [hn] at e
    injection e with e
    subst e
    exact ⟨⟨k, rfl, hk⟩, hw⟩

set_option maxRecDepth 100000 in
set_option maxHeartbeats 4000000 in
theorem foldRef_any (v u : Value) (ps : List Pr) (rs : List Rc) (w : World) (code : Int) (L : List Pr) (h0 : PS w v ps) (h1 : RS w u rs) (hf : foldR ps rs = (code, L)) :
    Calls Try.prog 11 #[v, u] w fun e w' => ∃ v', e = .returned (.tuple #[v', .int .i64 code]) ∧ OwnP w' w.heap.size v' L ∧ Below w.heap.size w w' := by
  by_cases hN : NewOk ps
  rotate_left
  · rw [foldR_no hN] at hf
    injection hf with e1 e2
    subst e1 e2
    have cR := right_any v ps w h0 false ⟨(by intro h; cases h), fun h => absurd h hN⟩
    clear h0 h1 hN
    go_enter Try.func11, Try.ntmps11
    go_wp2_with (go_at_call 31; refine cR.mono ?_; rintro e w1 ⟨rfl, hb1⟩)
    go_ret2
    exact ⟨_, rfl, OwnP.nil _ _, hb1⟩
  · rw [foldR_ok hN] at hf
    have cR := right_any v ps w h0 true ⟨fun _ => hN, fun _ => rfl⟩
    obtain ⟨A, c, rfl, hlc, hcm, hnil, hp⟩ := h0
    obtain ⟨A1, c1, rfl, x1, x2, xn, x3⟩ := h1
    clear xn
    obtain ⟨i0, hi, hz0, hz1, hz2⟩ := info_parts info67
    have h64 := hN.1
    have HN := Lib.hid hN
    have Hp := Lib.hid hp
    have Xs := Lib.hid x3
    have Hf := Lib.hid hf
    have hcm' := hcm
    unfold maxLen at hcm' x2
    clear hN hp x3 hf
    go_enter Try.func11, Try.ntmps11
    go_upto_region 4 with (go_at_call 31; refine cR.mono ?_; rintro e w1 ⟨rfl, hb1⟩)
    have hb0 := hb1.alloc hb1.size (.cells #[] 67)
    have hp' : ProdsAt (w1.alloc (.cells #[] 67)) w.heap.size A ps := Hp.out.below hb0
    have hem : (w1.alloc (.cells #[] 67)).ownsRow w.heap.size 67 3 (.slice (some ⟨w1.heap.size, 0, none⟩) 0 0) 0 [] := World.ownsRow_lit w1 #[] 0 hb1.size (by unfold maxLen; omega) (by simp)
    have hsz : w.heap.size ≤ (w1.alloc (.cells #[] 67)).heap.size := by have := hb1.size; simp; omega
    have Hb0 := Lib.hid hb0
    have Hb1 := Lib.hid hb1.size
    clear hb0 hb1 cR
    go_upto_region 5 with (first
      | (at_builtin; refine wpList_append_any _ rfl _ _ 22 rfl w.heap.size 67 i0 _ 3 24 Try.underlying22 hi hz0 hz1 hz2 rfl (by decide) _ 0 [] rfl hem A ps.length c rfl hnil (ps.flatMap prCells) (flat_len ps) (prods_news hp') prods_one (by unfold maxLen; omega) (by omega) hsz ?_; intro vc wc hown1 hgr1 hat1))
    rw [Nat.zero_add, List.nil_append] at hown1
    have hown2 : OwnP wc w.heap.size vc ps := hown1
    have Hown1 := Lib.hid hown2
    clear hown2
    have Hbc := Lib.hid (Hb0.out.grown hgr1 hsz (fun j hj => by have e : some w1.heap.size = some j := hj; injection e with e; have := Hb1.out; omega))
    clear hown1 hgr1 hat1 hem hp' hsz Hb0 Hb1 Hp hnil hcm hcm' hlc h64
    clear i0 hi hz0 hz1 hz2
    go_wp2
    go_loopg [7, 8] rs.length (fun g vl i wr => ∃ (k : Nat) (l : List Pr), g + k = rs.length ∧ i = .int .i64 (k : Nat) ∧ OwnP wr w.heap.size vl l ∧ NewOk l ∧ foldGo l (rs.drop k) = (code, L) ∧ Below w.heap.size w wr)
    case atStart => exact ⟨0, ps, by omega, rfl, Hown1.out, HN.out, Hf.out, Hbc.out⟩
    case round =>
      obtain ⟨k, l, hk, rfl, hown, hok, hfo, hbw⟩ := hrel
      have hkn : k ≤ rs.length := by omega
      have Hk := Lib.hid hk
      have Hown := Lib.hid hown
      have Hok := Lib.hid hok
      have Hbw := Lib.hid hbw
      by_cases hkl : k < rs.length
      · have hki : (k : Int) < rs.length := by omega
        obtain ⟨r, hr⟩ : ∃ r, rs[k]? = some r := ⟨_, List.getElem?_eq_getElem hkl⟩
        rw [drop_at hr] at hfo
        have Hfo := Lib.hid hfo
        obtain ⟨rb, ro, he, hrl, hc⟩ := Xs.out (by omega)
        subst he
        obtain ⟨q0, q1, q2, q3, q4, q5, q6⟩ := hc k r hr
        have z0 := (hbw.cell (p := ⟨rb, ro + k * 7, none⟩) hrl).trans q0
        have z1 := (hbw.cell (p := ⟨rb, ro + k * 7 + 1, none⟩) hrl).trans q1
        have z2 := (hbw.cell (p := ⟨rb, ro + k * 7 + 2, none⟩) hrl).trans q2
        have z3 := (hbw.cell (p := ⟨rb, ro + k * 7 + 3, none⟩) hrl).trans q3
        have z4 := (hbw.cell (p := ⟨rb, ro + k * 7 + 4, none⟩) hrl).trans q4
        have z5 := (hbw.cell (p := ⟨rb, ro + k * 7 + 5, none⟩) hrl).trans q5
        have z6 := (hbw.cell (p := ⟨rb, ro + k * 7 + 6, none⟩) hrl).trans q6
        clear q0 q1 q2 q3 q4 q5 q6 hc hr hk hfo hown hok hbw hrl
        go_upto_region 9 with fail
        have hbk := Blk.new wr 32 #[.int .i64 r.kind, .int .i64 r.off, .int .i64 r.tim, .int .i64 r.pid, .int .i64 r.seq, .string r.key, .string r.val]
        have b0 := hbk.cell 0
        have b1 := hbk.cell 1
        have b2 := hbk.cell 2
        have b3 := hbk.cell 3
        have b4 := hbk.cell 4
        have b5 := hbk.cell 5
        have b6 := hbk.cell 6
        simp only [List.getElem?_toArray, List.getElem?_cons_zero, List.getElem?_cons_succ] at b0 b1 b2 b3 b4 b5 b6
        have hb1 : Below wr.heap.size wr (wr.alloc (.cells #[.int .i64 r.kind, .int .i64 r.off, .int .i64 r.tim, .int .i64 r.pid, .int .i64 r.seq, .string r.key, .string r.val] 32)) := (Below.refl _ _).alloc (Nat.le_refl _) _
        clear z0 z1 z2 z3 z4 z5 z6
        generalize hW1 : wr.alloc (.cells #[.int .i64 r.kind, .int .i64 r.off, .int .i64 r.tim, .int .i64 r.pid, .int .i64 r.seq, .string r.key, .string r.val] 32) = w2 at *
        clear hW1
        have Hb1 := Lib.hid hb1
        have Hbk := Lib.hid hbk
        clear hb1 hbk
        have cC := chkRef_any r w2
        unfold rcV at cC
        by_cases hch : chkR r = 0
        rotate_left
        · have hcn : (chkR r != 0) = true := by simpa using hch
          have hres := Hfo.out
          rw [foldGo_err hch] at hres
          injection hres with e1 e2
          have He1 := Lib.hid e1
          subst e2
          clear hch e1
          generalize chkR r = cr at *
          go_wp2_with (go_at_call 32; refine cC.mono ?_; rintro e w3 ⟨rfl, hb3⟩)
          go_ret2
          exact ⟨_, by rw [← He1.out]; rfl, OwnP.nil _ _, (Hbw.out.trans (Hb1.out.mono Hbw.out.size)).trans (hb3.mono (by have := Hbw.out.size; have := Hb1.out.size; omega))⟩
        · rw [hch] at cC
          have Hch := Lib.hid hch
          clear hch
          go_upto_region 12 with (go_at_call 32; refine cC.mono ?_; rintro e w3 ⟨rfl, hb3⟩)
          have hbl : Below wr.heap.size wr w3 := Hb1.out.trans (hb3.mono Hb1.out.size)
          have hbk3 := Hbk.out.below hb3 Hbk.out.lt
          have c0 := hbk3.cell 0
          have c1' := hbk3.cell 1
          have c3 := hbk3.cell 3
          have c4 := hbk3.cell 4
          simp only [List.getElem?_toArray, List.getElem?_cons_zero, List.getElem?_cons_succ] at c0 c1' c3 c4
          have Hown3 := Lib.hid (Hown.out.below hbl (Nat.le_refl _))
          have Hb3 := Lib.hid (Hbw.out.trans (hbl.mono Hbw.out.size))
          have Hbk3 := Lib.hid hbk3
          clear cC b0 b1 b2 b3 b4 b5 b6 hb3 hbl hbk3 Hbk Hb1 Hown Hbw
          by_cases hp0 : r.pid = 0
          · have hq : (r.pid == 0) = true := by simpa using hp0
            have Hres := Lib.hid (show foldGo l (rs.drop (k + 1)) = (code, L) by rw [← foldGo_skip Hch.out hp0]; exact Hfo.out)
            clear hp0
            go_wp2
            have hk := Hk.out
            go_roundg (gk - 1)
            case measure => omega
            case rel => exact ⟨k + 1, l, by omega, by go_num, Hown3.out, Hok.out, Hres.out, Hb3.out⟩
          · have hq : (r.pid == 0) = false := by simpa using hp0
            have Hp0 := Lib.hid hp0
            have hpid := Lib.hid (chk_zero Hch.out)
            obtain ⟨Al, cl, hvl, hl1, hl2, hln, hl3⟩ := Hown3.out.toS
            subst hvl
            have hris := (newOk_iff.1 Hok.out).2.1
            have h64 := Hok.out.1
            have hPS : PS w3 (.slice Al l.length cl) l := Hown3.out.toS
            have HPS := Lib.hid hPS
            have Hris := Lib.hid hris
            have Hl3 := Lib.hid hl3
            unfold maxLen at hl2
            clear hln hl3 hris hPS hp0
            rcases hlk : look l r.pid with _ | p
            · have cF := find_no HPS.out Hris.out hlk
              have Hlk := Lib.hid hlk
              clear hlk
              by_cases hf : 64 ≤ l.length
              · have hfi : (l.length : Int) ≥ 64 := by omega
                have hres := Hfo.out
                rw [foldGo_full Hch.out Hp0.out Hlk.out hf] at hres
                injection hres with e1 e2
                subst e1 e2
                clear hf
                go_wp2_with (go_at_call 33; refine cF.mono ?_; rintro e w4 ⟨rfl, rfl⟩)
                go_ret2
                exact ⟨_, rfl, OwnP.nil _ _, Hb3.out⟩
              · have hfi : ¬ (l.length : Int) ≥ 64 := by omega
                have Hres := Lib.hid (show foldGo (put l (ofR r)) (rs.drop (k + 1)) = (code, L) by rw [← foldGo_new Hch.out Hp0.out Hlk.out hf]; exact Hfo.out)
                have Hnok := Lib.hid (newOk_put Hok.out (ok_ofR Hch.out Hp0.out) (fun _ => by omega))
                clear hf
                go_upto_region 16 with (go_at_call 33; refine cF.mono ?_; rintro e w4 ⟨rfl, rfl⟩)
                go_cut [59] (fun s wx => s = .bool true ∧ Below w3.heap.size w3 wx)
                case first =>
                  go_quiet (fail)
                  go_wp2
                  go_meet
                  case rel => exact ⟨rfl, below_drewN (Below.refl _ _) _⟩
                case rest =>
                  obtain ⟨hs, hbx⟩ := hcut
                  subst hs
                  rename World => w5
                  have hbk5 := Hbk3.out.below hbx Hbk3.out.lt
                  have d1 := hbk5.cell 1
                  have d3 := hbk5.cell 3
                  have d4 := hbk5.cell 4
                  simp only [List.getElem?_toArray, List.getElem?_cons_zero, List.getElem?_cons_succ] at d1 d3 d4
                  have Hb5 := Lib.hid (Hb3.out.trans (hbx.mono Hb3.out.size))
                  have cL := laid_any _ l (ofR r) w5 (HPS.out.below hbx) Hris.out h64
                  unfold ofR at cL
                  dsimp only at cL
                  clear hbx hbk5 c0 c1' c3 c4
                  go_upto_region 7 with (go_at_call 34; refine cL.mono ?_; rintro e w6 ⟨v6, rfl, ho6, hb6⟩)
                  have Ho6 := Lib.hid ho6
                  have Hb6 := Lib.hid hb6
                  clear ho6 hb6 cL
                  go_wp2
                  have hk := Hk.out
                  go_roundg (gk - 1)
                  case measure => omega
                  case rel => exact ⟨k + 1, put l (ofR r), by omega, by go_num, Ho6.out.mono Hb5.out.size, Hnok.out, Hres.out, Hb5.out.trans (Hb6.out.mono Hb5.out.size)⟩
            · have cF := find_yes HPS.out Hris.out hlk
              have Hlk := Lib.hid hlk
              clear hlk
              go_upto_region 16 with (go_at_call 33; refine cF.mono ?_; rintro e w4 ⟨⟨j, rfl, hj⟩, rfl⟩; have hj0 : ¬ (j : Int) < 0 := (by omega))
              have hjl := (List.getElem?_eq_some_iff.1 hj).1
              have hji : (j : Int) < l.length := by omega
              have hj1 : decide ((j : Int) < 0) = false := decide_eq_false (by omega)
              obtain ⟨lb, lo, he, hll, hlc⟩ := Hl3.out (by omega)
              subst he
              obtain ⟨_, l1, _⟩ := hlc j p hj
              clear hlc hj0
              by_cases hs : p.seq < r.seq
              · have hsd : decide (p.seq < r.seq) = true := decide_eq_true hs
                have Hres := Lib.hid (show foldGo (put l (ofR r)) (rs.drop (k + 1)) = (code, L) by rw [← foldGo_put Hch.out Hp0.out Hlk.out hs]; exact Hfo.out)
                have Hnok := Lib.hid (newOk_put Hok.out (ok_ofR Hch.out Hp0.out) (fun e => by have h' : look l r.pid = none := e; rw [Hlk.out] at h'; cases h'))
                clear hs
                go_cut [59] (fun s wx => s = .bool true ∧ Below w3.heap.size w3 wx)
                case first =>
                  go_quiet (fail)
                  go_wp2
                  go_meet
                  case rel => exact ⟨rfl, below_drewN (Below.refl _ _) _⟩
                case rest =>
                  obtain ⟨hs, hbx⟩ := hcut
                  subst hs
                  rename World => w5
                  have hbk5 := Hbk3.out.below hbx Hbk3.out.lt
                  have d1 := hbk5.cell 1
                  have d3 := hbk5.cell 3
                  have d4 := hbk5.cell 4
                  simp only [List.getElem?_toArray, List.getElem?_cons_zero, List.getElem?_cons_succ] at d1 d3 d4
                  have Hb5 := Lib.hid (Hb3.out.trans (hbx.mono Hb3.out.size))
                  have cL := laid_any _ l (ofR r) w5 (HPS.out.below hbx) Hris.out h64
                  unfold ofR at cL
                  dsimp only at cL
                  clear hbx hbk5 c0 c1' c3 c4
                  go_upto_region 7 with (go_at_call 34; refine cL.mono ?_; rintro e w6 ⟨v6, rfl, ho6, hb6⟩)
                  have Ho6 := Lib.hid ho6
                  have Hb6 := Lib.hid hb6
                  clear ho6 hb6 cL
                  go_wp2
                  have hk := Hk.out
                  go_roundg (gk - 1)
                  case measure => omega
                  case rel => exact ⟨k + 1, put l (ofR r), by omega, by go_num, Ho6.out.mono Hb5.out.size, Hnok.out, Hres.out, Hb5.out.trans (Hb6.out.mono Hb5.out.size)⟩
              · have hsd : decide (p.seq < r.seq) = false := decide_eq_false hs
                have Hres := Lib.hid (show foldGo l (rs.drop (k + 1)) = (code, L) by rw [← foldGo_old Hch.out Hp0.out Hlk.out hs]; exact Hfo.out)
                clear hs
                go_cut [59] (fun s wx => s = .bool false ∧ Below w3.heap.size w3 wx)
                case first =>
                  go_quiet (fail)
                  go_wp2
                  go_meet
                  case rel => exact ⟨rfl, below_drewN (Below.refl _ _) _⟩
                case rest =>
                  obtain ⟨hs, hbx⟩ := hcut
                  subst hs
                  rename World => w5
                  have Hown5 := Lib.hid (Hown3.out.below hbx (Nat.le_refl _))
                  have Hb5 := Lib.hid (Hb3.out.trans (hbx.mono Hb3.out.size))
                  clear hbx l1
                  go_wp2
                  have hk := Hk.out
                  go_roundg (gk - 1)
                  case measure => omega
                  case rel => exact ⟨k + 1, l, by omega, by go_num, Hown5.out, Hok.out, Hres.out, Hb5.out⟩
      · have hki : ¬ (k : Int) < rs.length := by omega
        have hke : k = rs.length := by omega
        rw [List.drop_of_length_le (by omega)] at hfo
        injection hfo with e1 e2
        subst e1 e2
        clear hke hk hown hok hbw hkl
        go_wp2
        go_ret2
        exact ⟨_, rfl, Hown.out, Hbw.out⟩
end Go.Proofs.Ytmcahimapoddfaa
