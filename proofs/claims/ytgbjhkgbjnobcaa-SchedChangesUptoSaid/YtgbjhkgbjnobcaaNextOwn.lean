/- The walk of 'sched.Next' once more: the answer lies in memory of its own. Conditions: the turns are readable, their lists within reach. -/
import Derived.Test.YtgbjhkgbjnobcaaRefNext
namespace Go.Proofs.Ytgbjhkgbjnobcaa
open Go.RowKit Trn

section
variable {w wr w1 : World} {g cb : Nat} {t : Tu} {vq : Value} {l l' : List QV} {at_ : Int} {fr : Bool}
theorem NM.rn (h : NM w g cb t wr) (hl : t.qs.length ≤ maxLen) : ∃ l : List QV, RN w cb (.slice (some ⟨g, 0, none⟩) t.qs.length t.qs.length) l t.at_ t.fr wr ∧ l.map (·.1) = t.qs ∧ ∀ p ∈ l, p.2.2 = [] := by
  obtain ⟨l, ho, he⟩ := h.own
  have hll : l.length = t.qs.length := by rw [← he, List.length_map]
  have ht := TQ.of_own ho (by omega)
  rw [hll] at ht
  refine ⟨_, ⟨h.below, h.res, h.gc, h.cblk, ht⟩, by rw [List.map_map]; exact he, fun p hp => ?_⟩
  obtain ⟨p0, _, rfl⟩ := List.mem_map.1 hp
  rfl
theorem RN.cellq (h : RN w cb vq l at_ fr wr) {i : Nat} {p : QV} (hp : l[i]? = some p) {g n c : Nat} (hv : vq = .slice (some ⟨g, 0, none⟩) n c) :
    wr.cell? ⟨g, i * 4, none⟩ = some (.int .i64 p.1.id) ∧ wr.cell? ⟨g, i * 4 + 1, none⟩ = some (.int .i64 p.1.qu) ∧ wr.cell? ⟨g, i * 4 + 2, none⟩ = some (.int .i64 p.1.de) ∧ wr.cell? ⟨g, i * 4 + 3, none⟩ = some p.2.1 ∧ ∀ k, wr.frozen? ⟨g, k, none⟩ = false := by
  obtain ⟨g', c', hvq, _, r⟩ := h.tq.at_ hp
  have hgg : g = g' := by
    rw [hv] at hvq
    injection hvq with hvq _ _
    injection hvq with hvq
    injection hvq
  subst hgg
  exact r
theorem RN.fin (h : RN w cb vq l at_ fr wr) {g n c : Nat} (hv : vq = .slice (some ⟨g, 0, none⟩) n c) (ht : Touch g wr w1) (hq : TQ w1 (w.heap.size + 2) vq l' []) : RN w cb vq l' at_ fr w1 := by
  have hgc := h.gc
  have hfg : FQ vq l g := .inl (by rw [hv]; rfl)
  have hg := (h.tq.lt hfg).1
  exact ⟨h.below.trans (ht.below (by omega)), ht.blk h.res (by omega), h.gc, ht.blk h.cblk (fun e => h.tq.ne_blk h.cblk (by decide) (by decide) (by rw [e]; exact hfg)), hq⟩
theorem RN.setDe (h : RN w cb vq l at_ fr wr) {i g n c : Nat} {p : QV} (hp : l[i]? = some p) (hv : vq = .slice (some ⟨g, 0, none⟩) n c) (x : Int) : RN w cb vq (l.set i ({ p.1 with de := x }, p.2.1, p.2.2)) at_ fr (wr.setCell ⟨g, i * 4 + 2, none⟩ (.int .i64 x)) :=
  h.fin hv ((Touch.refl _ _).set_ _ _) (h.tq.setDe hp hv x)
theorem RN.setCs (h : RN w cb vq l at_ fr wr) {i g n c : Nat} {p : QV} (hp : l[i]? = some p) (hv : vq = .slice (some ⟨g, 0, none⟩) n c) {u : Value} {cs sp : List Int} (hi : IR wr (w.heap.size + 2) u cs sp) (hb : ∀ b, u.ownBlock = some b → p.2.1.ownBlock = some b) :
    RN w cb vq (l.set i ({ p.1 with cs := cs }, u, sp)) at_ fr (wr.setCell ⟨g, i * 4 + 3, none⟩ u) :=
  h.fin hv ((Touch.refl _ _).set_ _ _) (h.tq.setCs hp hv hi hb)
end

set_option maxRecDepth 100000 in
set_option maxHeartbeats 4000000 in
theorem next_own (v : Value) (t : Tu) (w : World) (B : Nat) (hB : B ≤ w.heap.size) (hv : TuAt w B v t) (hr : Reach t) :
    Calls Try.prog 13 #[v] w fun e w' => (∃ v' t' id cost ok, e = .returned (.tuple #[v', .int .i64 id, .int .i64 cost, .bool ok]) ∧ TuOwn w' w.heap.size v' t' ∧ NextIs t t' id cost ok) ∧ Below w.heap.size w w' := by
  have Hv := Lib.hid hv
  obtain ⟨A, c, rfl, hlc, hcm, hq⟩ := hv
  have Hq := Lib.hid hq
  clear hq
  by_cases hck : chk t = 0
  · have hval := chk_zero.1 hck
    have hbx : ∀ w1, Below w.heap.size w w1 → Calls Try.prog 20 #[.agg #[.slice A t.qs.length c, .int .i64 t.at_, .bool t.fr]] w1 fun e w' => e = .returned (.int .i64 0) ∧ Below w1.heap.size w1 w' := fun w1 hb => by
      have := check_any _ t w1 B (by have := hb.size; omega) (Hv.out.below (hb.mono hB))
      rw [hck] at this
      exact this
    have hcp : ∀ w1, Below w.heap.size w w1 → Calls Try.prog 32 #[.agg #[.slice A t.qs.length c, .int .i64 t.at_, .bool t.fr]] w1 fun e w' => (∃ g l, e = .returned (.agg #[.slice (some ⟨g, 0, none⟩) t.qs.length t.qs.length, .int .i64 t.at_, .bool t.fr]) ∧ OwnQs w' w1.heap.size g l ∧ l.map (·.1) = t.qs) ∧ Below w1.heap.size w1 w' := fun w1 hb =>
      copied_any _ t w1 B (by have := hb.size; omega) (Hv.out.below (hb.mono hB)) hval.len hr
    go_enter Try.func13, Try.ntmps13
    go_upto_region 1 with fail
    have hx := (Boxed.start w A t.qs.length c t.at_ t.fr).alloc (.cells #[.slice none 0 0, .int .i64 0, .bool false] 34)
    have hres := Blk.new (w.alloc (.cells #[.slice A t.qs.length c, .int .i64 t.at_, .bool t.fr] 34)) 34 #[.slice none 0 0, .int .i64 0, .bool false]
    rw [World.size_alloc] at hres
    generalize hW0 : World.alloc (World.alloc _ _) _ = W0
    rw [hW0] at hx hres
    clear hW0
    obtain ⟨x0, x1, x2⟩ := hx.cells
    have HX := Lib.hid hx
    have HR := Lib.hid hres
    have hxb := hx.below
    have HXB := Lib.hid hxb
    clear hx hres hxb
    refine wp_scope_straight ?_
    go_wp2_with (first
      | (go_at_call 20; refine Calls.mono (hbx _ HXB.out) ?_; rintro e w1 ⟨rfl, hb1⟩; have hx1 := HX.out.more hb1; obtain ⟨y0, y1, y2⟩ := hx1.cells; have hxb1 := hx1.below; have HXB1 := Lib.hid hxb1; clear hx1 hxb1)
      | (go_at_call 32; refine Calls.mono (hcp _ HXB1.out) ?_; rintro e w2 ⟨⟨g, l, rfl, ho, hl⟩, hb2⟩))
    have hnm := NM.start (t := t) HXB.out HR.out hb1 hb2 ho hl
    clear hl ho HR HX HXB HXB1 x0 x1 x2 y0 y1 y2 hcp hbx hb1 hb2
    generalize hW3 : World.alloc _ _ = W3
    rw [hW3] at hnm
    clear hW3
    have hread := hnm.read
    have Hn := Lib.hid hnm
    have Hread := Lib.hid hread
    clear hnm hread
    refine Calls.mono (contains_any _ _ t.qs W3 _ (Nat.le_refl _) Hread.out hval.len) ?_
    generalize w2.heap.size = cb at *
    rintro e w4 ⟨he, hb4⟩
    have hn4 := Hn.out.more hb4
    have k0 := hn4.cblk.cell 0
    have k1 := hn4.cblk.cell 1
    have k2 := hn4.cblk.cell 2
    simp at k0 k1 k2
    have r0 := hn4.res.cell 0
    have r1 := hn4.res.cell 1
    have r2 := hn4.res.cell 2
    simp at r0 r1 r2
    have f0 := hn4.res.frozen 0
    have f1 := hn4.res.frozen 1
    have f2 := hn4.res.frozen 2
    have Hn4 := Lib.hid hn4
    clear hn4 Hn Hread hb4
    rcases he with ⟨rfl, hw⟩ | ⟨rfl, hw⟩
    · obtain ⟨F, ⟨t9, i9, c9⟩, hF⟩ := served_some hval hw
      have HF := Lib.hid hF
      have hpos : 0 < t.qs.length := by obtain ⟨i, q, hi, _⟩ := hw; have := (List.getElem?_eq_some_iff.1 hi).1; omega
      have HV := Lib.hid hval
      clear hF hval k0 k1 k2 r0 r1 r2 f0 f1 f2 hck Hv Hq
      go_wp2
      refine wp_label ?_
      simp only [Exit.then]
      go_wp2
      go_loopg [7] F (fun gk _ wr => ∃ tk, Valid tk ∧ tk.qs.length = t.qs.length ∧ go gk tk = some (t9, i9, c9) ∧ NM w g cb tk wr)
      case atStart => exact ⟨t, HV.out, rfl, HF.out, Hn4.out⟩
      case round =>
        obtain ⟨tk, hvk, hlk, hgk, hm⟩ := hrel
        have hpk : 0 < tk.qs.length := by omega
        have hlen := hvk.len
        have hgp := go_pos hgk
        obtain ⟨a0, a1⟩ := at_lt hvk hpk
        obtain ⟨a, ha⟩ : ∃ a : Nat, tk.at_ = (a : Int) := ⟨tk.at_.toNat, by omega⟩
        have hta : tk.at_.toNat = a := by omega
        have hqa := cur_at hvk hpk
        rw [hta] at hqa
        obtain ⟨q, hqe⟩ : ∃ q, q = cur tk := ⟨_, rfl⟩
        rw [← hqe] at hqa
        have hal : a < tk.qs.length := by omega
        have hai : (a : Int) < tk.qs.length := by omega
        have k0 := hm.cblk.cell 0
        have k1 := hm.cblk.cell 1
        have k2 := hm.cblk.cell 2
        simp at k0 k1 k2
        rw [ha] at k1
        have f2 := hm.cblk.frozen 2
        obtain ⟨Aq, cq, hcq, hcqm, hin, q0, q1, q2, q3⟩ := hm.row_at hqa
        have g2 := hm.row_free (a * 4 + 2)
        have g3 := hm.row_free (a * 4 + 3)
        have hgc1 : ¬ g = cb := hm.ne
        have hgc2 : ¬ cb = g := fun e => hm.ne e.symm
        have Hm := Lib.hid hm
        have Hgk := Lib.hid hgk
        have Hvk := Lib.hid hvk
        have Hqa := Lib.hid hqa
        have Hta := Lib.hid hta
        have Hqe := Lib.hid hqe
        have Hlk := Lib.hid hlk
        have Ha := Lib.hid ha
        clear hm hgk hvk hqa hta hqe hlk ha
        by_cases hcs : q.cs.length = 0
        · rw [hcs] at q3
          have hnil : q.cs = [] := List.eq_nil_of_length_eq_zero hcs
          have hst : Trn.step tk = .inl (on tk) := by unfold Trn.step; rw [← Hqe.out, hnil]
          have Hst := Lib.hid hst
          clear hst hnil hcs
          go_wp2_with (first | (go_at_call 35; refine Calls.mono (goOn_any cb _ _ _ _ _ wr Hm.out.cblk hpk hlen a0 a1) ?_; rintro e w5 ⟨rfl, ht, hblk⟩))
          go_roundg (gk - 1)
          case measure => omega
          case rel => exact ⟨on tk, (Hvk.out.step_inl hpk Hst.out).1, Hlk.out, go_inl Hgk.out Hst.out, Hm.out.touch ht hblk⟩
        · obtain ⟨x, xs, hxs⟩ : ∃ x xs, q.cs = x :: xs := by
            cases he : q.cs with
            | nil => rw [he] at hcs; exact absurd rfl hcs
            | cons x xs => exact ⟨x, xs, rfl⟩
          obtain ⟨b, o, x', hA, hbl, hx', x0⟩ := hin.at_ (i := 0) (by omega)
          have hxx : x' = x := by rw [hxs] at hx'; injection hx' with e; exact e.symm
          subst hxx hA
          have hl1 : q.cs.length = xs.length + 1 := by rw [hxs]; rfl
          rw [hl1] at q3
          have hne0 : ((xs.length : Int) + 1 == 0) = false := by simp only [beq_eq_false_iff_ne, ne_eq]; omega
          have Hxs := Lib.hid hxs
          have Hl1 := Lib.hid hl1
          clear hxs hl1 hcs hx'
          obtain ⟨fb, hfb⟩ : ∃ fb, fb = tk.fr := ⟨_, rfl⟩
          rw [← hfb] at k2
          have Hfb := Lib.hid hfb
          clear hfb
          go_upto_if 35 with fail
          clear hne0
          go_cut [34, 35] (fun _ _ wx => NM w g cb (paid tk) wx)
          case first =>
            cases fb
            · have hp := paid_stale Hfb.out.symm
              rw [Hta.out, ← Hqe.out] at hp
              have Hp := Lib.hid hp
              have hdq := (money_in Hvk.out hpk)
              have hmon : money tk = q.de + q.qu := by rw [money, if_neg (by rw [← Hfb.out]; decide), Hqe.out]
              rw [hmon] at hdq
              obtain ⟨d0, d1⟩ := hdq
              have hwr : IntKind.i64.wrap (q.de + q.qu) = q.de + q.qu := by rw [IntKind.wrap_i64]; omega
              clear hp hmon
              go_wp2_with fail
              go_still_tail 11, (by kernel_rfl)
              change wpList _ _ _ _ _ wr.drew
              go_wp2
              go_meet
              case rel =>
                rw [Hp.out]
                exact ((Hm.out.setDe Hqa.out (q.de + q.qu)).fresh true).drew
            · have hp := paid_fresh Hfb.out.symm (by rw [Hta.out, ← Hqe.out]; exact Hqa.out)
              have Hp := Lib.hid hp
              clear hp
              go_wp2
              go_meet
              case rel => rw [Hp.out]; exact Hm.out
          case rest =>
            clear k0 k1 k2 f2 q0 q1 q2 q3 g2 g3 x0 hin hcq hcqm hbl
            have hpl : (paid tk).qs.length = tk.qs.length := setQ_len _ _
            have hpa : (paid tk).qs[a]? = some { q with de := money tk } := by
              have := cur_paid (t := tk) (by rw [Hta.out]; exact hal)
              rw [Hta.out, ← Hqe.out] at this
              exact this
            obtain ⟨m0, m1⟩ := money_in Hvk.out hpk
            have hxin := cur_cs Hvk.out hpk x' (by rw [← Hqe.out, Hxs.out]; exact List.mem_cons_self)
            have k0 := hcut.cblk.cell 0
            have k1 := hcut.cblk.cell 1
            have k2 := hcut.cblk.cell 2
            simp at k0 k1 k2
            rw [hpl] at k0
            obtain ⟨A5, cq5, hcq, hcqm, hin, q0, q1, q2, q3⟩ := hcut.row_at hpa
            dsimp only at q0 q1 q2 q3 hin hcq
            rw [Hl1.out] at q3 hcq
            obtain ⟨b5, o5, x5, hA, hbl, hx5, x0⟩ := hin.at_ (i := 0) (by rw [Hl1.out]; omega)
            rw [Nat.add_zero] at x0
            have hxx : x5 = x' := by rw [Hxs.out] at hx5; injection hx5 with e; exact e.symm
            subst hxx hA
            have g2 := hcut.row_free (a * 4 + 2)
            have g3 := hcut.row_free (a * 4 + 3)
            have Hcut := Lib.hid hcut
            have Hpl := Lib.hid hpl
            have Hpa := Lib.hid hpa
            obtain ⟨M, hM⟩ : ∃ M, M = money tk := ⟨_, rfl⟩
            rw [← hM] at q2 m0 m1
            have HM := Lib.hid hM
            clear hcut hpl hpa hM hx5
            by_cases hlt : x5 > M
            · have hst : Trn.step tk = .inl (on (paid tk)) := by
                unfold Trn.step
                rw [← Hqe.out, Hxs.out]
                simp only
                rw [if_pos (by rw [← HM.out]; exact hlt)]
              have Hst := Lib.hid hst
              clear hst
              go_wp2_with (first | (go_at_call 35; refine Calls.mono (goOn_any cb _ _ _ _ _ _ Hcut.out.cblk (by rw [Hpl.out]; exact hpk) (by rw [Hpl.out]; exact hlen) a0 (by rw [Hpl.out]; exact a1)) ?_; rintro e w5 ⟨rfl, ht, hblk⟩))
              go_roundg (gk - 1)
              case measure => omega
              case rel => exact ⟨on (paid tk), (Hvk.out.step_inl hpk Hst.out).1, by rw [← Hlk.out]; exact Hpl.out, go_inl Hgk.out Hst.out, Hcut.out.touch ht hblk⟩
            · have hwr2 : IntKind.i64.wrap (M - x5) = M - x5 := by rw [IntKind.wrap_i64]; omega
              have hst : Trn.step tk = .inr (Trn.served tk x5 xs, q.id, x5) := by
                unfold Trn.step
                rw [← Hqe.out, Hxs.out]
                simp only
                rw [if_neg (by rw [← HM.out]; exact hlt)]
              have hres := go_inr Hgk.out hst
              injection hres with hr1 hr2
              injection hr2 with hr2 hr3
              have Hr1 := Lib.hid hr1
              have Hr2 := Lib.hid hr2
              have Hr3 := Lib.hid hr3
              clear hst hr1 hr2 hr3
              have hlm : (paid tk).qs.length ≤ maxLen := by rw [Hpl.out]; unfold maxLen; omega
              obtain ⟨l5, hrn, hlq, hsp⟩ := Hcut.out.rn hlm
              obtain ⟨u, hp⟩ : ∃ u, l5[a]? = some ({ q with de := money tk }, u, []) := by
                have hqa := Hpa.out
                rw [← hlq, List.getElem?_map] at hqa
                obtain ⟨p, h1, h2⟩ := Option.map_eq_some_iff.1 hqa
                have h3 := hsp p (List.mem_of_getElem? h1)
                obtain ⟨p1, p2, p3⟩ := p
                have h2 : p1 = _ := h2
                have h3 : p3 = [] := h3
                rw [h2, h3] at h1
                exact ⟨p2, h1⟩
              have hir : IR wc (w.heap.size + 2) u q.cs [] := hrn.tq.own a _ hp
              have hu : u = .slice (some ⟨b5, o5, none⟩) (xs.length + 1) cq5 := by
                have := (hrn.cellq hp rfl).2.2.2.1
                rw [q3] at this
                injection this with this
                exact this.symm
              subst hu
              go_upto_region 17 with fail
              generalize hAv : (if cq5 = 1 then some (⟨b5, o5, none⟩ : Addr) else some ⟨b5, o5 + 1, none⟩) = Av
              rw [Hxs.out] at hir
              have hit := hir.tail hAv.symm
              have hbp : ∀ b, (Value.slice Av xs.length (cq5 - 1)).ownBlock = some b → (Value.slice (some ⟨b5, o5, none⟩) (xs.length + 1) cq5).ownBlock = some b := fun b hb => by
                rw [← hAv] at hb
                split at hb
                · exact hb
                · exact hb
              have hm5 := hrn.setDe hp rfl (M - x5)
              dsimp only at hm5
              have hal5 : a < l5.length := (List.getElem?_eq_some_iff.1 hp).1
              have hp5 : (l5.set a ({ q with de := M - x5 }, .slice (some ⟨b5, o5, none⟩) (xs.length + 1) cq5, []))[a]? = some ({ q with de := M - x5 }, .slice (some ⟨b5, o5, none⟩) (xs.length + 1) cq5, []) := List.getElem?_set_self hal5
              have hit5 := hit.keep (w' := wc.setCell ⟨g, a * 4 + 2, none⟩ (.int .i64 (M - x5))) fun b hb => Below.heap_setCell _ _ _ b fun e => hrn.tq.ne_g hp rfl (by rw [hbp b hb, e])
              have hnb6 := hm5.setCs hp5 rfl hit5 hbp
              rw [List.set_set] at hnb6
              dsimp only at hnb6
              have hp6 : (l5.set a ({ q with de := M - x5, cs := xs }, .slice Av xs.length (cq5 - 1), []))[a]? = some ({ q with de := M - x5, cs := xs }, .slice Av xs.length (cq5 - 1), []) := List.getElem?_set_self hal5
              generalize hw6 : World.setCell (World.setCell wc _ _) _ _ = w6
              rw [hw6] at hnb6
              obtain ⟨p0, p1, p2, p3, pf⟩ := hnb6.cellq hp6 rfl
              dsimp only at p0 p1 p2 p3
              have g6 := pf (a * 4 + 2)
              have j0 := hnb6.cblk.cell 0
              have j1 := hnb6.cblk.cell 1
              have j2 := hnb6.cblk.cell 2
              simp at j0 j1 j2
              have r0 := hnb6.res.cell 0
              have r1 := hnb6.res.cell 1
              have r2 := hnb6.res.cell 2
              simp at r0 r1 r2
              have f0 := hnb6.res.frozen 0
              have f1 := hnb6.res.frozen 1
              have f2 := hnb6.res.frozen 2
              have Hnb := Lib.hid hnb6
              have Hp6 := Lib.hid hp6
              have Hlq := Lib.hid hlq
              clear hrn hir hit hit5 hbp hm5 hp5 hAv hw6 hnb6 hp6 hp hlq hsp hlm pf k0 k1 k2 q0 q1 q2 q3 g2 g3 x0
              have hmapset : ∀ (q' : Qu) (u : Value), (l5.set a (q', u, [])).map (·.1) = tk.qs.set a q' := fun q' u => by
                rw [List.map_set, Hlq.out]
                show (tk.qs.set tk.at_.toNat _).set a _ = _
                rw [Hta.out, List.set_set]
              have Hmap := Lib.hid hmapset
              clear hmapset
              by_cases hx : xs.length = 0
              · have hxn : xs = [] := List.eq_nil_of_length_eq_zero hx
                have Hxn := Lib.hid hxn
                rw [hx] at p3
                have hnb7 := Hnb.out.setDe Hp6.out rfl 0
                rw [List.set_set] at hnb7
                dsimp only at hnb7
                have Hnb7 := Lib.hid hnb7
                clear hx hxn hnb7
                go_wp2_with (first | (go_at_call 35; refine Calls.mono (goOn_any cb _ _ _ _ _ _ Hnb7.out.cblk (by rw [Hpl.out]; exact hpk) (by rw [Hpl.out]; exact hlen) a0 (by rw [Hpl.out]; exact a1)) ?_; rintro e w7 ⟨rfl, ht, hblk⟩; have hnb8 := Hnb7.out.touch ht hblk; have v0 := hnb8.cblk.cell 0; have v1 := hnb8.cblk.cell 1; have v2 := hnb8.cblk.cell 2; simp at v0 v1 v2; have r0 := hnb8.res.cell 0; have r1 := hnb8.res.cell 1; have r2 := hnb8.res.cell 2; simp at r0 r1 r2; have f0 := hnb8.res.frozen 0; have f1 := hnb8.res.frozen 1; have f2 := hnb8.res.frozen 2; have Hnb8 := Lib.hid hnb8; clear hnb8 ht hblk))
                rw [Exit.noGoto_ret]
                obtain ⟨hq, hbl', hfin⟩ := Hnb8.out.ret (.slice (some ⟨g, 0, none⟩) (paid tk).qs.length (paid tk).qs.length) (.int .i64 (((paid tk).at_ + 1) % (paid tk).qs.length)) (.bool false)
                have s0 := hfin.cell 0
                have s1 := hfin.cell 1
                have s2 := hfin.cell 2
                simp at s0 s1 s2
                have ht9 : t9 = ⟨tk.qs.set a { q with de := 0, cs := xs }, ((paid tk).at_ + 1) % (paid tk).qs.length, false⟩ := by
                  rw [← Hr1.out, Trn.served, if_pos Hxn.out, on, setQ, Hta.out, ← Hqe.out, Hxn.out]
                  simp [Hpl.out]
                  rfl
                refine bodyPost_ret (v := .tuple #[.agg #[.slice (some ⟨g, 0, none⟩) (paid tk).qs.length (paid tk).qs.length, .int .i64 (((paid tk).at_ + 1) % (paid tk).qs.length), .bool false], .int .i64 q.id, .int .i64 x5, .bool true]) (by simp [results, Try.results13, go_sem, s0, s1, s2]) rfl
                  ⟨⟨_, t9, q.id, x5, true, rfl, ⟨_, _, by rw [ht9], hq, by rw [ht9]; exact Hmap.out _ _⟩, .inr (.inr ⟨HV.out, hw, rfl, F, by rw [HF.out, Hr2.out, Hr3.out]⟩)⟩, hbl'⟩
              · have hxf : ((xs.length : Int) == 0) = false := by simp only [beq_eq_false_iff_ne, ne_eq]; omega
                have hxne : xs ≠ [] := fun e => hx (by rw [e]; rfl)
                go_wp2_with fail
                obtain ⟨hq, hbl', hfin⟩ := Hnb.out.ret (.slice (some ⟨g, 0, none⟩) (paid tk).qs.length (paid tk).qs.length) (.int .i64 (paid tk).at_) (.bool (paid tk).fr)
                have s0 := hfin.cell 0
                have s1 := hfin.cell 1
                have s2 := hfin.cell 2
                simp at s0 s1 s2
                have ht9 : t9 = ⟨tk.qs.set a { q with de := M - x5, cs := xs }, (paid tk).at_, (paid tk).fr⟩ := by
                  rw [← Hr1.out, Trn.served, if_neg hxne, setQ, Hta.out, ← Hqe.out, HM.out]
                  rfl
                refine bodyPost_ret (v := .tuple #[.agg #[.slice (some ⟨g, 0, none⟩) (paid tk).qs.length (paid tk).qs.length, .int .i64 (paid tk).at_, .bool (paid tk).fr], .int .i64 q.id, .int .i64 x5, .bool true]) (by simp [results, Try.results13, go_sem, s0, s1, s2]) rfl
                  ⟨⟨_, t9, q.id, x5, true, rfl, ⟨_, _, by rw [ht9], hq, by rw [ht9]; exact Hmap.out _ _⟩, .inr (.inr ⟨HV.out, hw, rfl, F, by rw [HF.out, Hr2.out, Hr3.out]⟩)⟩, hbl'⟩
    · go_wp2
      rw [Exit.noGoto_ret]
      obtain ⟨l5, hrn, hlq, _⟩ := Hn4.out.rn (by unfold maxLen; have := hval.len; omega)
      obtain ⟨hq, hbl, hfin⟩ := hrn.ret (.slice (some ⟨g, 0, none⟩) t.qs.length t.qs.length) (.int .i64 t.at_) (.bool t.fr)
      have s0 := hfin.cell 0
      have s1 := hfin.cell 1
      have s2 := hfin.cell 2
      simp at s0 s1 s2
      refine bodyPost_ret (v := .tuple #[.agg #[.slice (some ⟨g, 0, none⟩) t.qs.length t.qs.length, .int .i64 t.at_, .bool t.fr], .int .i64 0, .int .i64 0, .bool false]) (by simp [results, Try.results13, go_sem, s0, s1, s2]) rfl
        ⟨⟨_, t, 0, 0, false, rfl, ⟨_, l5, rfl, hq, hlq⟩, .inr (.inl ⟨hval, hw, rfl, rfl, rfl, rfl⟩)⟩, hbl⟩
  · have hbx : ∀ w1, Below w.heap.size w w1 → Calls Try.prog 20 #[.agg #[.slice A t.qs.length c, .int .i64 t.at_, .bool t.fr]] w1 fun e w' => e = .returned (.int .i64 (chk t)) ∧ Below w1.heap.size w1 w' := fun w1 hb =>
      check_any _ t w1 B (by have := hb.size; omega) (Hv.out.below (hb.mono hB))
    have hval : ¬ Valid t := fun h => hck (chk_zero.2 h)
    have hck2 : (chk t != 0) = true := by simp [hck]
    go_enter Try.func13, Try.ntmps13
    go_upto_region 1 with fail
    have hx := (Boxed.start w A t.qs.length c t.at_ t.fr).alloc (.cells #[.slice none 0 0, .int .i64 0, .bool false] 34)
    have hres := Blk.new (w.alloc (.cells #[.slice A t.qs.length c, .int .i64 t.at_, .bool t.fr] 34)) 34 #[.slice none 0 0, .int .i64 0, .bool false]
    rw [World.size_alloc] at hres
    generalize hW0 : World.alloc (World.alloc _ _) _ = W0
    rw [hW0] at hx hres
    clear hW0
    obtain ⟨x0, x1, x2⟩ := hx.cells
    have HR := Lib.hid hres
    have hxb := hx.below
    have HXB := Lib.hid hxb
    clear hx hres hxb
    refine wp_scope_straight ?_
    go_wp2_with (first
      | (go_at_call 20; refine Calls.mono (hbx _ HXB.out) ?_; rintro e w1 ⟨rfl, hb1⟩; have hr1 := HR.out.below hb1 HR.out.lt; have r0 := hr1.cell 0; have r1 := hr1.cell 1; have r2 := hr1.cell 2; simp at r0 r1 r2; have f0 := hr1.frozen 0; have f1 := hr1.frozen 1; have f2 := hr1.frozen 2; have Hr1 := Lib.hid hr1; clear hr1))
    rw [Exit.noGoto_ret]
    have hfin := ((Hr1.out.set_ 0 (.slice none 0 0)).set_ 1 (.int .i64 0)).set_ 2 (.bool false)
    have s0 := hfin.cell 0
    have s1 := hfin.cell 1
    have s2 := hfin.cell 2
    simp at s0 s1 s2
    refine bodyPost_ret (v := .tuple #[.agg #[.slice none 0 0, .int .i64 0, .bool false], .int .i64 0, .int .i64 0, .bool false]) (by simp [results, Try.results13, go_sem, s0, s1, s2]) rfl
      ⟨⟨_, ⟨[], 0, false⟩, 0, 0, false, rfl, ⟨_, [], rfl, TQ.nil _ _, rfl⟩, .inl ⟨hval, rfl, rfl, rfl, rfl⟩⟩, ?_⟩
    have hb := HXB.out.trans (hb1.mono HXB.out.size)
    exact ((hb.setCell (by simp <;> omega) _).setCell (by simp <;> omega) _).setCell (by simp <;> omega) _
end Go.Proofs.Ytgbjhkgbjnobcaa
