/- The walk of the document's Next: it looks until somebody is served. Conditions: the turns are readable, their lists within reach. -/
import Derived.Test.YtgbjhkgbjnobcaaQApp
import Derived.Test.YtgbjhkgbjnobcaaRefCopied
import Derived.Test.YtgbjhkgbjnobcaaNext
namespace Go.Proofs.Ytgbjhkgbjnobcaa
open Go.RowKit Trn

theorem TQ.ne_blk {w : World} {lo x : Nat} {v : Value} {l : List QV} {tl : List R4} {ty : TypeId} {cs : Array Value} (h : TQ w lo v l tl) (hx : Blk w x ty cs) (h3 : ty ≠ 3) (h51 : ty ≠ 51) : ¬ FQ v l x := by
  rintro (hb | ⟨i, p, hp, hb⟩)
  · rcases h.row with ⟨rfl, _⟩ | ⟨g, c, R, rfl, hg, hq, _⟩
    · cases hb
    · injection hb with hb
      subst hb
      exact Blk.ne hq hx (fun e => h51 e.symm) rfl
  · exact (h.own i p hp).ne_blk hx h3 hb
/-- The document's Copied, as owned queues. -/
theorem refcopied_own (v : Value) (t : Tu) (w : World) (B : Nat) (hB : B ≤ w.heap.size) (hv : TuAt w B v t) (hr : Reach t) (hlen : t.qs.length * 48 ≤ 140737488355328) :
    Calls Try.prog 31 #[v] w fun e w' => (∃ vq l, e = .returned (.agg #[vq, .int .i64 t.at_, .bool t.fr]) ∧ TQ w' w.heap.size vq l [] ∧ l.map (·.1) = t.qs ∧ ∀ p ∈ l, p.2.2 = []) ∧ Below w.heap.size w w' := by
  refine (refcopied_any v t w B hB hv hr hlen).mono ?_
  rintro e w' ⟨v', rfl, ⟨vq, l, rfl, hG, hl⟩, hb⟩
  refine ⟨⟨vq, _, rfl, (TQ.of_grown hG).mono (by omega), by rw [List.map_map]; exact hl, fun p hp => ?_⟩, hb⟩
  obtain ⟨p0, _, rfl⟩ := List.mem_map.1 hp
  rfl
/-- The memory while it looks. -/
structure RN (w : World) (cb : Nat) (vq : Value) (l : List QV) (at_ : Int) (fr : Bool) (wr : World) : Prop where
  below : Below w.heap.size w wr
  res : Blk wr (w.heap.size + 1) 34 #[.slice none 0 0, .int .i64 0, .bool false]
  gc : w.heap.size + 1 < cb
  cblk : Blk wr cb 34 #[vq, .int .i64 at_, .bool fr]
  tq : TQ wr (w.heap.size + 2) vq l []
section
variable {w wr w1 : World} {cb : Nat} {vq : Value} {l : List QV} {at_ : Int} {fr : Bool}
theorem RN.more (h : RN w cb vq l at_ fr wr) (hb : Below wr.heap.size wr w1) : RN w cb vq l at_ fr w1 :=
  ⟨h.below.trans (hb.mono h.below.size), h.res.below hb h.res.lt, h.gc, h.cblk.below hb h.cblk.lt, h.tq.below hb⟩
theorem RN.touch (h : RN w cb vq l at_ fr wr) (ht : Touch cb wr w1) {at' : Int} {fr' : Bool} (hc : Blk w1 cb 34 #[vq, .int .i64 at', .bool fr']) : RN w cb vq l at' fr' w1 := by
  have hgc := h.gc
  exact ⟨h.below.trans (ht.below (by omega)), ht.blk h.res (by omega), h.gc, hc, h.tq.keep fun b hb => ht.block b fun e => h.tq.ne_blk h.cblk (by decide) (by decide) (by rw [← e]; exact hb)⟩
theorem RN.fresh (h : RN w cb vq l at_ fr wr) (b : Bool) : RN w cb vq l at_ b (wr.setCell ⟨cb, 2, none⟩ (.bool b)) :=
  h.touch ((Touch.refl cb wr).set_ 2 _) (by have := h.cblk.set_ 2 (.bool b); simpa using this)
theorem RN.whole (h : RN w cb vq l at_ fr wr) (at' : Int) (fr' : Bool) : RN w cb vq l at' fr' (((wr.setCell ⟨cb, 0, none⟩ vq).setCell ⟨cb, 1, none⟩ (.int .i64 at')).setCell ⟨cb, 2, none⟩ (.bool fr')) :=
  h.touch ((((Touch.refl cb wr).set_ 0 _).set_ 1 _).set_ 2 _) (by have := ((h.cblk.set_ 0 vq).set_ 1 (.int .i64 at')).set_ 2 (.bool fr'); simpa using this)
/-- A block of nobody's is written. -/
theorem RN.free (h : RN w cb vq l at_ fr wr) {x : Nat} (hx : cb < x) (hf : ¬ FQ vq l x) (ht : Touch x wr w1) : RN w cb vq l at_ fr w1 := by
  have hgc := h.gc
  exact ⟨h.below.trans (ht.below (by omega)), ht.blk h.res (by omega), h.gc, ht.blk h.cblk (by omega), h.tq.keep fun b hb => ht.block b fun e => hf (by rw [← e]; exact hb)⟩
theorem RN.drew (h : RN w cb vq l at_ fr wr) : RN w cb vq l at_ fr wr.drew := h.touch (Touch.refl cb wr).drew (Blk.drew h.cblk)
/-- A whole queue is stored. -/
theorem RN.put (h : RN w cb vq l at_ fr wr) {i g n c : Nat} {p : QV} (hp : l[i]? = some p) (hv : vq = .slice (some ⟨g, 0, none⟩) n c) {q : Qu} {u : Value} {sp : List Int} (hi : IR wr (w.heap.size + 2) u q.cs sp) (hb : ∀ b, u.ownBlock = some b → p.2.1.ownBlock = some b) :
    RN w cb vq (l.set i (q, u, sp)) at_ fr ((((wr.setCell ⟨g, i * 4, none⟩ (.int .i64 q.id)).setCell ⟨g, i * 4 + 1, none⟩ (.int .i64 q.qu)).setCell ⟨g, i * 4 + 2, none⟩ (.int .i64 q.de)).setCell ⟨g, i * 4 + 3, none⟩ u) := by
  have hgc := h.gc
  have ht : Touch g wr ((((wr.setCell ⟨g, i * 4, none⟩ (.int .i64 q.id)).setCell ⟨g, i * 4 + 1, none⟩ (.int .i64 q.qu)).setCell ⟨g, i * 4 + 2, none⟩ (.int .i64 q.de)).setCell ⟨g, i * 4 + 3, none⟩ u) := ((((Touch.refl g wr).set_ _ _).set_ _ _).set_ _ _).set_ _ _
  have hfg : FQ vq l g := .inl (by rw [hv]; rfl)
  have hg := (h.tq.lt hfg).1
  exact ⟨h.below.trans (ht.below (by omega)), ht.blk h.res (by omega), h.gc, ht.blk h.cblk (fun e => h.tq.ne_blk h.cblk (by decide) (by decide) (by rw [e]; exact hfg)), h.tq.setAll hp hv hi hb⟩
/-- The answer is written. -/
theorem RN.ret (h : RN w cb vq l at_ fr wr) (u0 u1 u2 : Value) :
    TQ (((wr.setCell ⟨w.heap.size + 1, 0, none⟩ u0).setCell ⟨w.heap.size + 1, 1, none⟩ u1).setCell ⟨w.heap.size + 1, 2, none⟩ u2) w.heap.size vq l [] ∧
    Below w.heap.size w (((wr.setCell ⟨w.heap.size + 1, 0, none⟩ u0).setCell ⟨w.heap.size + 1, 1, none⟩ u1).setCell ⟨w.heap.size + 1, 2, none⟩ u2) ∧
    Blk (((wr.setCell ⟨w.heap.size + 1, 0, none⟩ u0).setCell ⟨w.heap.size + 1, 1, none⟩ u1).setCell ⟨w.heap.size + 1, 2, none⟩ u2) (w.heap.size + 1) 34 #[u0, u1, u2] := by
  have ht : Touch (w.heap.size + 1) wr (((wr.setCell ⟨w.heap.size + 1, 0, none⟩ u0).setCell ⟨w.heap.size + 1, 1, none⟩ u1).setCell ⟨w.heap.size + 1, 2, none⟩ u2) :=
    (((Touch.refl _ _).set_ 0 u0).set_ 1 u1).set_ 2 u2
  refine ⟨(h.tq.keep fun b hb => ht.block b (by have := (h.tq.lt hb).1; omega)).mono (by omega), h.below.trans (ht.below (by omega)), ?_⟩
  have := ((h.res.set_ 0 u0).set_ 1 u1).set_ 2 u2
  simpa using this
end

set_option maxRecDepth 100000 in
set_option maxHeartbeats 8000000 in
theorem refnext_any (v : Value) (t : Tu) (w : World) (B : Nat) (hB : B ≤ w.heap.size) (hv : TuAt w B v t) (hr : Reach t) (hlen : t.qs.length * 48 ≤ 140737488355328) :
    Calls Try.prog 17 #[v] w fun e w' => (∃ v' t' id cost ok, e = .returned (.tuple #[v', .int .i64 id, .int .i64 cost, .bool ok]) ∧ TuOwn w' w.heap.size v' t' ∧ NextIs t t' id cost ok) ∧ Below w.heap.size w w' := by
  have Hv := Lib.hid hv
  obtain ⟨A, c, rfl, hlc, hcm, hq⟩ := hv
  clear hq
  by_cases hck : chk t = 0
  · have hval := chk_zero.1 hck
    have hbx : ∀ w1, Below w.heap.size w w1 → Calls Try.prog 24 #[.agg #[.slice A t.qs.length c, .int .i64 t.at_, .bool t.fr]] w1 fun e w' => e = .returned (.int .i64 0) ∧ Below w1.heap.size w1 w' := fun w1 hb => by
      have := refcheck_any _ t w1 B (by have := hb.size; omega) (Hv.out.below (hb.mono hB))
      rw [hck] at this
      exact this
    have hcp : ∀ w1, Below w.heap.size w w1 → Calls Try.prog 31 #[.agg #[.slice A t.qs.length c, .int .i64 t.at_, .bool t.fr]] w1 fun e w' => (∃ vq l, e = .returned (.agg #[vq, .int .i64 t.at_, .bool t.fr]) ∧ TQ w' w1.heap.size vq l [] ∧ l.map (·.1) = t.qs ∧ ∀ p ∈ l, p.2.2 = []) ∧ Below w1.heap.size w1 w' := fun w1 hb =>
      refcopied_own _ t w1 B (by have := hb.size; omega) (Hv.out.below (hb.mono hB)) hr hlen
    have Hcp := Lib.hid hcp
    have Hbx := Lib.hid hbx
    clear hcp hbx
    obtain ⟨rw_, hrw⟩ : ∃ r : Bool, r = true ↔ waits t.qs := ⟨@decide (waits t.qs) (Classical.propDecidable _), by simp⟩
    have Hrw := Lib.hid hrw
    clear hrw
    go_enter Try.func17, Try.ntmps17
    go_upto_region 1 with fail
    have hx := (Boxed.start w A t.qs.length c t.at_ t.fr).alloc (.cells #[.slice none 0 0, .int .i64 0, .bool false] 34)
    have hres := Blk.new (w.alloc (.cells #[.slice A t.qs.length c, .int .i64 t.at_, .bool t.fr] 34)) 34 #[.slice none 0 0, .int .i64 0, .bool false]
    rw [World.size_alloc] at hres
    generalize hW0 : World.alloc (World.alloc _ _) _ = W0
    rw [hW0] at hx hres
    clear hW0
    obtain ⟨x0, x1, x2⟩ := hx.cells
    have HX := Lib.hid hx
    have HR := Lib.hid hres
    have hxb := hx.below
    have HXB := Lib.hid hxb
    clear hx hres hxb
    go_upto_region 5 with (first
      | (go_at_call 24; refine Calls.mono (Hbx.out _ HXB.out) ?_; rintro e w1 ⟨rfl, hb1⟩; have hx1 := HX.out.more hb1; obtain ⟨y0, y1, y2⟩ := hx1.cells; have hxb1 := hx1.below; have HXB1 := Lib.hid hxb1; have Hb1 := Lib.hid hb1; clear hx1 hxb1 hb1)
      | (go_at_call 31; refine Calls.mono (Hcp.out _ HXB1.out) ?_; rintro e w2 ⟨⟨vq, l, rfl, ho, hl, hsp⟩, hb2⟩; obtain ⟨Av, cv, hvq, _, _⟩ := ho.shape; subst hvq; have Ho := Lib.hid ho; have Hl := Lib.hid hl; have Hsp := Lib.hid hsp; have Hb2 := Lib.hid hb2; clear ho hl hsp hb2))
    have hrn : RN w w2.heap.size (.slice Av l.length cv) l t.at_ t.fr (w2.alloc (.cells #[.slice Av l.length cv, .int .i64 t.at_, .bool t.fr] 34)) := by
      have h1 := HXB1.out.size
      have h2 := Hb2.out.size
      have h3 := HR.out.lt
      have h4 := Hb1.out.size
      have h5 := HXB.out.size
      exact ⟨(HXB1.out.trans (Hb2.out.mono h1)).alloc (by omega) _, ((HR.out.below Hb1.out h3).below Hb2.out (by omega)).alloc _, by omega, Blk.new _ _ _, (Ho.out.mono (by omega)).below ((Below.refl _ _).alloc (Nat.le_refl _) _)⟩
    generalize hW3 : World.alloc w2 _ = W3 at *
    clear hW3 Ho Hb2 HXB HXB1 HX HR Hb1 x0 x1 x2 y0 y1 y2 Hcp Hbx
    generalize w2.heap.size = cb at *
    have hl3 : l.length = t.qs.length := by rw [← Hl.out, List.length_map]
    have hta := hrn.tq.tu (t := t) Hl.out
    have k0 := hrn.cblk.cell 0
    have k1 := hrn.cblk.cell 1
    have k2 := hrn.cblk.cell 2
    simp at k0 k1 k2
    have Hl3 := Lib.hid hl3
    have Hrn := Lib.hid hrn
    have Hta := Lib.hid hta
    clear hrn hl3 hta
    cases rw_ with
    | true =>
      obtain ⟨F, ⟨t9, i9, c9⟩, hF⟩ := served_some hval (Hrw.out.1 rfl)
      have HF := Lib.hid hF
      have hpos : 0 < t.qs.length := by obtain ⟨i, q, hi, _⟩ := Hrw.out.1 rfl; have := (List.getElem?_eq_some_iff.1 hi).1; omega
      have HV := Lib.hid hval
      have hpl : l.length = t.qs.length := Hl3.out
      clear hF hval hck Hv hpl
      go_wp2_with (first | (go_at_call 36; refine Calls.mono (waitsRef_any _ t W3 _ (Nat.le_refl _) Hta.out true Hrw.out) ?_; rintro e w4 ⟨rfl, hb4⟩; have Hb4 := Lib.hid hb4; clear hb4))
      have hrn4 := Hrn.out.more Hb4.out
      have Hrn4 := Lib.hid hrn4
      clear hrn4 k0 k1 k2 Hrn Hta
      obtain ⟨g, hAv⟩ : ∃ g, Av = some ⟨g, 0, none⟩ := by
        have h0 : 0 < l.length := by rw [Hl3.out]; exact hpos
        obtain ⟨g, c', e, _⟩ := Hrn4.out.tq.at_ (i := 0) (List.getElem?_eq_getElem h0)
        injection e with e _ _
        exact ⟨g, e⟩
      subst hAv
      rw [Hl3.out] at Hrn4
      go_loopg [9] F (fun gk _ wr => ∃ (tk : Tu) (l : List QV), Valid tk ∧ tk.qs.length = t.qs.length ∧ go gk tk = some (t9, i9, c9) ∧ l.map (·.1) = tk.qs ∧ (∀ p ∈ l, p.2.2 = []) ∧ RN w cb (.slice (some ⟨g, 0, none⟩) t.qs.length cv) l tk.at_ tk.fr wr)
      case atStart => exact ⟨t, l, HV.out, rfl, HF.out, Hl.out, Hsp.out, Hrn4.out⟩
      case round =>
        obtain ⟨tk, l5, hvk, hlk, hgk, hlq, hspk, hm⟩ := hrel
        have hpk : 0 < tk.qs.length := by omega
        have hl32 := hvk.len
        have hgp := go_pos hgk
        obtain ⟨a0, a1⟩ := at_lt hvk hpk
        obtain ⟨a, ha⟩ : ∃ a : Nat, tk.at_ = (a : Int) := ⟨tk.at_.toNat, by omega⟩
        have hta : tk.at_.toNat = a := by omega
        have hqa := cur_at hvk hpk
        rw [hta] at hqa
        obtain ⟨q, hqe⟩ : ∃ q, q = cur tk := ⟨_, rfl⟩
        rw [← hqe] at hqa
        have hal : a < tk.qs.length := by omega
        have hai : (a : Int) < t.qs.length := by omega
        have hn32 : t.qs.length ≤ 32 := by omega
        have ha1 : tk.at_ < (t.qs.length : Int) := by omega
        have k0 := hm.cblk.cell 0
        have k1 := hm.cblk.cell 1
        have k2 := hm.cblk.cell 2
        simp at k0 k1 k2
        rw [ha] at k1
        obtain ⟨u, hp⟩ : ∃ u, l5[a]? = some (q, u, []) := by
          rw [← hlq, List.getElem?_map] at hqa
          obtain ⟨p, h1, h2⟩ := Option.map_eq_some_iff.1 hqa
          have h3 := hspk p (List.mem_of_getElem? h1)
          obtain ⟨p1, p2, p3⟩ := p
          subst h2
          have h3 : p3 = [] := h3
          rw [h3] at h1
          exact ⟨p2, h1⟩
        obtain ⟨g', c', hvq, _, q0, q1, q2, q3, hfz⟩ := hm.tq.at_ hp
        have hgg : g = g' := by
          injection hvq with hvq _ _
          injection hvq with hvq
          injection hvq
        subst hgg
        clear hvq
        have hir : IR wr (w.heap.size + 2) u q.cs [] := hm.tq.own a _ hp
        dsimp only at q0 q1 q2 q3
        obtain ⟨Aq, cq, hu, hcq, hcqm, hin⟩ := hir.read (Nat.le_refl _)
        subst hu
        have hcbs := hm.cblk.lt
        have hfq : ¬ FQ (.slice (some ⟨g, 0, none⟩) t.qs.length cv) l5 wr.heap.size := fun h => by have := (hm.tq.lt h).2; omega
        have hgs : g < wr.heap.size := (hm.tq.lt (.inl rfl)).2
        have Hm := Lib.hid hm
        have Hgk := Lib.hid hgk
        have Hvk := Lib.hid hvk
        have Hqa := Lib.hid hqa
        have Hta := Lib.hid hta
        have Hqe := Lib.hid hqe
        have Hlk := Lib.hid hlk
        have Hlq := Lib.hid hlq
        have Hsk := Lib.hid hspk
        have Hp := Lib.hid hp
        have Ha := Lib.hid ha
        have Hin := Lib.hid hin
        have Hfq := Lib.hid hfq
        clear hm hgk hvk hqa hta hqe hlk ha hlq hspk hp hin hfq hir
        by_cases hcs : q.cs.length = 0
        · rw [hcs] at q3
          have hnil : q.cs = [] := List.eq_nil_of_length_eq_zero hcs
          have hst : Trn.step tk = .inl (on tk) := by unfold Trn.step; rw [← Hqe.out, hnil]
          have Hst := Lib.hid hst
          clear hst hnil hcs
          go_upto_region 8 with fail
          have hm1 := Hm.out.more ((Below.refl wr.heap.size wr).alloc (Nat.le_refl _) (.cells #[.int .i64 q.id, .int .i64 q.qu, .int .i64 q.de, .slice Aq 0 cq] 51))
          have hq1 := Blk.new wr 51 #[.int .i64 q.id, .int .i64 q.qu, .int .i64 q.de, .slice Aq 0 cq]
          generalize hW5 : World.alloc wr _ = w5 at *
          clear hW5 k0 k1 k2 q0 q1 q2 q3 hfz
          have k0 := hm1.cblk.cell 0
          have k1 := hm1.cblk.cell 1
          have k2 := hm1.cblk.cell 2
          simp at k0 k1 k2
          have q3 := hq1.cell 3
          simp at q3
          have Hm1 := Lib.hid hm1
          clear hm1 hq1
          go_wp2_with (first | (go_at_call 37; refine Calls.mono (onRef_any _ _ _ _ _ _ hpos hn32 a0 ha1) ?_; rintro e w6 ⟨rfl, hb6⟩; have hm6 := Hm1.out.more hb6; have f0 := hm6.cblk.frozen 0; have f1 := hm6.cblk.frozen 1; have f2 := hm6.cblk.frozen 2; have k0 := hm6.cblk.cell 0; have k1 := hm6.cblk.cell 1; have k2 := hm6.cblk.cell 2; simp at k0 k1 k2; have Hm6 := Lib.hid hm6; clear hm6 hb6))
          have hm7 := Hm6.out.whole ((tk.at_ + 1) % (t.qs.length : Int)) false
          go_roundg (gk - 1)
          case measure => omega
          case rel => exact ⟨on tk, l5, (Hvk.out.step_inl hpk Hst.out).1, Hlk.out, go_inl Hgk.out Hst.out, Hlq.out, Hsk.out, by
            have e : (on tk).at_ = (tk.at_ + 1) % (t.qs.length : Int) := by rw [on, Hlk.out]
            rw [e]
            exact hm7⟩
        · obtain ⟨x, xs, hxs⟩ : ∃ x xs, q.cs = x :: xs := by
            cases he : q.cs with
            | nil => rw [he] at hcs; exact absurd rfl hcs
            | cons x xs => exact ⟨x, xs, rfl⟩
          obtain ⟨b, o, x', hA, hbl, hx', x0⟩ := Hin.out.at_ (i := 0) (by omega)
          have hxx : x' = x := by rw [hxs] at hx'; injection hx' with e; exact e.symm
          subst hxx hA
          have hl1 : q.cs.length = xs.length + 1 := by rw [hxs]; rfl
          rw [hl1] at q3
          have hne0 : ((xs.length : Int) + 1 == 0) = false := by simp only [beq_eq_false_iff_ne, ne_eq]; omega
          have Hxs := Lib.hid hxs
          have Hl1 := Lib.hid hl1
          clear hxs hl1 hcs hx' x0
          obtain ⟨fb, hfb⟩ : ∃ fb, fb = tk.fr := ⟨_, rfl⟩
          rw [← hfb] at k2
          have Hfb := Lib.hid hfb
          clear hfb
          go_upto_region 8 with fail
          have hm1 := Hm.out.more ((Below.refl wr.heap.size wr).alloc (Nat.le_refl _) (.cells #[.int .i64 q.id, .int .i64 q.qu, .int .i64 q.de, .slice (some ⟨b, o, none⟩) (xs.length + 1) cq] 51))
          have hq1 := Blk.new wr 51 #[.int .i64 q.id, .int .i64 q.qu, .int .i64 q.de, .slice (some ⟨b, o, none⟩) (xs.length + 1) cq]
          have hs1 : (wr.alloc (.cells #[.int .i64 q.id, .int .i64 q.qu, .int .i64 q.de, .slice (some ⟨b, o, none⟩) (xs.length + 1) cq] 51)).heap.size = wr.heap.size + 1 := by simp
          generalize hW5 : World.alloc wr _ = w5 at *
          clear hW5 k0 k1 k2 q0 q1 q2 q3 hfz
          generalize wr.heap.size = qb at *
          have k0 := hm1.cblk.cell 0
          have k1 := hm1.cblk.cell 1
          have k2 := hm1.cblk.cell 2
          simp at k0 k1 k2
          rw [← Hfb.out] at k2
          have q1 := hq1.cell 1
          have q2 := hq1.cell 2
          have q3 := hq1.cell 3
          simp at q1 q2 q3
          have g2 := hq1.frozen 2
          have f2 := hm1.cblk.frozen 2
          have hqc : ¬ qb = cb := by omega
          have hcq2 : ¬ cb = qb := by omega
          have Hm1 := Lib.hid hm1
          have Hq1 := Lib.hid hq1
          clear hm1 hq1 hbl
          go_upto_if 35 with fail
          clear hne0
          go_cut [34, 35] (fun _ _ wx => RN w cb (.slice (some ⟨g, 0, none⟩) t.qs.length cv) l5 tk.at_ true wx ∧ Blk wx qb 51 #[.int .i64 q.id, .int .i64 q.qu, .int .i64 (money tk), .slice (some ⟨b, o, none⟩) (xs.length + 1) cq])
          case first =>
            cases fb
            · have hdq := (money_in Hvk.out hpk)
              have hmon : money tk = q.de + q.qu := by rw [money, if_neg (by rw [← Hfb.out]; decide), Hqe.out]
              rw [hmon] at hdq
              obtain ⟨d0, d1⟩ := hdq
              have hwr : IntKind.i64.wrap (q.de + q.qu) = q.de + q.qu := by rw [IntKind.wrap_i64]; omega
              have Hmon := Lib.hid hmon
              clear hmon
              go_wp2
              go_meet
              case rel =>
                have h1 := Hm1.out.free (by omega) Hfq.out ((Touch.refl qb w5).set_ 2 (.int .i64 (q.de + q.qu)))
                have h2 := Hq1.out.set_ 2 (.int .i64 (q.de + q.qu))
                refine ⟨h1.fresh true, ?_⟩
                rw [Hmon.out]
                have := h2.far (p := ⟨cb, 2, none⟩) (by simp; omega) (.bool true)
                simpa using this
            · have hmon : money tk = q.de := by rw [money, if_pos Hfb.out.symm, Hqe.out]
              have Hmon := Lib.hid hmon
              clear hmon
              go_wp2
              go_meet
              case rel =>
                rw [Hmon.out]
                have := Hm1.out
                rw [← Hfb.out] at this
                exact ⟨this, Hq1.out⟩
          case rest =>
            obtain ⟨hm2, hq2⟩ := hcut
            clear k0 k1 k2 q1 q2 q3 g2 f2
            obtain ⟨m0, m1⟩ := money_in Hvk.out hpk
            have hxin := cur_cs Hvk.out hpk x' (by rw [← Hqe.out, Hxs.out]; exact List.mem_cons_self)
            obtain ⟨M, hM⟩ : ∃ M, M = money tk := ⟨_, rfl⟩
            rw [← hM] at m0 m1 hq2
            have k0 := hm2.cblk.cell 0
            have k1 := hm2.cblk.cell 1
            have k2 := hm2.cblk.cell 2
            simp at k0 k1 k2
            have q0 := hq2.cell 0
            have q1 := hq2.cell 1
            have q2 := hq2.cell 2
            have q3 := hq2.cell 3
            simp at q0 q1 q2 q3
            obtain ⟨g', c', hvq, _, p0, p1, p2, p3, hfz⟩ := hm2.tq.at_ Hp.out
            have hgg : g = g' := by
              injection hvq with hvq _ _
              injection hvq with hvq
              injection hvq
            subst hgg
            clear hvq
            dsimp only at p0 p1 p2 p3
            have hir : IR wc (w.heap.size + 2) (.slice (some ⟨b, o, none⟩) q.cs.length cq) q.cs [] := hm2.tq.own a _ Hp.out
            obtain ⟨b5, o5, c5, hb5, _, x0, _⟩ := hir.at_ (j := 0) (x := x') (by rw [Hxs.out]; rfl)
            have hbb : (⟨b5, o5, none⟩ : Addr) = ⟨b, o, none⟩ := by
              injection hb5 with hb5 _ _
              injection hb5 with hb5
              exact hb5.symm
            have hb6 : b5 = b := by injection hbb
            have ho6 : o5 = o := by injection hbb
            subst hb6 ho6
            clear hbb hb5
            rw [Nat.add_zero] at x0
            rw [Ha.out] at k1
            have g2 := hq2.frozen 2
            have g3 := hq2.frozen 3
            have hz0 := hfz (a * 4)
            have hz1 := hfz (a * 4 + 1)
            have hz2 := hfz (a * 4 + 2)
            have hz3 := hfz (a * 4 + 3)
            have Hm2 := Lib.hid hm2
            have Hq2 := Lib.hid hq2
            have HM := Lib.hid hM
            have Hir := Lib.hid hir
            clear hm2 hq2 hM hir hfz
            have hp5 := Hp.out
            rw [Hl1.out] at hp5
            have hir5 := Hir.out
            rw [Hl1.out] at hir5
            have hmapset : ∀ (q' : Qu) (u : Value), (l5.set a (q', u, [])).map (·.1) = tk.qs.set a q' := fun q' u => by rw [List.map_set, Hlq.out]
            have hnil : ∀ (q' : Qu) (u : Value), ∀ p ∈ l5.set a (q', u, []), p.2.2 = [] := fun q' u p h => by
              rcases List.mem_or_eq_of_mem_set h with h | rfl
              · exact Hsk.out p h
              · rfl
            have hpq : (paid tk).qs = tk.qs.set a { q with de := M } := by
              show tk.qs.set tk.at_.toNat { cur tk with de := money tk } = _
              rw [Hta.out, ← Hqe.out, ← HM.out]
            have hpl : (paid tk).qs.length = t.qs.length := by rw [hpq, List.length_set, Hlk.out]
            have Hp5 := Lib.hid hp5
            have Hir5 := Lib.hid hir5
            have Hmap := Lib.hid hmapset
            have Hnil := Lib.hid hnil
            have Hpq := Lib.hid hpq
            have Hpl := Lib.hid hpl
            clear hp5 hir5 hmapset hnil hpq hpl
            by_cases hlt : x' > M
            · have hst : Trn.step tk = .inl (on (paid tk)) := by
                unfold Trn.step
                rw [← Hqe.out, Hxs.out]
                simp only
                rw [if_pos (by rw [← HM.out]; exact hlt)]
              have Hst := Lib.hid hst
              clear hst
              go_upto_region 16 with fail
              have hm3 := Hm2.out.put Hp5.out rfl (q := { q with de := M }) Hir5.out (fun _ h => h)
              dsimp only at hm3
              generalize hW6 : World.setCell _ _ _ = w6 at *
              clear hW6 k0 k1 k2 p0 p1 p2 p3 q0 q1 q2 q3 g2 g3 hz0 hz1 hz2 hz3 x0
              have k0 := hm3.cblk.cell 0
              have k1 := hm3.cblk.cell 1
              have k2 := hm3.cblk.cell 2
              simp at k0 k1 k2
              have Hm3 := Lib.hid hm3
              clear hm3
              go_wp2_with (first | (go_at_call 37; refine Calls.mono (onRef_any _ _ _ _ _ _ hpos hn32 a0 ha1) ?_; rintro e w7 ⟨rfl, hb7⟩; have hm7 := Hm3.out.more hb7; have f0 := hm7.cblk.frozen 0; have f1 := hm7.cblk.frozen 1; have f2 := hm7.cblk.frozen 2; have k0 := hm7.cblk.cell 0; have k1 := hm7.cblk.cell 1; have k2 := hm7.cblk.cell 2; simp at k0 k1 k2; have Hm7 := Lib.hid hm7; clear hm7 hb7))
              have hm8 := Hm7.out.whole ((tk.at_ + 1) % (t.qs.length : Int)) false
              go_roundg (gk - 1)
              case measure => omega
              case rel => exact ⟨on (paid tk), _, (Hvk.out.step_inl hpk Hst.out).1, Hpl.out, go_inl Hgk.out Hst.out, (Hmap.out _ _).trans Hpq.out.symm, Hnil.out _ _, by
                have e : (on (paid tk)).at_ = (tk.at_ + 1) % (t.qs.length : Int) := by
                  show (tk.at_ + 1) % ((paid tk).qs.length : Int) = _
                  rw [Hpl.out]
                rw [e]
                exact hm8⟩
            · have hwr2 : IntKind.i64.wrap (M - x') = M - x' := by rw [IntKind.wrap_i64]; omega
              have hst : Trn.step tk = .inr (Trn.served tk x' xs, q.id, x') := by
                unfold Trn.step
                rw [← Hqe.out, Hxs.out]
                simp only
                rw [if_neg (by rw [← HM.out]; exact hlt)]
              have hres := go_inr Hgk.out hst
              injection hres with hr1 hr2
              injection hr2 with hr2 hr3
              have Hr1 := Lib.hid hr1
              have Hr2 := Lib.hid hr2
              have Hr3 := Lib.hid hr3
              clear hst hr1 hr2 hr3
              go_upto_region 19 with fail
              generalize hAv : (if cq = 1 then some (⟨b5, o5, none⟩ : Addr) else some ⟨b5, o5 + 1, none⟩) = Av
              have hcs5 := Hir5.out
              rw [Hxs.out] at hcs5
              have hit := hcs5.tail hAv.symm
              have ht6 : Touch qb wc ((wc.setCell ⟨qb, 2, none⟩ (.int .i64 (M - x'))).setCell ⟨qb, 3, none⟩ (.slice Av xs.length (cq - 1))) := ((Touch.refl _ _).set_ _ _).set_ _ _
              have hm3 := Hm2.out.free hcbs Hfq.out ht6
              have hq3 := (Hq2.out.set_ 2 (.int .i64 (M - x'))).set_ 3 (.slice Av xs.length (cq - 1))
              have hbb : ∀ b, (Value.slice Av xs.length (cq - 1)).ownBlock = some b → b = b5 := fun b hb => by
                rw [← hAv] at hb
                split at hb
                · injection hb with hb; exact hb.symm
                · injection hb with hb; exact hb.symm
              have hit3 := hit.keep fun b hb => ht6.block b (by
                rw [hbb b hb]
                intro e
                exact Hfq.out (.inr ⟨a, _, Hp.out, by rw [← e]; rfl⟩))
              have hbp : ∀ b, (Value.slice Av xs.length (cq - 1)).ownBlock = some b → (Value.slice (some ⟨b5, o5, none⟩) (xs.length + 1) cq).ownBlock = some b := fun b hb => by rw [hbb b hb]; rfl
              generalize hW6 : World.setCell (World.setCell wc _ _) _ _ = w6 at *
              clear hW6 ht6 hit hcs5 k0 k1 k2 p0 p1 p2 p3 q0 q1 q2 q3 g2 g3 hz0 hz1 hz2 hz3 x0 hAv hbb
              simp only [List.setIfInBounds_toArray, List.set_cons_succ, List.set_cons_zero] at hq3
              have k0 := hm3.cblk.cell 0
              have k1 := hm3.cblk.cell 1
              have k2 := hm3.cblk.cell 2
              simp at k0 k1 k2
              rw [Ha.out] at k1
              have q0 := hq3.cell 0
              have q1 := hq3.cell 1
              have q2 := hq3.cell 2
              have q3 := hq3.cell 3
              simp at q0 q1 q2 q3
              have g2 := hq3.frozen 2
              have g3 := hq3.frozen 3
              obtain ⟨g', c', hvq, _, p0, p1, p2, p3, hfz⟩ := hm3.tq.at_ Hp.out
              have hgg : g = g' := by
                injection hvq with hvq _ _
                injection hvq with hvq
                injection hvq
              subst hgg
              clear hvq
              dsimp only at p0 p1 p2 p3
              have hz0 := hfz (a * 4)
              have hz1 := hfz (a * 4 + 1)
              have hz2 := hfz (a * 4 + 2)
              have hz3 := hfz (a * 4 + 3)
              have Hm3 := Lib.hid hm3
              have Hq3 := Lib.hid hq3
              have Hit := Lib.hid hit3
              have Hbp := Lib.hid hbp
              clear hm3 hq3 hit3 hbp hfz
              have hgq : ¬ g = qb := by omega
              have hqg : ¬ qb = g := by omega
              by_cases hx : xs.length = 0
              · have hxn : xs = [] := List.eq_nil_of_length_eq_zero hx
                have Hxn := Lib.hid hxn
                rw [hx] at q3
                clear hxn
                go_upto_region 22 with fail
                have ht7 : Touch qb w6 (w6.setCell ⟨qb, 2, none⟩ (.int .i64 0)) := (Touch.refl _ _).set_ _ _
                have hm6 := Hm3.out.free hcbs Hfq.out ht7
                have hi6 := Hit.out.keep fun b hb => ht7.block b (by
                  have := Hbp.out b hb
                  intro e
                  exact Hfq.out (.inr ⟨a, _, Hp5.out, by rw [← e]; exact this⟩))
                have hm7 := hm6.put Hp5.out rfl (q := { q with de := 0, cs := xs }) hi6 Hbp.out
                have hq7 := ((((Hq3.out.set_ 2 (.int .i64 0)).far (p := ⟨g, a * 4, none⟩) hqg (.int .i64 q.id)).far (p := ⟨g, a * 4 + 1, none⟩) hqg (.int .i64 q.qu)).far (p := ⟨g, a * 4 + 2, none⟩) hqg (.int .i64 0)).far (p := ⟨g, a * 4 + 3, none⟩) hqg (.slice Av 0 (cq - 1))
                dsimp only at hm7
                rw [hx] at hm7
                clear hm6 hi6 ht7
                generalize hW7 : World.setCell (World.setCell (World.setCell (World.setCell (World.setCell w6 _ _) _ _) _ _) _ _) _ _ = w7 at *
                clear hW7 k0 k1 k2 p0 p1 p2 p3 q0 q1 q2 q3 g2 g3 hz0 hz1 hz2 hz3
                have q0 := hq7.cell 0
                have q3 := hq7.cell 3
                simp [hx] at q0 q3
                have k0 := hm7.cblk.cell 0
                have k1 := hm7.cblk.cell 1
                have k2 := hm7.cblk.cell 2
                simp at k0 k1 k2
                have hqb7 := hq7.lt
                have Hm7 := Lib.hid hm7
                have Hq7 := Lib.hid hq7
                clear hm7 hq7
                go_wp2_with (first | (go_at_call 37; refine Calls.mono (onRef_any _ _ _ _ _ _ hpos hn32 a0 ha1) ?_; rintro e w8 ⟨rfl, hb8⟩; have hm8 := Hm7.out.more hb8; have hq8 := Hq7.out.below hb8 hqb7; have f0 := hm8.cblk.frozen 0; have f1 := hm8.cblk.frozen 1; have f2 := hm8.cblk.frozen 2; have k0 := hm8.cblk.cell 0; have k1 := hm8.cblk.cell 1; have k2 := hm8.cblk.cell 2; simp at k0 k1 k2; have Hm8 := Lib.hid hm8; have Hq8 := Lib.hid hq8; clear hm8 hq8 hb8))
                have hm9 := Hm8.out.whole ((tk.at_ + 1) % (t.qs.length : Int)) false
                have hq9 := ((Hq8.out.far (p := ⟨cb, 0, none⟩) hqc (.slice (some ⟨g, 0, none⟩) t.qs.length cv)).far (p := ⟨cb, 1, none⟩) hqc (.int .i64 ((tk.at_ + 1) % (t.qs.length : Int)))).far (p := ⟨cb, 2, none⟩) hqc (.bool false)
                generalize hW9 : World.setCell (World.setCell (World.setCell w8 _ _) _ _) _ _ = w9 at *
                clear hW9 k0 k1 k2 q0 q3
                have q0 := hq9.cell 0
                simp at q0
                have k0 := hm9.cblk.cell 0
                have k1 := hm9.cblk.cell 1
                have k2 := hm9.cblk.cell 2
                simp at k0 k1 k2
                have r0 := hm9.res.cell 0
                have r1 := hm9.res.cell 1
                have r2 := hm9.res.cell 2
                simp at r0 r1 r2
                have e0 := hm9.res.frozen 0
                have e1 := hm9.res.frozen 1
                have e2 := hm9.res.frozen 2
                have hgc9 := hm9.gc
                have Hm9 := Lib.hid hm9
                clear hm9 hq9
                go_region
                go_wp2
                obtain ⟨htq, hbl', hfin⟩ := Hm9.out.ret (.slice (some ⟨g, 0, none⟩) t.qs.length cv) (.int .i64 ((tk.at_ + 1) % (t.qs.length : Int))) (.bool false)
                generalize hWX : World.setCell (World.setCell (World.setCell w9 _ _) _ _) _ _ = wX at *
                clear hWX
                have s0 := hfin.cell 0
                have s1 := hfin.cell 1
                have s2 := hfin.cell 2
                simp at s0 s1 s2
                have ht9 : t9 = ⟨tk.qs.set a { q with de := 0, cs := xs }, (tk.at_ + 1) % (t.qs.length : Int), false⟩ := by
                  rw [← Hr1.out, Trn.served, if_pos Hxn.out, on, setQ, Hta.out, ← Hqe.out, Hxn.out]
                  simp [Hlk.out]
                exact bodyPost_ret (v := .tuple #[.agg #[.slice (some ⟨g, 0, none⟩) t.qs.length cv, .int .i64 ((tk.at_ + 1) % (t.qs.length : Int)), .bool false], .int .i64 q.id, .int .i64 x', .bool true]) (by simp [results, Try.results17, go_sem, s0, s1, s2]) rfl
                  ⟨⟨_, t9, q.id, x', true, rfl, ⟨_, _, by rw [ht9], htq.keep (fun _ _ => rfl), by rw [ht9]; exact Hmap.out _ _⟩, .inr (.inr ⟨HV.out, Hrw.out.1 trivial, rfl, F, by rw [HF.out, Hr2.out, Hr3.out]⟩)⟩, hbl'.drew⟩
              · have hxf : ((xs.length : Int) == 0) = false := by simp only [beq_eq_false_iff_ne, ne_eq]; omega
                have hxne : xs ≠ [] := fun e => hx (by rw [e]; rfl)
                have Hxne := Lib.hid hxne
                clear hxne
                go_upto_region 22 with fail
                have hm7 := Hm3.out.put Hp5.out rfl (q := { q with de := M - x', cs := xs }) Hit.out Hbp.out
                have hq7 := (((Hq3.out.far (p := ⟨g, a * 4, none⟩) hqg (.int .i64 q.id)).far (p := ⟨g, a * 4 + 1, none⟩) hqg (.int .i64 q.qu)).far (p := ⟨g, a * 4 + 2, none⟩) hqg (.int .i64 (M - x'))).far (p := ⟨g, a * 4 + 3, none⟩) hqg (.slice Av xs.length (cq - 1))
                dsimp only at hm7
                generalize hW7 : World.setCell (World.setCell (World.setCell (World.setCell w6 _ _) _ _) _ _) _ _ = w7 at *
                clear hW7 k0 k1 k2 p0 p1 p2 p3 q0 q1 q2 q3 g2 g3 hz0 hz1 hz2 hz3
                have q0 := hq7.cell 0
                have q3 := hq7.cell 3
                simp at q0 q3
                have k0 := hm7.cblk.cell 0
                have k1 := hm7.cblk.cell 1
                have k2 := hm7.cblk.cell 2
                simp at k0 k1 k2
                have r0 := hm7.res.cell 0
                have r1 := hm7.res.cell 1
                have r2 := hm7.res.cell 2
                simp at r0 r1 r2
                have e0 := hm7.res.frozen 0
                have e1 := hm7.res.frozen 1
                have e2 := hm7.res.frozen 2
                have hgc9 := hm7.gc
                have Hm7 := Lib.hid hm7
                clear hm7 hq7
                go_wp2
                go_region
                go_wp2
                obtain ⟨htq, hbl', hfin⟩ := Hm7.out.ret (.slice (some ⟨g, 0, none⟩) t.qs.length cv) (.int .i64 tk.at_) (.bool true)
                generalize hWX : World.setCell (World.setCell (World.setCell w7 _ _) _ _) _ _ = wX at *
                clear hWX
                have s0 := hfin.cell 0
                have s1 := hfin.cell 1
                have s2 := hfin.cell 2
                simp at s0 s1 s2
                have ht9 : t9 = ⟨tk.qs.set a { q with de := M - x', cs := xs }, tk.at_, true⟩ := by
                  rw [← Hr1.out, Trn.served, if_neg Hxne.out, setQ, Hta.out, ← Hqe.out, HM.out]
                exact bodyPost_ret (v := .tuple #[.agg #[.slice (some ⟨g, 0, none⟩) t.qs.length cv, .int .i64 tk.at_, .bool true], .int .i64 q.id, .int .i64 x', .bool true]) (by simp [results, Try.results17, go_sem, s0, s1, s2]) rfl
                  ⟨⟨_, t9, q.id, x', true, rfl, ⟨_, _, by rw [ht9], htq.keep (fun _ _ => rfl), by rw [ht9]; exact Hmap.out _ _⟩, .inr (.inr ⟨HV.out, Hrw.out.1 trivial, rfl, F, by rw [HF.out, Hr2.out, Hr3.out]⟩)⟩, hbl'.drew⟩
    | false =>
      go_wp2_with (first | (go_at_call 36; refine Calls.mono (waitsRef_any _ t W3 _ (Nat.le_refl _) Hta.out false Hrw.out) ?_; rintro e w4 ⟨rfl, hb4⟩; have hn4 := Hrn.out.more hb4; have k0 := hn4.cblk.cell 0; have k1 := hn4.cblk.cell 1; have k2 := hn4.cblk.cell 2; simp at k0 k1 k2; have r0 := hn4.res.cell 0; have r1 := hn4.res.cell 1; have r2 := hn4.res.cell 2; simp at r0 r1 r2; have f0 := hn4.res.frozen 0; have f1 := hn4.res.frozen 1; have f2 := hn4.res.frozen 2; have Hn4 := Lib.hid hn4; clear hn4 hb4))
      obtain ⟨htq, hbl, hfin⟩ := Hn4.out.ret (.slice Av l.length cv) (.int .i64 t.at_) (.bool t.fr)
      have s0 := hfin.cell 0
      have s1 := hfin.cell 1
      have s2 := hfin.cell 2
      simp at s0 s1 s2
      exact bodyPost_ret (v := .tuple #[.agg #[.slice Av l.length cv, .int .i64 t.at_, .bool t.fr], .int .i64 0, .int .i64 0, .bool false]) (by simp [results, Try.results17, go_sem, s0, s1, s2]) rfl
        ⟨⟨_, t, 0, 0, false, rfl, ⟨_, l, rfl, htq, Hl.out⟩, .inr (.inl ⟨hval, (fun h => absurd (Hrw.out.2 h) (by simp)), rfl, rfl, rfl, rfl⟩)⟩, hbl⟩
  · have hbx : ∀ w1, Below w.heap.size w w1 → Calls Try.prog 24 #[.agg #[.slice A t.qs.length c, .int .i64 t.at_, .bool t.fr]] w1 fun e w' => e = .returned (.int .i64 (chk t)) ∧ Below w1.heap.size w1 w' := fun w1 hb =>
      refcheck_any _ t w1 B (by have := hb.size; omega) (Hv.out.below (hb.mono hB))
    have hval : ¬ Valid t := fun h => hck (chk_zero.2 h)
    have hck2 : (chk t != 0) = true := by simp [hck]
    go_enter Try.func17, Try.ntmps17
    go_upto_region 1 with fail
    have hx := (Boxed.start w A t.qs.length c t.at_ t.fr).alloc (.cells #[.slice none 0 0, .int .i64 0, .bool false] 34)
    have hres := Blk.new (w.alloc (.cells #[.slice A t.qs.length c, .int .i64 t.at_, .bool t.fr] 34)) 34 #[.slice none 0 0, .int .i64 0, .bool false]
    rw [World.size_alloc] at hres
    generalize hW0 : World.alloc (World.alloc _ _) _ = W0
    rw [hW0] at hx hres
    clear hW0
    obtain ⟨x0, x1, x2⟩ := hx.cells
    have HR := Lib.hid hres
    have hxb := hx.below
    have HXB := Lib.hid hxb
    clear hx hres hxb
    go_wp2_with (first
      | (go_at_call 24; refine Calls.mono (hbx _ HXB.out) ?_; rintro e w1 ⟨rfl, hb1⟩; have hr1 := HR.out.below hb1 HR.out.lt; have r0 := hr1.cell 0; have r1 := hr1.cell 1; have r2 := hr1.cell 2; simp at r0 r1 r2; have f0 := hr1.frozen 0; have f1 := hr1.frozen 1; have f2 := hr1.frozen 2; have Hr1 := Lib.hid hr1; clear hr1))
    have hfin := ((Hr1.out.set_ 0 (.slice none 0 0)).set_ 1 (.int .i64 0)).set_ 2 (.bool false)
    have s0 := hfin.cell 0
    have s1 := hfin.cell 1
    have s2 := hfin.cell 2
    simp at s0 s1 s2
    refine bodyPost_ret (v := .tuple #[.agg #[.slice none 0 0, .int .i64 0, .bool false], .int .i64 0, .int .i64 0, .bool false]) (by simp [results, Try.results17, go_sem, s0, s1, s2]) rfl
      ⟨⟨_, ⟨[], 0, false⟩, 0, 0, false, rfl, ⟨_, [], rfl, TQ.nil _ _, rfl⟩, .inl ⟨hval, rfl, rfl, rfl, rfl⟩⟩, ?_⟩
    have hb := HXB.out.trans (hb1.mono HXB.out.size)
    exact ((hb.setCell (by simp <;> omega) _).setCell (by simp <;> omega) _).setCell (by simp <;> omega) _
end Go.Proofs.Ytgbjhkgbjnobcaa
