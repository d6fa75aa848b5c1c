/- The walk of the law's back: the lists as they were. Conditions: the turns are owned, apart from those that are read. -/
import Derived.Test.YtgbjhkgbjnobcaaMoved
namespace Go.Proofs.Ytgbjhkgbjnobcaa
open Go.RowKit Trn

set_option maxRecDepth 100000 in
set_option maxHeartbeats 8000000 in
theorem back_any (vq : Value) (l0 l : List QV) (tl : List R4) (lo : Nat) (at_ : Int) (fr : Bool) (vt : Value) (t : Tu) (B : Nat) (w : World) (h : TQ w lo vq l tl) (hal : Alike l0 l) (hl0 : l0.map (·.1) = t.qs) (hv : TuAt w B vt t) (hB : B ≤ lo) (hB2 : B ≤ w.heap.size) :
    Calls Try.prog 15 #[.agg #[vq, .int .i64 at_, .bool fr], vt] w fun e w' => e = .returned (.tuple #[]) ∧ MV w lo vq tl l l0 w' := by
  obtain ⟨A, c, rfl, hlc, hcm⟩ := h.shape
  obtain ⟨At, ct, rfl, hlt, hct, hqt⟩ := hv
  have hcm2 : c ≤ 9223372036854775807 := by unfold maxLen at hcm; omega
  have hct2 : ct ≤ 9223372036854775807 := by unfold maxLen at hct; omega
  have hl0n : l0.length = t.qs.length := by rw [← hl0, List.length_map]
  have hlt0 : l.length = t.qs.length := by rw [hal.1, hl0n]
  have H := Lib.hid h
  have Hqt := Lib.hid hqt
  have Hal := Lib.hid hal
  have Hl0 := Lib.hid hl0
  have hx := (Boxed.start w A l.length c at_ fr).alloc (.cells #[.slice At t.qs.length ct, .int .i64 t.at_, .bool t.fr] 34)
  have hres := Blk.new (w.alloc (.cells #[.slice A l.length c, .int .i64 at_, .bool fr] 34)) 34 #[.slice At t.qs.length ct, .int .i64 t.at_, .bool t.fr]
  rw [World.size_alloc] at hres
  have Hl0n := Lib.hid hl0n
  have Hlt0 := Lib.hid hlt0
  clear h hcm hct hqt hal hl0 hl0n hlt0
  go_enter Try.func15, Try.ntmps15
  go_upto_region 1 with fail
  generalize hW1 : World.alloc (World.alloc _ _) _ = W1 at *
  clear hW1
  have hmv := (MV.start H.out).below hx.below
  have HX := Lib.hid hx.box
  have HR := Lib.hid hres
  have HM := Lib.hid hmv
  clear hx hres hmv
  go_wp2
  go_loopg [4] t.qs.length (fun g vi wr => ∃ (k : Nat) (l' : List QV), g + k = t.qs.length ∧ vi = .int .i64 (k : Nat) ∧ MV w lo (.slice A l.length c) tl l l' wr ∧ Blk wr w.heap.size 34 #[.slice A l.length c, .int .i64 at_, .bool fr] ∧ Blk wr (w.heap.size + 1) 34 #[.slice At t.qs.length ct, .int .i64 t.at_, .bool t.fr] ∧ ∀ i, i < k → l'[i]? = l0[i]?)
  case atStart => exact ⟨0, l, by omega, rfl, HM.out, HX.out, HR.out, fun i hi => by omega⟩
  case round =>
    obtain ⟨k, l1, hk, rfl, hm, hxb, hrb, hdone⟩ := hrel
    have hkn : k ≤ t.qs.length := by omega
    have Hk := Lib.hid hk
    have Hm := Lib.hid hm
    have Hxb := Lib.hid hxb
    have Hrb := Lib.hid hrb
    have Hdone := Lib.hid hdone
    have x0 := hxb.cell 0
    simp at x0
    have y0 := hrb.cell 0
    simp at y0
    by_cases hkl : k < t.qs.length
    · have hki : (k : Int) < t.qs.length := by omega
      have hkl2 : k < l.length := by rw [Hlt0.out]; exact hkl
      have hkl2i : (k : Int) < l.length := by omega
      have hl1 : l1.length = l.length := hm.same.1
      obtain ⟨p, hp⟩ : ∃ p, l1[k]? = some p := ⟨_, List.getElem?_eq_getElem (by omega)⟩
      obtain ⟨g, c', hA, _, q0, q1, q2, q3, hfz⟩ := hm.tq.at_ hp
      have hA' : A = some ⟨g, 0, none⟩ := by injection hA
      clear hA
      subst hA'
      have z0 := hfz (k * 4)
      have hbt : Below B w wr := Kp.to_below (Below.refl B w) hm.kp hB2 (fun j hj => by have := (H.out.lt hj).1; omega)
      obtain ⟨b, o, q, rfl, hbl, hqk, t0, t1, t2, Aq, cq, t3, hcq, hcqm, hin⟩ := (Hqt.out.below hbt).at_ hkl
      have hcqm2 : cq ≤ 9223372036854775807 := by unfold maxLen at hcqm; omega
      have Hqk := Lib.hid hqk
      have Hp := Lib.hid hp
      clear hk hm hxb hrb hp hl1 hdone q1 q2 q3 hfz hin hbt hqk t1 t2 hcqm
      go_wp2_with fail
      go_still_tail 11, (by kernel_rfl)
      change wpList _ _ _ _ _ wr.drew
      go_upto_region 5 with fail
      have hm4 := (Hm.out.setId Hp.out rfl q.id).drew
      have hfg : FQ (.slice (some ⟨g, 0, none⟩) l.length c) l g := .inl rfl
      have hxb4 := Blk.drew (Hm.out.blk hfg (Nat.le_refl _) Hxb.out (k * 4) (.int .i64 q.id))
      have hrb4 := Blk.drew (Hm.out.blk hfg (Nat.le_succ _) Hrb.out (k * 4) (.int .i64 q.id))
      generalize hW4 : World.drew (World.setCell wr _ _) = w4 at *
      clear hW4 x0 y0 z0 t0 t3 q0
      have Hm4 := Lib.hid hm4
      have Hxb4 := Lib.hid hxb4
      have Hrb4 := Lib.hid hrb4
      obtain ⟨p0, hp0⟩ : ∃ p0, l0[k]? = some p0 := ⟨_, List.getElem?_eq_getElem (by rw [Hl0n.out]; exact hkl)⟩
      have hpq0 : p0.1 = q := by
        have := Hqk.out
        rw [← Hl0.out, List.getElem?_map, hp0] at this
        injection this
      have hkl1 : k < l1.length := (List.getElem?_eq_some_iff.1 Hp.out).1
      have hd4 : ∀ i, i < k → (l1.set k ({ p.1 with id := q.id }, p.2.1, p.2.2))[i]? = l0[i]? := fun i hi => by rw [List.getElem?_set_ne (by omega)]; exact Hdone.out i hi
      have he4 : ∃ p4, (l1.set k ({ p.1 with id := q.id }, p.2.1, p.2.2))[k]? = some p4 ∧ p4.1.id = q.id := ⟨_, List.getElem?_set_self hkl1, rfl⟩
      have Hp0 := Lib.hid hp0
      have Hpq0 := Lib.hid hpq0
      have Hd4 := Lib.hid hd4
      have He4 := Lib.hid he4
      clear hm4 hxb4 hrb4 hp0 hpq0 hd4 he4 hkl1 Hm Hxb Hrb Hdone
      generalize l1.set k _ = l4 at *
      clear Hp
      obtain ⟨nk, hnk⟩ : ∃ nk, nk = q.cs.length := ⟨_, rfl⟩
      rw [← hnk] at hcq
      have Hnk := Lib.hid hnk
      clear hnk hfg
      go_wp2
      go_loopg [5] nk (fun g2 vi wx => ∃ (j : Nat) (l2 : List QV), g2 + j = nk ∧ vi = .int .i64 (j : Nat) ∧ MV w lo (.slice (some ⟨g, 0, none⟩) l.length c) tl l l2 wx ∧ Blk wx w.heap.size 34 #[.slice (some ⟨g, 0, none⟩) l.length c, .int .i64 at_, .bool fr] ∧ Blk wx (w.heap.size + 1) 34 #[.slice (some ⟨b, o, none⟩) t.qs.length ct, .int .i64 t.at_, .bool t.fr] ∧ (∀ i, i < k → l2[i]? = l0[i]?) ∧
        ∃ p2, l2[k]? = some p2 ∧ p2.1.id = q.id ∧ ∀ i, i < j → p2.1.cs[i]? = q.cs[i]?)
      case atStart =>
        obtain ⟨p4, h1, h2⟩ := He4.out
        exact ⟨0, l4, by omega, rfl, Hm4.out, Hxb4.out, Hrb4.out, Hd4.out, p4, h1, h2, fun i hi => by omega⟩
      case round =>
        obtain ⟨j, l2, hj, rfl, hm, hxb, hrb, hd2, ⟨q2, u2, sp2⟩, hp2, hid2, hcs2⟩ := hrel
        have hjn : j ≤ nk := by omega
        have Hj := Lib.hid hj
        have Hm := Lib.hid hm
        have Hxb := Lib.hid hxb
        have Hrb := Lib.hid hrb
        have Hd2 := Lib.hid hd2
        have Hid2 := Lib.hid hid2
        have Hcs2 := Lib.hid hcs2
        have x0 := hxb.cell 0
        simp at x0
        have y0 := hrb.cell 0
        simp at y0
        have hbt : Below B w wr := Kp.to_below (Below.refl B w) hm.kp hB2 (fun j hj => by have := (H.out.lt hj).1; omega)
        obtain ⟨b', o', q', hAt, _, hqk', t0, t1, t2, Aq', cq', t3, hcq', hcqm', hin⟩ := (Hqt.out.below hbt).at_ hkl
        have hbb : b = b' := by injection hAt with hAt; injection hAt
        have hoo : o = o' := by injection hAt with hAt; injection hAt
        have hqq : q = q' := by have := Hqk.out; rw [hqk'] at this; injection this with this; exact this.symm
        subst hbb hoo hqq
        rw [← Hnk.out] at t3 hcq'
        have hcq2' : cq' ≤ 9223372036854775807 := by unfold maxLen at hcqm'; omega
        have hsl : l2.length = l0.length := by rw [hm.same.1, Hal.out.1]
        have hp0l : ∃ pl, l[k]? = some pl := ⟨_, List.getElem?_eq_getElem hkl2⟩
        obtain ⟨pl, hpl⟩ := hp0l
        have hs1 := hm.same.2 k pl _ hpl hp2
        have hs2 := Hal.out.2 k p0 pl Hp0.out hpl
        have hn2 : q2.cs.length = nk := by rw [Hnk.out, ← Hpq0.out, ← hs2.2.2.1]; exact hs1.2.2.1
        have hqu2 : q2.qu = q.qu := by rw [← Hpq0.out, ← hs2.1]; exact hs1.1
        have hde2 : q2.de = q.de := by rw [← Hpq0.out, ← hs2.2.1]; exact hs1.2.1
        have hus2 : (u2, sp2) = p0.2 := by rw [← hs2.2.2.2]; exact hs1.2.2.2
        obtain ⟨g', c', hA, _, q0, q1, q2', q3, hfz⟩ := hm.tq.at_ hp2
        have hgg : g = g' := by
          injection hA with hA _ _
          injection hA with hA
          injection hA
        subst hgg
        clear hA
        dsimp only at q3
        have hir : IR wr lo u2 q2.cs sp2 := hm.tq.own k _ hp2
        have Hus2 := Lib.hid hus2
        clear hus2
        obtain ⟨A2, c2, hu, hcq2, hcqm2⟩ := hir.shape
        subst hu
        rw [hn2] at q3 hcq2
        have hcq3 : c2 ≤ 9223372036854775807 := by unfold maxLen at hcqm2; omega
        have Hp2 := Lib.hid hp2
        have Hir := Lib.hid hir
        have Hn2 := Lib.hid hn2
        have Hqu2 := Lib.hid hqu2
        have Hde2 := Lib.hid hde2
        have Hsl := Lib.hid hsl
        clear hj hm hxb hrb hp2 hir hn2 q0 q1 q2' hfz hcqm2 hd2 hid2 hcs2 hbt hqk' hAt t0 t1 t2 hcqm' hsl hpl hs1 hs2 hqu2 hde2
        by_cases hjl : j < nk
        · have hji : (j : Int) < nk := by omega
          obtain ⟨x, hx⟩ : ∃ x, q2.cs[j]? = some x := ⟨_, List.getElem?_eq_getElem (by rw [Hn2.out]; exact hjl)⟩
          obtain ⟨b2, o2, c3, hA, _, y1, hfz⟩ := Hir.out.at_ (j := j) (x := x) (by rw [List.getElem?_append_left (List.getElem?_eq_some_iff.1 hx).1]; exact hx)
          have hA' : A2 = some ⟨b2, o2, none⟩ := by injection hA
          clear hA hx
          subst hA'
          obtain ⟨b3, o3, y, hAq, _, hy, y2⟩ := hin.at_ (i := j) (by rw [← Hnk.out]; exact hjl)
          subst hAq
          have Hy := Lib.hid hy
          have z0 := hfz (o2 + j)
          clear hfz hy hin
          go_wp2_with fail
          go_still_tail 17, (by kernel_rfl)
          change wpList _ _ _ _ _ wr.drew
          go_upto_region 7 with fail
          have hjs : j < q2.cs.length := by rw [Hn2.out]; exact hjl
          have hm5 := (Hm.out.setInt Hp2.out rfl hjs y).drew
          have hfb : FQ (.slice (some ⟨g, 0, none⟩) l.length c) l b2 := Hm.out.same.fq (.inr ⟨k, _, Hp2.out, rfl⟩)
          have hxb5 := Blk.drew (Hm.out.blk hfb (Nat.le_refl _) Hxb.out (o2 + j) (.int .i64 y))
          have hrb5 := Blk.drew (Hm.out.blk hfb (Nat.le_succ _) Hrb.out (o2 + j) (.int .i64 y))
          have hj := Hj.out
          have hk2 : k < l2.length := (List.getElem?_eq_some_iff.1 Hp2.out).1
          go_wp2
          go_roundg (gk - 1)
          case measure => omega
          case rel => exact ⟨j + 1, _, by omega, by go_num, hm5, hxb5, hrb5, fun i hi => by rw [List.getElem?_set_ne (by omega)]; exact Hd2.out i hi, _, List.getElem?_set_self hk2, Hid2.out, fun i hi => by
            show (q2.cs.set j y)[i]? = _
            by_cases hij : j = i
            · subst hij
              rw [List.getElem?_set_self hjs, Hy.out]
            · rw [List.getElem?_set_ne hij]
              exact Hcs2.out i (by omega)⟩
        · have hji : ¬ (j : Int) < nk := by omega
          have hje : j = nk := by omega
          have Hje := Lib.hid hje
          clear hje hjl hjn Hj hin
          go_wp2
          have hk := Hk.out
          go_roundg (t.qs.length - (k + 1))
          case measure => omega
          case rel => exact ⟨k + 1, l2, by omega, by go_num, Hm.out, Hxb.out, Hrb.out, fun i hi => by
            rcases Nat.lt_or_ge i k with h | h
            · exact Hd2.out i h
            · obtain rfl : i = k := by omega
              rw [Hp2.out, Hp0.out]
              have hc : q2.cs = q.cs := List.ext_getElem? fun i' => by
                rcases Nat.lt_or_ge i' j with h' | h'
                · exact Hcs2.out i' h'
                · rw [Hje.out] at h'
                  rw [List.getElem?_eq_none (by rw [Hn2.out]; exact h'), List.getElem?_eq_none (by rw [← Hnk.out]; exact h')]
              have hq : q2 = q := by
                have e1 := Hid2.out
                have e2 := Hqu2.out
                have e3 := Hde2.out
                cases q2
                cases q
                simp only at e1 e2 e3 hc
                subst e1 e2 e3 hc
                rfl
              rw [Hus2.out, hq, ← Hpq0.out]⟩
    · have hki : ¬ (k : Int) < t.qs.length := by omega
      have hke : k = t.qs.length := by omega
      have Hke := Lib.hid hke
      clear hm hxb hrb hk hkl hkn Hk hke hdone
      go_wp2
      refine bodyPost_end (results_none rfl _ _ _) rfl ⟨rfl, ?_⟩
      have e : l1 = l0 := List.ext_getElem? fun i => by
        rcases Nat.lt_or_ge i t.qs.length with h | h
        · exact Hdone.out i (by rw [Hke.out]; exact h)
        · rw [List.getElem?_eq_none (by rw [Hm.out.same.1, Hlt0.out]; exact h), List.getElem?_eq_none (by rw [Hl0n.out]; exact h)]
      rw [← e]
      exact Hm.out
end Go.Proofs.Ytgbjhkgbjnobcaa
