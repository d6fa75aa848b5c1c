/- The walk of the law's moved once more: the ids stay within reach. Conditions: the turns are owned. -/
import Derived.Test.YtgbjhkgbjnobcaaMoved
namespace Go.Proofs.Ytgbjhkgbjnobcaa
open Go.RowKit Trn

def IdsQ (l : List QV) : Prop := ∀ p ∈ l, p.1.id ≤ 9223372036854775807
theorem IdsQ.set_ {l : List QV} (h : IdsQ l) {k : Nat} {p : QV} (hp : p.1.id ≤ 9223372036854775807) : IdsQ (l.set k p) := fun q hq => by
  rcases List.mem_or_eq_of_mem_set hq with hq | rfl
  · exact h q hq
  · exact hp
theorem wrap64_le (x : Int) : wrap64 x ≤ 9223372036854775807 := by
  have := IntKind.wrap_i64 x
  unfold wrap64
  omega
set_option maxRecDepth 100000 in
set_option maxHeartbeats 8000000 in
theorem moved_ids (vq : Value) (l : List QV) (tl : List R4) (lo : Nat) (at_ : Int) (fr : Bool) (w : World) (h : TQ w lo vq l tl) (hidq : IdsQ l) :
    Calls Try.prog 14 #[.agg #[vq, .int .i64 at_, .bool fr]] w fun e w' => e = .returned (.agg #[vq, .int .i64 at_, .bool fr]) ∧ ∃ l', MV w lo vq tl l l' w' ∧ IdsQ l' := by
  obtain ⟨A, c, rfl, hlc, hcm⟩ := h.shape
  have hcm2 : c ≤ 9223372036854775807 := by unfold maxLen at hcm; omega
  have H := Lib.hid h
  have Hidq := Lib.hid hidq
  have hx := (Boxed.start w A l.length c at_ fr).alloc (.cells #[.slice none 0 0, .int .i64 0, .bool false] 34)
  have hres := Blk.new (w.alloc (.cells #[.slice A l.length c, .int .i64 at_, .bool fr] 34)) 34 #[.slice none 0 0, .int .i64 0, .bool false]
  rw [World.size_alloc] at hres
  clear h hcm hidq
  go_enter Try.func14, Try.ntmps14
  go_upto_region 1 with fail
  generalize hW1 : World.alloc (World.alloc _ _) _ = W1 at *
  clear hW1
  have hmv := (MV.start H.out).below hx.below
  have HX := Lib.hid hx.box
  have HR := Lib.hid hres
  have HM := Lib.hid hmv
  clear hx hres hmv
  go_wp2
  go_loopg [3] l.length (fun g vi wr => ∃ (k : Nat) (l' : List QV), g + k = l.length ∧ vi = .int .i64 (k : Nat) ∧ MV w lo (.slice A l.length c) tl l l' wr ∧ Blk wr w.heap.size 34 #[.slice A l.length c, .int .i64 at_, .bool fr] ∧ Blk wr (w.heap.size + 1) 34 #[.slice none 0 0, .int .i64 0, .bool false] ∧ IdsQ l')
  case atStart => exact ⟨0, l, by omega, rfl, HM.out, HX.out, HR.out, Hidq.out⟩
  case round =>
    obtain ⟨k, l1, hk, rfl, hm, hxb, hrb, hid1⟩ := hrel
    have Hid1 := Lib.hid hid1
    clear hid1
    have hkn : k ≤ l.length := by omega
    have Hk := Lib.hid hk
    have Hm := Lib.hid hm
    have Hxb := Lib.hid hxb
    have Hrb := Lib.hid hrb
    have x0 := hxb.cell 0
    have x1 := hxb.cell 1
    have x2 := hxb.cell 2
    simp at x0 x1 x2
    by_cases hkl : k < l.length
    · have hki : (k : Int) < l.length := by omega
      have hl1 : l1.length = l.length := hm.same.1
      obtain ⟨p, hp⟩ : ∃ p, l1[k]? = some p := ⟨_, List.getElem?_eq_getElem (by omega)⟩
      obtain ⟨g, c', hA, _, q0, q1, q2, q3, hfz⟩ := hm.tq.at_ hp
      have hA' : A = some ⟨g, 0, none⟩ := by injection hA
      clear hA
      subst hA'
      have z0 := hfz (k * 4)
      have Hp := Lib.hid hp
      clear hk hm hxb hrb hp hl1 q1 q2 q3 hfz
      go_wp2_with fail
      go_still_tail 12, (by kernel_rfl)
      change wpList _ _ _ _ _ wr.drew
      go_upto_region 5 with fail
      have hid4 : IdsQ (l1.set k ({ p.1 with id := wrap64 (p.1.id + 1) }, p.2.1, p.2.2)) := Hid1.out.set_ (wrap64_le _)
      have hm4 := (Hm.out.setId Hp.out rfl (wrap64 (p.1.id + 1))).drew
      have hfg : FQ (.slice (some ⟨g, 0, none⟩) l.length c) l g := .inl rfl
      have hxb4 := Blk.drew (Hm.out.blk hfg (Nat.le_refl _) Hxb.out (k * 4) (.int .i64 (wrap64 (p.1.id + 1))))
      have hrb4 := Blk.drew (Hm.out.blk hfg (Nat.le_succ _) Hrb.out (k * 4) (.int .i64 (wrap64 (p.1.id + 1))))
      generalize hW4 : World.drew (World.setCell wr _ _) = w4 at *
      clear hW4 x0 x1 x2 q0 z0
      have Hid4 := Lib.hid hid4
      have Hm4 := Lib.hid hm4
      clear hid4
      have Hxb4 := Lib.hid hxb4
      have Hrb4 := Lib.hid hrb4
      obtain ⟨p0, hp0⟩ : ∃ p0, l[k]? = some p0 := ⟨_, List.getElem?_eq_getElem hkl⟩
      have Hp0 := Lib.hid hp0
      clear hm4 hxb4 hrb4 hp0 Hm Hxb Hrb
      generalize l1.set k _ = l4 at *
      clear Hp
      obtain ⟨nk, hnk⟩ : ∃ nk, nk = p0.1.cs.length := ⟨_, rfl⟩
      have Hnk := Lib.hid hnk
      clear hnk hfg
      go_wp2
      go_loopg [4] nk (fun g2 vi wx => ∃ (j : Nat) (l2 : List QV), g2 + j = nk ∧ vi = .int .i64 (j : Nat) ∧ MV w lo (.slice (some ⟨g, 0, none⟩) l.length c) tl l l2 wx ∧ Blk wx w.heap.size 34 #[.slice (some ⟨g, 0, none⟩) l.length c, .int .i64 at_, .bool fr] ∧ Blk wx (w.heap.size + 1) 34 #[.slice none 0 0, .int .i64 0, .bool false] ∧ IdsQ l2)
      case atStart => exact ⟨0, l4, by omega, rfl, Hm4.out, Hxb4.out, Hrb4.out, Hid4.out⟩
      case round =>
        obtain ⟨j, l2, hj, rfl, hm, hxb, hrb, hid2⟩ := hrel
        have Hid2 := Lib.hid hid2
        clear hid2
        have hjn : j ≤ nk := by omega
        have Hj := Lib.hid hj
        have Hm := Lib.hid hm
        have Hxb := Lib.hid hxb
        have Hrb := Lib.hid hrb
        have x0 := hxb.cell 0
        simp at x0
        obtain ⟨⟨q2, u2, sp2⟩, hp2⟩ : ∃ p2, l2[k]? = some p2 := ⟨_, List.getElem?_eq_getElem (by rw [hm.same.1]; exact hkl)⟩
        have hn2 : q2.cs.length = nk := by rw [Hnk.out]; exact (hm.same.2 k p0 _ Hp0.out hp2).2.2.1
        obtain ⟨g', c', hA, _, q0, q1, q2', q3, hfz⟩ := hm.tq.at_ hp2
        have hgg : g = g' := by
          injection hA with hA _ _
          injection hA with hA
          injection hA
        subst hgg
        clear hA
        dsimp only at q3
        have hir : IR wr lo u2 q2.cs sp2 := hm.tq.own k _ hp2
        obtain ⟨Aq, cq, hu, hcq, hcqm⟩ := hir.shape
        subst hu
        rw [hn2] at q3 hcq
        have hcq2 : cq ≤ 9223372036854775807 := by unfold maxLen at hcqm; omega
        have Hp2 := Lib.hid hp2
        have Hir := Lib.hid hir
        have Hn2 := Lib.hid hn2
        clear hj hm hxb hrb hp2 hir hn2 q0 q1 q2' hfz hcqm
        by_cases hjl : j < nk
        · have hji : (j : Int) < nk := by omega
          obtain ⟨x, hx⟩ : ∃ x, q2.cs[j]? = some x := ⟨_, List.getElem?_eq_getElem (by rw [Hn2.out]; exact hjl)⟩
          obtain ⟨b, o, c2, hA, _, y0, hfz⟩ := Hir.out.at_ (j := j) (x := x) (by rw [List.getElem?_append_left (List.getElem?_eq_some_iff.1 hx).1]; exact hx)
          have hA' : Aq = some ⟨b, o, none⟩ := by injection hA
          clear hA hx
          subst hA'
          have z0 := hfz (o + j)
          clear hfz
          go_wp2_with fail
          go_still_tail 18, (by kernel_rfl)
          change wpList _ _ _ _ _ wr.drew
          go_upto_region 7 with fail
          have hjs : j < q2.cs.length := by rw [Hn2.out]; exact hjl
          have hm5 := (Hm.out.setInt Hp2.out rfl hjs (wrap64 (x + 1))).drew
          have hfb : FQ (.slice (some ⟨g, 0, none⟩) l.length c) l b := Hm.out.same.fq (.inr ⟨k, _, Hp2.out, rfl⟩)
          have hxb5 := Blk.drew (Hm.out.blk hfb (Nat.le_refl _) Hxb.out (o + j) (.int .i64 (wrap64 (x + 1))))
          have hrb5 := Blk.drew (Hm.out.blk hfb (Nat.le_succ _) Hrb.out (o + j) (.int .i64 (wrap64 (x + 1))))
          have hj := Hj.out
          go_wp2
          go_roundg (gk - 1)
          case measure => omega
          case rel => exact ⟨j + 1, _, by omega, by go_num, hm5, hxb5, hrb5, Hid2.out.set_ (show q2.id ≤ _ from Hid2.out _ (List.mem_of_getElem? Hp2.out))⟩
        · have hji : ¬ (j : Int) < nk := by omega
          have hje : j = nk := by omega
          have Hje := Lib.hid hje
          clear hje hjl hjn Hj
          go_wp2
          have hk := Hk.out
          go_roundg (l.length - (k + 1))
          case measure => omega
          case rel => exact ⟨k + 1, l2, by omega, by go_num, Hm.out, Hxb.out, Hrb.out, Hid2.out⟩
    · have hki : ¬ (k : Int) < l.length := by omega
      have r0 := hrb.cell 0
      have r1 := hrb.cell 1
      have r2 := hrb.cell 2
      simp at r0 r1 r2
      have f0 := hrb.frozen 0
      have f1 := hrb.frozen 1
      have f2 := hrb.frozen 2
      clear hm hxb hrb hk hkl hkn Hk
      go_wp2
      have hfin := ((Hrb.out.set_ 0 (.slice A l.length c)).set_ 1 (.int .i64 at_)).set_ 2 (.bool fr)
      have s0 := hfin.cell 0
      have s1 := hfin.cell 1
      have s2 := hfin.cell 2
      simp at s0 s1 s2
      have hb : Below w.heap.size wr (((wr.setCell ⟨w.heap.size + 1, 0, none⟩ (.slice A l.length c)).setCell ⟨w.heap.size + 1, 1, none⟩ (.int .i64 at_)).setCell ⟨w.heap.size + 1, 2, none⟩ (.bool fr)) := (((Touch.refl (w.heap.size + 1) wr).set_ 0 _).set_ 1 _).set_ 2 _ |>.below (by omega)
      exact bodyPost_ret (v := .agg #[.slice A l.length c, .int .i64 at_, .bool fr]) (by simp [results, Try.results14, go_sem, s0, s1, s2]) rfl ⟨rfl, l1, Hm.out.later hb, Hid1.out⟩
end Go.Proofs.Ytgbjhkgbjnobcaa
