/- The walk of 'sched.Leave'. Conditions: the turns are readable, their lists and numbers within reach. -/
import Derived.Test.YtgbjhkgbjnobcaaDelete
namespace Go.Proofs.Ytgbjhkgbjnobcaa
open Go.RowKit Trn Go.Lib

theorem touch_cells {b : Nat} : ∀ (vs : List Value) (o : Nat) (w w1 : World), Touch b w w1 → Touch b w (w1.setCells b o vs)
  | [], _, _, _, h => h
  | v :: vs, o, w, _, h => touch_cells vs (o + 1) w _ (h.set_ o v)
/-- Delete, of one queue. -/
theorem delete_any (b N i : Nat) (l : List R4) (w : World) (hi : i < N + 1) (hn : N ≤ 31) (hl : l.length = N + 1) (hb : QBlk w b l) (h1c : ∀ v ∈ flat l, v.oneCell' = true) :
    Calls Try.prog 41 #[.slice (some ⟨b, 0, none⟩) (N + 1) (N + 1), .int .i64 i, .int .i64 ((i : Int) + 1)] w fun e w' => e = .returned (.slice (some ⟨b, 0, none⟩) N (N + 1)) ∧ Touch b w w' ∧ QBlk w' b (l.take i ++ l.drop (i + 1) ++ [zrow]) := by
  refine Calls.mono (delete_walk b N i l w hi hn hl hb h1c) ?_
  rintro e w' ⟨rfl, rfl⟩
  refine ⟨rfl, touch_cells _ _ _ _ (touch_cells _ _ _ _ (Touch.refl b w).drew), ?_⟩
  have hsp : l = l.take i ++ (l.drop i).take (N - i) ++ (l.drop i).drop (N - i) := by
    rw [List.append_assoc, List.take_append_drop, List.take_append_drop]
  have h0 : Blk w b 51 (flat (l.take i) ++ flat ((l.drop i).take (N - i)) ++ flat ((l.drop i).drop (N - i))).toArray := by
    have : QBlk w b (l.take i ++ (l.drop i).take (N - i) ++ (l.drop i).drop (N - i)) := by rw [← hsp]; exact hb
    simpa [QBlk, flat_append] using this
  have hlt : (l.take i).length = i := by rw [List.length_take]; omega
  have h1 := Blk.splice (flat (l.drop (i + 1))) (flat (l.take i)) (flat ((l.drop i).take (N - i))) _ _ (by rw [flat_len, flat_len, List.length_take, List.length_drop, List.length_drop]; omega) (Blk.drew h0)
  have e1 : (flat (l.take i)).length = i * 4 := by rw [flat_len, hlt]
  rw [e1, ← flat_append] at h1
  have hlast : ((l.drop i).drop (N - i)).length = 1 := by rw [List.length_drop, List.length_drop]; omega
  have h2 := Blk.splice (flat [zrow]) (flat (l.take i ++ l.drop (i + 1))) (flat ((l.drop i).drop (N - i))) [] _ (by rw [flat_len, hlast]; rfl) (by rw [List.append_nil]; exact h1)
  have e2 : (flat (l.take i ++ l.drop (i + 1))).length = N * 4 := by rw [flat_len, List.length_append, hlt, List.length_drop]; omega
  rw [e2, List.append_nil, ← flat_append] at h2
  exact h2
/-- The turns without a queue. -/
def Trn.left (t : Tu) (a : Nat) : Tu :=
  ⟨t.qs.take a ++ t.qs.drop (a + 1), if (a : Int) < t.at_ then t.at_ - 1 else if (a : Int) = t.at_ ∧ t.at_ = (t.qs.length : Int) - 1 then 0 else t.at_, if (a : Int) = t.at_ then false else t.fr⟩
/-- What Leave answers. -/
def Trn.LeaveIs (t : Tu) (id : Int) (t' : Tu) (e : Int) : Prop :=
  (¬ Valid t ∧ e = chk t ∧ t' = none_) ∨ (Valid t ∧ (∀ (i : Nat) (q : Qu), t.qs[i]? = some q → q.id ≠ id) ∧ e = 190 ∧ t' = none_) ∨
  (Valid t ∧ e = 0 ∧ ∃ a q, t.qs[a]? = some q ∧ q.id = id ∧ t' = left t a)
/-- The memory behind Delete. -/
structure LM (w : World) (g cb : Nat) (l : List (Qu × Value)) (at_ : Int) (fr : Bool) (wr : World) : Prop where
  below : Below w.heap.size w wr
  res : Blk wr (w.heap.size + 1) 34 #[.slice none 0 0, .int .i64 0, .bool false]
  gg : w.heap.size + 1 < g
  gc : w.heap.size + 1 < cb
  cblk : Blk wr cb 34 #[.slice (some ⟨g, 0, none⟩) l.length (l.length + 1), .int .i64 at_, .bool fr]
  blk : QBlk wr g (rows l ++ [zrow])
  own : ∀ (i : Nat) (p : Qu × Value), l[i]? = some p → OwnInts wr (w.heap.size + 2) p.2 p.1.cs
theorem LM.touch {w wr w1 : World} {g cb : Nat} {l : List (Qu × Value)} {at_ at' : Int} {fr fr' : Bool} (h : LM w g cb l at_ fr wr) (ht : Touch cb wr w1) (hc : Blk w1 cb 34 #[.slice (some ⟨g, 0, none⟩) l.length (l.length + 1), .int .i64 at', .bool fr']) : LM w g cb l at' fr' w1 := by
  have hlt := h.gc
  have hne : g ≠ cb := Blk.ne h.blk h.cblk (by decide)
  exact ⟨h.below.trans (ht.below (by omega)), ht.blk h.res (by omega), h.gg, h.gc, hc, ht.blk h.blk hne, fun i p hp => (h.own i p hp).keep fun b hb => ht.block b fun e => (h.own i p hp).ne_blk h.cblk (by decide) (by rw [hb, e])⟩

set_option maxRecDepth 100000 in
set_option maxHeartbeats 4000000 in
theorem leave_any (v : Value) (t : Tu) (id : Int) (w : World) (B : Nat) (hB : B ≤ w.heap.size) (hv : TuAt w B v t) (hr : Reach t) (hids : Ids t) (hid : id ≤ 9223372036854775807) :
    Calls Try.prog 22 #[v, .int .i64 id] w fun e w' => (∃ v' t' n, e = .returned (.tuple #[v', .int .i64 n]) ∧ TuNew w' w.heap.size w'.heap.size v' t' ∧ LeaveIs t id t' n) ∧ Below w.heap.size w w' := by
  have Hv := Lib.hid hv
  obtain ⟨A, c, rfl, hlc, hcm, hq⟩ := hv
  clear hq
  have hbx : ∀ w1, Below w.heap.size w w1 → Calls Try.prog 20 #[.agg #[.slice A t.qs.length c, .int .i64 t.at_, .bool t.fr]] w1 fun e w' => e = .returned (.int .i64 (chk t)) ∧ Below w1.heap.size w1 w' := fun w1 hb =>
    check_any _ t w1 B (by have := hb.size; omega) (Hv.out.below (hb.mono hB))
  by_cases hck : chk t = 0
  · have hval := chk_zero.1 hck
    rw [hck] at hbx
    have hasc := asc_of hval hids
    by_cases hex : ∃ (a : Nat) (q : Qu), t.qs[a]? = some q ∧ q.id = id
    · obtain ⟨a, q, hq, hqi⟩ := hex
      have hid0 : 0 ≤ id := by have := (hasc.lo a q hq).1; omega
      have hal := (List.getElem?_eq_some_iff.1 hq).1
      have h0 : id ≥ 0 := hid0
      have hfd : ∀ w1, Below w.heap.size w w1 → Calls Try.prog 39 #[.agg #[.slice A t.qs.length c, .int .i64 t.at_, .bool t.fr], .int .i64 id] w1 fun e w' => e = .returned (.tuple #[.int .i64 (a : Nat), .bool true]) ∧ Below w1.heap.size w1 w' := fun w1 hb => by
        refine Calls.mono (find_any _ t id w1 B (by have := hb.size; omega) (Hv.out.below (hb.mono hB)) hval.len hasc ⟨hid0, hid⟩) ?_
        rintro e w' ⟨⟨p, b, rfl, hs⟩, hb'⟩
        obtain ⟨rfl, rfl⟩ := spot_yes hs hasc hq hqi
        exact ⟨rfl, hb'⟩
      have hcp : ∀ w1, Below w.heap.size w w1 → Calls Try.prog 32 #[.agg #[.slice A t.qs.length c, .int .i64 t.at_, .bool t.fr]] w1 fun e w' => (∃ g l, e = .returned (.agg #[.slice (some ⟨g, 0, none⟩) t.qs.length t.qs.length, .int .i64 t.at_, .bool t.fr]) ∧ OwnQs w' w1.heap.size g l ∧ l.map (·.1) = t.qs) ∧ Below w1.heap.size w1 w' := fun w1 hb =>
        copied_any _ t w1 B (by have := hb.size; omega) (Hv.out.below (hb.mono hB)) hval.len hr
      have hlen := hval.len
      have hat := hval.at_
      have Hval := Lib.hid hval
      have Hq := Lib.hid hq
      have Hqi := Lib.hid hqi
      clear hval hasc hck hq hqi
      go_enter Try.func22, Try.ntmps22
      go_upto_region 1 with fail
      have hx := (Boxed.start w A t.qs.length c t.at_ t.fr).alloc (.cells #[.slice none 0 0, .int .i64 0, .bool false] 34)
      have hres := Blk.new (w.alloc (.cells #[.slice A t.qs.length c, .int .i64 t.at_, .bool t.fr] 34)) 34 #[.slice none 0 0, .int .i64 0, .bool false]
      rw [World.size_alloc] at hres
      generalize hW0 : World.alloc (World.alloc _ _) _ = W0
      rw [hW0] at hx hres
      clear hW0
      obtain ⟨x0, x1, x2⟩ := hx.cells
      have HX := Lib.hid hx
      have HR := Lib.hid hres
      have HXB := Lib.hid hx.below
      clear hx hres
      go_upto_region 10 with (first
        | (go_at_call 20; refine Calls.mono (hbx _ HXB.out) ?_; rintro e w1 ⟨rfl, hb1⟩; have hx1 := HX.out.more hb1; obtain ⟨y0, y1, y2⟩ := hx1.cells; have hxb1 := hx1.below; have HXB1 := Lib.hid hxb1; have HX1 := Lib.hid hx1; have Hb1 := Lib.hid hb1; have hr0 := HR.out.below hb1 HR.out.lt; have r0 := hr0.cell 0; have r1 := hr0.cell 1; have r2 := hr0.cell 2; simp at r0 r1 r2; have f0 := hr0.frozen 0; have f1 := hr0.frozen 1; have f2 := hr0.frozen 2; clear hx1 hxb1 hb1 hr0)
        | (go_at_call 39; refine Calls.mono (hfd _ HXB1.out) ?_; rintro e w2 ⟨rfl, hb2⟩; have hx2 := HX1.out.more hb2; obtain ⟨z0, z1, z2⟩ := hx2.cells; have hb3 := Hb1.out.trans (hb2.mono Hb1.out.size); have Hb3 := Lib.hid hb3; have HXB2 := Lib.hid hx2.below; clear hb3 hb2 hx2)
        | (go_at_call 32; refine Calls.mono (hcp _ HXB2.out) ?_; rintro e w4 ⟨⟨g, l, rfl, ho, hl⟩, hb4⟩))
      have hnm := NM.start (t := t) HXB.out HR.out Hb3.out hb4 ho hl
      clear hl ho HR HX HXB HXB1 HXB2 HX1 x0 x1 x2 y0 y1 y2 z0 z1 z2 r0 r1 r2 f0 f1 f2 hcp hbx hfd Hb1 Hb3 hb4
      generalize hW5 : World.alloc _ _ = w5
      rw [hW5] at hnm
      clear hW5
      generalize w4.heap.size = cb at *
      obtain ⟨N, hN⟩ : ∃ N, t.qs.length = N + 1 := ⟨t.qs.length - 1, by omega⟩
      obtain ⟨l6, ho6, hl6⟩ := hnm.own
      have hlen6 : l6.length = N + 1 := by rw [← hN, ← hl6, List.length_map]
      have k0 := hnm.cblk.cell 0
      simp at k0
      rw [hN] at k0
      have hne := hnm.ne
      have hgc := hnm.gc
      have hgg := hnm.gg
      have hcb5 := hnm.cblk
      have hres5 := hnm.res
      have hb5 := hnm.below
      have hcl := hcb5.lt
      have hwr : IntKind.i64.wrap ((a : Int) + 1) = (a : Int) + 1 := by rw [IntKind.wrap_i64]; omega
      have hdel := delete_any g N a (rows l6) w5 (by omega) (by omega) (by rw [rows, List.length_map, hlen6]) ho6.blk (rows_one fun p hp => by obtain ⟨i, hi⟩ := List.getElem?_of_mem hp; obtain ⟨A, c, e, _⟩ := (ho6.own i p hi).read (Nat.le_refl _); rw [e]; rfl)
      have Ho6 := Lib.hid ho6
      have Hl6 := Lib.hid hl6
      have Hcb5 := Lib.hid hcb5
      have Hres5 := Lib.hid hres5
      have Hb5 := Lib.hid hb5
      have Hne := Lib.hid hne
      clear hnm ho6 hl6 hcb5 hres5 hb5 hne
      go_upto_region 11 with (go_at_call 41; refine Calls.mono hdel ?_; rintro e w7 ⟨rfl, ht7, hq7⟩; have hc7 := ht7.blk Hcb5.out (fun e => Hne.out e.symm); have m0 := hc7.cell 0; have m1 := hc7.cell 1; have m2 := hc7.cell 2; simp at m0 m1 m2; have mf := hc7.frozen 0; have Ht7 := Lib.hid ht7; have Hq7 := Lib.hid hq7; have Hc7 := Lib.hid hc7; clear ht7 hq7 hc7)
      obtain ⟨l7, hl7⟩ : ∃ l7, l7 = l6.take a ++ l6.drop (a + 1) := ⟨_, rfl⟩
      have hlen7 : l7.length = N := by rw [hl7, List.length_append, List.length_take, List.length_drop]; omega
      have hmap7 : l7.map (·.1) = t.qs.take a ++ t.qs.drop (a + 1) := by rw [hl7, List.map_append, List.map_take, List.map_drop, Hl6.out]
      have hown7 : ∀ (i : Nat) (p : Qu × Value), l7[i]? = some p → OwnInts w7 (w.heap.size + 2) p.2 p.1.cs := fun i p hp => by
        have hm := List.mem_of_getElem? hp
        have h6 : p ∈ l6 := by
          rw [hl7] at hm
          rcases List.mem_append.1 hm with h | h
          · exact List.mem_of_mem_take h
          · exact List.mem_of_mem_drop h
        obtain ⟨j, hj⟩ := List.getElem?_of_mem h6
        have h1 := Ho6.out.own j p hj
        exact h1.keep fun b hb => Ht7.out.block b fun e => h1.ne_q Ho6.out.blk (by rw [hb, e])
      have hLM : LM w g cb l7 t.at_ t.fr (w7.setCell ⟨cb, 0, none⟩ (.slice (some ⟨g, 0, none⟩) N (N + 1))) := by
        have ht8 := (Touch.refl cb w7).set_ 0 (.slice (some ⟨g, 0, none⟩) N (N + 1))
        have hq7 : QBlk w7 g (rows l7 ++ [zrow]) := by
          have := Hq7.out
          rw [hl7]
          simpa [rows] using this
        refine ⟨(Hb5.out.trans (Ht7.out.below (by omega))).trans (ht8.below (by omega)), ht8.blk (Ht7.out.blk Hres5.out (by omega)) (by omega), hgg, hgc, ?_, ht8.blk hq7 Hne.out, fun i p hp => (hown7 i p hp).keep fun b hb => ht8.block b fun e => (hown7 i p hp).ne_blk Hc7.out (by decide) (by rw [hb, e])⟩
        have := Hc7.out.set_ 0 (.slice (some ⟨g, 0, none⟩) N (N + 1))
        rw [hlen7]
        simpa using this
      generalize hW8 : World.setCell w7 _ _ = w8
      rw [hW8] at hLM
      clear hW8 k0 m0 m1 m2 mf Ht7 Hq7 Hc7 Hcb5 Hres5 Hb5 Ho6 Hl6 hown7 hdel hwr hl7
      clear hcl w7 w5
      have Hl7 := Lib.hid hmap7
      rw [← hlen7] at hN
      have k0 := hLM.cblk.cell 0
      have k1 := hLM.cblk.cell 1
      have k2 := hLM.cblk.cell 2
      simp at k0 k1 k2
      have kf1 := hLM.cblk.frozen 1
      have kf2 := hLM.cblk.frozen 2
      have r0 := hLM.res.cell 0
      have r1 := hLM.res.cell 1
      have r2 := hLM.res.cell 2
      simp at r0 r1 r2
      have f0 := hLM.res.frozen 0
      have f1 := hLM.res.frozen 1
      have f2 := hLM.res.frozen 2
      have n1 : ¬ w.heap.size + 1 = cb := by omega
      have n2 : ¬ cb = w.heap.size + 1 := by omega
      have HLM := Lib.hid hLM
      have hlen31 : l7.length ≤ 31 := by omega
      obtain ⟨hat0, hat1, _⟩ := hat
      clear hLM hmap7
      have hlen7' := Lib.hid hlen7
      clear hlen7
      rcases Int.lt_trichotomy (a : Int) t.at_ with hlt | heq | hgt
      · have hw1 : IntKind.i64.wrap (t.at_ - 1) = t.at_ - 1 := by rw [IntKind.wrap_i64]; omega
        go_wp2
        have hLM2 := HLM.out.touch ((Touch.refl cb w8).set_ 1 (.int .i64 (t.at_ - 1))) (at' := t.at_ - 1) (fr' := t.fr) (by have := HLM.out.cblk.set_ 1 (.int .i64 (t.at_ - 1)); simpa using this)
        obtain ⟨hq, hbl', hfin⟩ := out_ret hLM2.below hLM2.res hLM2.gg hLM2.blk hLM2.own (.slice (some ⟨g, 0, none⟩) l7.length (l7.length + 1)) (.int .i64 (t.at_ - 1)) (.bool t.fr)
        have s0 := hfin.cell 0
        have s1 := hfin.cell 1
        have s2 := hfin.cell 2
        simp at s0 s1 s2
        rw [Hl7.out] at hq
        have hlf : left t a = ⟨t.qs.take a ++ t.qs.drop (a + 1), t.at_ - 1, t.fr⟩ := by
          unfold left
          rw [if_pos hlt, if_neg (by omega)]
        have hql : (t.qs.take a ++ t.qs.drop (a + 1)).length = l7.length := by rw [← Hl7.out, List.length_map]
        exact bodyPost_ret (v := .tuple #[.agg #[.slice (some ⟨g, 0, none⟩) l7.length (l7.length + 1), .int .i64 (t.at_ - 1), .bool t.fr], .int .i64 0]) (by simp [results, Try.results22, go_sem, s0, s1, s2]) rfl
          ⟨⟨_, left t a, 0, rfl, ⟨some ⟨g, 0, none⟩, l7.length + 1, by rw [hlf, hql], by rw [hlf, hql]; omega, by unfold maxLen; omega, by rw [hlf]; exact hq.mono (by simp)⟩, .inr (.inr ⟨Hval.out, rfl, a, q, Hq.out, Hqi.out, rfl⟩)⟩, hbl'⟩
      · have hnl : ¬ (a : Int) < t.at_ := by omega
        have heqb : ((a : Int) == t.at_) = true := by simp [heq]
        by_cases hlast : t.at_ = (l7.length : Int)
        · have hlb : (t.at_ == (l7.length : Int)) = true := by simp [hlast]
          have Heq := Lib.hid heq
          have Hlast := Lib.hid hlast
          clear heq hlast
          go_wp2
          have hLM2 := HLM.out.touch (((Touch.refl cb w8).set_ 2 (.bool false)).set_ 1 (.int .i64 0)) (at' := 0) (fr' := false) (by have := (HLM.out.cblk.set_ 2 (.bool false)).set_ 1 (.int .i64 0); simpa using this)
          obtain ⟨hq, hbl', hfin⟩ := out_ret hLM2.below hLM2.res hLM2.gg hLM2.blk hLM2.own (.slice (some ⟨g, 0, none⟩) l7.length (l7.length + 1)) (.int .i64 (0)) (.bool false)
          have s0 := hfin.cell 0
          have s1 := hfin.cell 1
          have s2 := hfin.cell 2
          simp at s0 s1 s2
          rw [Hl7.out] at hq
          have hlf : left t a = ⟨t.qs.take a ++ t.qs.drop (a + 1), 0, false⟩ := by
            unfold left
            have h1 := Heq.out; have h2 := Hlast.out; rw [if_neg (by omega), if_pos (by omega), if_pos h1]
          have hql : (t.qs.take a ++ t.qs.drop (a + 1)).length = l7.length := by rw [← Hl7.out, List.length_map]
          exact bodyPost_ret (v := .tuple #[.agg #[.slice (some ⟨g, 0, none⟩) l7.length (l7.length + 1), .int .i64 (0), .bool false], .int .i64 0]) (by simp [results, Try.results22, go_sem, s0, s1, s2]) rfl
            ⟨⟨_, left t a, 0, rfl, ⟨some ⟨g, 0, none⟩, l7.length + 1, by rw [hlf, hql], by rw [hlf, hql]; omega, by unfold maxLen; omega, by rw [hlf]; exact hq.mono (by simp)⟩, .inr (.inr ⟨Hval.out, rfl, a, q, Hq.out, Hqi.out, rfl⟩)⟩, hbl'⟩
        · have hlb : (t.at_ == (l7.length : Int)) = false := by simp [hlast]
          have Heq := Lib.hid heq
          have Hlast := Lib.hid hlast
          clear heq hlast
          go_wp2
          have hLM2 := HLM.out.touch ((Touch.refl cb w8).set_ 2 (.bool false)) (at' := t.at_) (fr' := false) (by have := HLM.out.cblk.set_ 2 (.bool false); simpa using this)
          obtain ⟨hq, hbl', hfin⟩ := out_ret hLM2.below hLM2.res hLM2.gg hLM2.blk hLM2.own (.slice (some ⟨g, 0, none⟩) l7.length (l7.length + 1)) (.int .i64 (t.at_)) (.bool false)
          have s0 := hfin.cell 0
          have s1 := hfin.cell 1
          have s2 := hfin.cell 2
          simp at s0 s1 s2
          rw [Hl7.out] at hq
          have hlf : left t a = ⟨t.qs.take a ++ t.qs.drop (a + 1), t.at_, false⟩ := by
            unfold left
            have h1 := Heq.out; have h2 := Hlast.out; rw [if_neg (by omega), if_neg (by omega), if_pos h1]
          have hql : (t.qs.take a ++ t.qs.drop (a + 1)).length = l7.length := by rw [← Hl7.out, List.length_map]
          exact bodyPost_ret (v := .tuple #[.agg #[.slice (some ⟨g, 0, none⟩) l7.length (l7.length + 1), .int .i64 (t.at_), .bool false], .int .i64 0]) (by simp [results, Try.results22, go_sem, s0, s1, s2]) rfl
            ⟨⟨_, left t a, 0, rfl, ⟨some ⟨g, 0, none⟩, l7.length + 1, by rw [hlf, hql], by rw [hlf, hql]; omega, by unfold maxLen; omega, by rw [hlf]; exact hq.mono (by simp)⟩, .inr (.inr ⟨Hval.out, rfl, a, q, Hq.out, Hqi.out, rfl⟩)⟩, hbl'⟩
      · have hnl : ¬ (a : Int) < t.at_ := by omega
        have heqb : ((a : Int) == t.at_) = false := by simp; omega
        go_wp2
        have hLM2 := HLM.out.touch (Touch.refl cb w8) (at' := t.at_) (fr' := t.fr) (by have := HLM.out.cblk; simpa using this)
        obtain ⟨hq, hbl', hfin⟩ := out_ret hLM2.below hLM2.res hLM2.gg hLM2.blk hLM2.own (.slice (some ⟨g, 0, none⟩) l7.length (l7.length + 1)) (.int .i64 (t.at_)) (.bool t.fr)
        have s0 := hfin.cell 0
        have s1 := hfin.cell 1
        have s2 := hfin.cell 2
        simp at s0 s1 s2
        rw [Hl7.out] at hq
        have hlf : left t a = ⟨t.qs.take a ++ t.qs.drop (a + 1), t.at_, t.fr⟩ := by
          unfold left
          rw [if_neg (by omega), if_neg (by omega), if_neg (by omega)]
        have hql : (t.qs.take a ++ t.qs.drop (a + 1)).length = l7.length := by rw [← Hl7.out, List.length_map]
        exact bodyPost_ret (v := .tuple #[.agg #[.slice (some ⟨g, 0, none⟩) l7.length (l7.length + 1), .int .i64 (t.at_), .bool t.fr], .int .i64 0]) (by simp [results, Try.results22, go_sem, s0, s1, s2]) rfl
          ⟨⟨_, left t a, 0, rfl, ⟨some ⟨g, 0, none⟩, l7.length + 1, by rw [hlf, hql], by rw [hlf, hql]; omega, by unfold maxLen; omega, by rw [hlf]; exact hq.mono (by simp)⟩, .inr (.inr ⟨Hval.out, rfl, a, q, Hq.out, Hqi.out, rfl⟩)⟩, hbl'⟩
    · have hno : ∀ (i : Nat) (q : Qu), t.qs[i]? = some q → q.id ≠ id := fun i q hq he => hex ⟨i, q, hq, he⟩
      have Hval := Lib.hid hval
      have Hno := Lib.hid hno
      by_cases h0 : id ≥ 0
      · have hfd1 : ∀ w1, Below w.heap.size w w1 → Calls Try.prog 39 #[.agg #[.slice A t.qs.length c, .int .i64 t.at_, .bool t.fr], .int .i64 id] w1 fun e w' => (∃ p : Nat, e = .returned (.tuple #[.int .i64 (p : Nat), .bool false])) ∧ Below w1.heap.size w1 w' := fun w1 hb => by
          refine Calls.mono (find_any _ t id w1 B (by have := hb.size; omega) (Hv.out.below (hb.mono hB)) hval.len hasc ⟨h0, hid⟩) ?_
          rintro e w' ⟨⟨p, b, rfl, hs⟩, hb'⟩
          rw [spot_no hs hno]
          exact ⟨⟨p, rfl⟩, hb'⟩
        clear hval hex hno hasc hck
        go_enter Try.func22, Try.ntmps22
        go_upto_region 1 with fail
        have hx := (Boxed.start w A t.qs.length c t.at_ t.fr).alloc (.cells #[.slice none 0 0, .int .i64 0, .bool false] 34)
        have hres := Blk.new (w.alloc (.cells #[.slice A t.qs.length c, .int .i64 t.at_, .bool t.fr] 34)) 34 #[.slice none 0 0, .int .i64 0, .bool false]
        rw [World.size_alloc] at hres
        generalize hW0 : World.alloc (World.alloc _ _) _ = W0
        rw [hW0] at hx hres
        clear hW0
        obtain ⟨x0, x1, x2⟩ := hx.cells
        have HX := Lib.hid hx
        have HR := Lib.hid hres
        have HXB := Lib.hid hx.below
        clear hx hres
        go_wp2_with (first
          | (go_at_call 20; refine Calls.mono (hbx _ HXB.out) ?_; rintro e w1 ⟨rfl, hb1⟩; have hx1 := HX.out.more hb1; obtain ⟨y0, y1, y2⟩ := hx1.cells; have hxb1 := hx1.below; have HXB1 := Lib.hid hxb1; have HX1 := Lib.hid hx1; have Hb1 := Lib.hid hb1; have hr0 := HR.out.below hb1 HR.out.lt; have r0 := hr0.cell 0; have r1 := hr0.cell 1; have r2 := hr0.cell 2; simp at r0 r1 r2; have f0 := hr0.frozen 0; have f1 := hr0.frozen 1; have f2 := hr0.frozen 2; clear hx1 hxb1 hb1 hr0)
          | (go_at_call 39; refine Calls.mono (hfd1 _ HXB1.out) ?_; rintro e w2 ⟨⟨p, rfl⟩, hb2⟩; have hb3 := Hb1.out.trans (hb2.mono Hb1.out.size); have hr1 := HR.out.below hb3 HR.out.lt; have r0 := hr1.cell 0; have r1 := hr1.cell 1; have r2 := hr1.cell 2; simp at r0 r1 r2; have f0 := hr1.frozen 0; have f1 := hr1.frozen 1; have f2 := hr1.frozen 2; have Hb3 := Lib.hid hb3; clear hr1 hb3 hb2))
        obtain ⟨hfin, hbel⟩ := none_ret HXB.out HR.out Hb3.out
        have s0 := hfin.cell 0
        have s1 := hfin.cell 1
        have s2 := hfin.cell 2
        simp at s0 s1 s2
        exact bodyPost_ret (v := .tuple #[.agg #[.slice none 0 0, .int .i64 0, .bool false], .int .i64 190]) (by simp [results, Try.results22, go_sem, s0, s1, s2]) rfl
          ⟨⟨_, none_, 190, rfl, none_tu _ _ _, .inr (.inl ⟨Hval.out, Hno.out, rfl, rfl⟩)⟩, hbel⟩
      · clear hval hex hno hasc hck
        go_enter Try.func22, Try.ntmps22
        go_upto_region 1 with fail
        have hx := (Boxed.start w A t.qs.length c t.at_ t.fr).alloc (.cells #[.slice none 0 0, .int .i64 0, .bool false] 34)
        have hres := Blk.new (w.alloc (.cells #[.slice A t.qs.length c, .int .i64 t.at_, .bool t.fr] 34)) 34 #[.slice none 0 0, .int .i64 0, .bool false]
        rw [World.size_alloc] at hres
        generalize hW0 : World.alloc (World.alloc _ _) _ = W0
        rw [hW0] at hx hres
        clear hW0
        obtain ⟨x0, x1, x2⟩ := hx.cells
        have HX := Lib.hid hx
        have HR := Lib.hid hres
        have HXB := Lib.hid hx.below
        clear hx hres
        go_wp2_with (first
          | (go_at_call 20; refine Calls.mono (hbx _ HXB.out) ?_; rintro e w1 ⟨rfl, hb1⟩; have hx1 := HX.out.more hb1; obtain ⟨y0, y1, y2⟩ := hx1.cells; have hxb1 := hx1.below; have HXB1 := Lib.hid hxb1; have HX1 := Lib.hid hx1; have Hb1 := Lib.hid hb1; have hr0 := HR.out.below hb1 HR.out.lt; have r0 := hr0.cell 0; have r1 := hr0.cell 1; have r2 := hr0.cell 2; simp at r0 r1 r2; have f0 := hr0.frozen 0; have f1 := hr0.frozen 1; have f2 := hr0.frozen 2; clear hx1 hxb1 hb1 hr0))
        obtain ⟨hfin, hbel⟩ := none_ret HXB.out HR.out Hb1.out
        have s0 := hfin.cell 0
        have s1 := hfin.cell 1
        have s2 := hfin.cell 2
        simp at s0 s1 s2
        exact bodyPost_ret (v := .tuple #[.agg #[.slice none 0 0, .int .i64 0, .bool false], .int .i64 190]) (by simp [results, Try.results22, go_sem, s0, s1, s2]) rfl
          ⟨⟨_, none_, 190, rfl, none_tu _ _ _, .inr (.inl ⟨Hval.out, Hno.out, rfl, rfl⟩)⟩, hbel⟩
  · have hval : ¬ Valid t := fun h => hck (chk_zero.2 h)
    have hck2 : (chk t != 0) = true := by simp [hck]
    go_enter Try.func22, Try.ntmps22
    go_upto_region 1 with fail
    have hx := (Boxed.start w A t.qs.length c t.at_ t.fr).alloc (.cells #[.slice none 0 0, .int .i64 0, .bool false] 34)
    have hres := Blk.new (w.alloc (.cells #[.slice A t.qs.length c, .int .i64 t.at_, .bool t.fr] 34)) 34 #[.slice none 0 0, .int .i64 0, .bool false]
    rw [World.size_alloc] at hres
    generalize hW0 : World.alloc (World.alloc _ _) _ = W0
    rw [hW0] at hx hres
    clear hW0
    obtain ⟨x0, x1, x2⟩ := hx.cells
    have HX := Lib.hid hx
    have HR := Lib.hid hres
    have HXB := Lib.hid hx.below
    clear hx hres
    go_wp2_with (first
      | (go_at_call 20; refine Calls.mono (hbx _ HXB.out) ?_; rintro e w1 ⟨rfl, hb1⟩; have hx1 := HX.out.more hb1; obtain ⟨y0, y1, y2⟩ := hx1.cells; have hxb1 := hx1.below; have HXB1 := Lib.hid hxb1; have HX1 := Lib.hid hx1; have Hb1 := Lib.hid hb1; have hr0 := HR.out.below hb1 HR.out.lt; have r0 := hr0.cell 0; have r1 := hr0.cell 1; have r2 := hr0.cell 2; simp at r0 r1 r2; have f0 := hr0.frozen 0; have f1 := hr0.frozen 1; have f2 := hr0.frozen 2; clear hx1 hxb1 hb1 hr0))
    obtain ⟨hfin, hbel⟩ := none_ret HXB.out HR.out Hb1.out
    have s0 := hfin.cell 0
    have s1 := hfin.cell 1
    have s2 := hfin.cell 2
    simp at s0 s1 s2
    exact bodyPost_ret (v := .tuple #[.agg #[.slice none 0 0, .int .i64 0, .bool false], .int .i64 (chk t)]) (by simp [results, Try.results22, go_sem, s0, s1, s2]) rfl
      ⟨⟨_, none_, (chk t), rfl, none_tu _ _ _, .inl ⟨hval, rfl, rfl⟩⟩, hbel⟩
end Go.Proofs.Ytgbjhkgbjnobcaa
