/- The walks of sched.Enter, sched.Leave, sched.Ask once more: their answers lie in memory of their own. Conditions: the turns are readable, their lists and numbers within reach. -/
import Derived.Test.YtgbjhkgbjnobcaaNextOwn
import Derived.Test.YtgbjhkgbjnobcaaLeave
namespace Go.Proofs.Ytgbjhkgbjnobcaa
open Go.RowKit Trn Go.Lib

/-- No two lists lie in one block. -/
def Apart (l : List (Qu × Value)) : Prop := ∀ (i j : Nat) (p q : Qu × Value), i ≠ j → l[i]? = some p → l[j]? = some q → ∀ b, p.2.ownBlock = some b → q.2.ownBlock ≠ some b
theorem Apart.cut {l : List (Qu × Value)} (h : Apart l) (a : Nat) : Apart (l.take a ++ l.drop (a + 1)) := by
  have hat : ∀ (i : Nat) (p : Qu × Value), (l.take a ++ l.drop (a + 1))[i]? = some p → l[if i < a then i else i + 1]? = some p := fun i p hp => by
    by_cases hi : i < a
    · rw [if_pos hi]
      have hl : i < l.length := by
        have := (List.getElem?_eq_some_iff.1 hp).1
        simp at this
        omega
      rw [List.getElem?_append_left (by simp; omega), List.getElem?_take_of_lt hi] at hp
      exact hp
    · rw [if_neg hi]
      by_cases hla : a ≤ l.length
      · rw [List.getElem?_append_right (by simp; omega), List.getElem?_drop] at hp
        rw [← hp]
        congr 1
        simp
        omega
      · have := (List.getElem?_eq_some_iff.1 hp).1
        simp at this
        omega
  intro i j p q hij hp hq b hb
  refine h _ _ p q (fun e => hij ?_) (hat i p hp) (hat j q hq) b hb
  split at e <;> split at e <;> omega
theorem Apart.ins {l : List (Qu × Value)} (h : Apart l) (a : Nat) (q0 : Qu) : Apart (l.take a ++ (q0, .slice none 0 0) :: l.drop a) := by
  have hat : ∀ (i : Nat) (p : Qu × Value), (l.take a ++ (q0, .slice none 0 0) :: l.drop a)[i]? = some p → p = (q0, .slice none 0 0) ∨ (i ≠ min a l.length ∧ l[if i < min a l.length then i else i - 1]? = some p) := fun i p hp => by
    by_cases hi : i < min a l.length
    · right
      rw [if_pos hi]
      rw [List.getElem?_append_left (by simp; omega), List.getElem?_take_of_lt (by omega)] at hp
      exact ⟨by omega, hp⟩
    · rw [List.getElem?_append_right (by simp; omega), List.length_take] at hp
      rcases Nat.eq_or_lt_of_le (Nat.le_of_not_lt hi) with e | e
      · left
        rw [← e, Nat.sub_self, List.getElem?_cons_zero] at hp
        injection hp with hp
        exact hp.symm
      · right
        rw [if_neg hi]
        refine ⟨by omega, ?_⟩
        have e2 : i - min a l.length = (i - min a l.length - 1) + 1 := by omega
        rw [e2, List.getElem?_cons_succ, List.getElem?_drop] at hp
        have hl := (List.getElem?_eq_some_iff.1 hp).1
        rw [← hp]
        congr 1
        omega
  intro i j p q hij hp hq b hb hb2
  rcases hat i p hp with rfl | ⟨hi, hp⟩
  · cases hb
  · rcases hat j q hq with rfl | ⟨hj, hq⟩
    · cases hb2
    · refine h _ _ p q (fun e => hij ?_) hp hq b hb hb2
      split at e <;> split at e <;> omega
/-- The answer is written; it is owned. -/
theorem out_own {w wr : World} {g : Nat} {l : List (Qu × Value)} {zs : List R4} {r0 r1 r2 : Value} (hbel : Below w.heap.size w wr) (hres : Blk wr (w.heap.size + 1) 34 #[r0, r1, r2]) (hgg : w.heap.size + 1 < g) (hq : QBlk wr g (rows l ++ zs))
    (ho : ∀ (i : Nat) (p : Qu × Value), l[i]? = some p → OwnInts wr (w.heap.size + 2) p.2 p.1.cs) (hap : Apart l) (n c : Nat) (hn : n = l.length) (hc : n + zs.length = c) (hcm : c ≤ maxLen) (u0 u1 u2 : Value) :
    TQ (((wr.setCell ⟨w.heap.size + 1, 0, none⟩ u0).setCell ⟨w.heap.size + 1, 1, none⟩ u1).setCell ⟨w.heap.size + 1, 2, none⟩ u2) w.heap.size (.slice (some ⟨g, 0, none⟩) n c) (l.map fun p => (p.1, p.2, [])) [] ∧
    Below w.heap.size w (((wr.setCell ⟨w.heap.size + 1, 0, none⟩ u0).setCell ⟨w.heap.size + 1, 1, none⟩ u1).setCell ⟨w.heap.size + 1, 2, none⟩ u2) ∧
    Blk (((wr.setCell ⟨w.heap.size + 1, 0, none⟩ u0).setCell ⟨w.heap.size + 1, 1, none⟩ u1).setCell ⟨w.heap.size + 1, 2, none⟩ u2) (w.heap.size + 1) 34 #[u0, u1, u2] := by
  subst hn
  have ht : Touch (w.heap.size + 1) wr (((wr.setCell ⟨w.heap.size + 1, 0, none⟩ u0).setCell ⟨w.heap.size + 1, 1, none⟩ u1).setCell ⟨w.heap.size + 1, 2, none⟩ u2) :=
    (((Touch.refl _ _).set_ 0 u0).set_ 1 u1).set_ 2 u2
  have hold : ∀ (i : Nat) (p : QV), (l.map fun p => ((p.1, p.2, []) : QV))[i]? = some p → ∃ p0, l[i]? = some p0 ∧ p = (p0.1, p0.2, []) := fun i p hp => by
    rw [List.getElem?_map] at hp
    obtain ⟨p0, h1, h2⟩ := Option.map_eq_some_iff.1 hp
    exact ⟨p0, h1, h2.symm⟩
  refine ⟨⟨.inr ⟨g, c, rows l ++ zs, by rw [List.length_map], by omega, ht.blk hq (by omega), by simp [rows]; omega, by simp; omega, hcm, fun i r hr => ?_⟩, fun i p hp => ?_, fun i j p q hij hp hq => ?_⟩, hbel.trans (ht.below (by omega)), ?_⟩
  · rw [List.append_nil, List.map_map] at hr
    have hi := (List.getElem?_eq_some_iff.1 hr).1
    rw [List.getElem?_append_left (by simpa [rows] using hi)]
    exact hr
  · obtain ⟨p0, h1, rfl⟩ := hold i p hp
    exact (IR.of_own ((ho i p0 h1).keep fun b hb => ht.block b (by have := ((ho i p0 h1).lt hb).1; omega))).mono (by omega)
  · obtain ⟨p0, h1, rfl⟩ := hold i p hp
    obtain ⟨q0, h2, rfl⟩ := hold j q hq
    exact hap i j p0 q0 hij h1 h2
  · have := ((hres.set_ 0 u0).set_ 1 u1).set_ 2 u2
    simpa using this
theorem none_own (w : World) (lo : Nat) : TuOwn w lo (.agg #[.slice none 0 0, .int .i64 0, .bool false]) none_ := ⟨_, [], rfl, TQ.nil _ _, rfl⟩
theorem map_own (l : List (Qu × Value)) : (l.map fun p => ((p.1, p.2, []) : QV)).map (·.1) = l.map (·.1) := by rw [List.map_map]; rfl
/-- What Ask answers, once more. -/
def Trn.AskOn (t : Tu) (id cost : Int) (t' : Tu) (e : Int) : Prop :=
  (¬ Valid t ∧ e = chk t ∧ t' = none_) ∨ (Valid t ∧ (∀ (i : Nat) (q : Qu), t.qs[i]? = some q → q.id ≠ id) ∧ e = 190 ∧ t' = none_) ∨
  (Valid t ∧ (∃ (a : Nat) (q : Qu), t.qs[a]? = some q ∧ q.id = id) ∧ ¬ (1 ≤ cost ∧ cost ≤ 1048576) ∧ e = 191 ∧ t' = none_) ∨
  (Valid t ∧ (1 ≤ cost ∧ cost ≤ 1048576) ∧ e = 0 ∧ ∃ a q, t.qs[a]? = some q ∧ q.id = id ∧ t' = asked t a q cost)

set_option maxRecDepth 100000 in
set_option maxHeartbeats 4000000 in
theorem ask_own (v : Value) (t : Tu) (id cost : Int) (w : World) (B : Nat) (hB : B ≤ w.heap.size) (hv : TuAt w B v t) (hr : Reach t) (hids : Ids t) (hid : id ≤ 9223372036854775807) :
    Calls Try.prog 23 #[v, .int .i64 id, .int .i64 cost] w fun e w' => (∃ v' t' n, e = .returned (.tuple #[v', .int .i64 n]) ∧ TuOwn w' w.heap.size v' t' ∧ AskOn t id cost t' n) ∧ Below w.heap.size w w' := by
  have Hv := Lib.hid hv
  obtain ⟨A, c, rfl, hlc, hcm, hq⟩ := hv
  clear hq
  have hbx : ∀ w1, Below w.heap.size w w1 → Calls Try.prog 20 #[.agg #[.slice A t.qs.length c, .int .i64 t.at_, .bool t.fr]] w1 fun e w' => e = .returned (.int .i64 (chk t)) ∧ Below w1.heap.size w1 w' := fun w1 hb =>
    check_any _ t w1 B (by have := hb.size; omega) (Hv.out.below (hb.mono hB))
  by_cases hck : chk t = 0
  · have hval := chk_zero.1 hck
    rw [hck] at hbx
    have hasc := asc_of hval hids
    by_cases hex : ∃ (a : Nat) (q : Qu), t.qs[a]? = some q ∧ q.id = id
    · obtain ⟨a, q, hq, hqi⟩ := hex
      have hid0 : 0 ≤ id := by have := (hasc.lo a q hq).1; omega
      have hal := (List.getElem?_eq_some_iff.1 hq).1
      have h0 : id ≥ 0 := hid0
      have hfd : ∀ w1, Below w.heap.size w w1 → Calls Try.prog 39 #[.agg #[.slice A t.qs.length c, .int .i64 t.at_, .bool t.fr], .int .i64 id] w1 fun e w' => e = .returned (.tuple #[.int .i64 (a : Nat), .bool true]) ∧ Below w1.heap.size w1 w' := fun w1 hb => by
        refine Calls.mono (find_any _ t id w1 B (by have := hb.size; omega) (Hv.out.below (hb.mono hB)) hval.len hasc ⟨hid0, hid⟩) ?_
        rintro e w' ⟨⟨p, b, rfl, hs⟩, hb'⟩
        obtain ⟨rfl, rfl⟩ := spot_yes hs hasc hq hqi
        exact ⟨rfl, hb'⟩
      have hcp : ∀ w1, Below w.heap.size w w1 → Calls Try.prog 32 #[.agg #[.slice A t.qs.length c, .int .i64 t.at_, .bool t.fr]] w1 fun e w' => (∃ g l, e = .returned (.agg #[.slice (some ⟨g, 0, none⟩) t.qs.length t.qs.length, .int .i64 t.at_, .bool t.fr]) ∧ OwnQs w' w1.heap.size g l ∧ l.map (·.1) = t.qs) ∧ Below w1.heap.size w1 w' := fun w1 hb =>
        copied_any _ t w1 B (by have := hb.size; omega) (Hv.out.below (hb.mono hB)) hval.len hr
      have hreach := hr q (List.mem_of_getElem? hq)
      have hwt := fun u => within_any cost 1 1048576 u
      have hlen := hval.len
      have Hval := Lib.hid hval
      have Hq := Lib.hid hq
      have Hqi := Lib.hid hqi
      clear hval hasc hck hq hqi
      by_cases hc : 1 ≤ cost ∧ cost ≤ 1048576
      · simp only [inB_yes hc] at hwt
        have Hc := Lib.hid hc
        clear hc
        go_enter Try.func23, Try.ntmps23
        go_upto_region 1 with fail
        have hx := (Boxed.start w A t.qs.length c t.at_ t.fr).alloc (.cells #[.slice none 0 0, .int .i64 0, .bool false] 34)
        have hres := Blk.new (w.alloc (.cells #[.slice A t.qs.length c, .int .i64 t.at_, .bool t.fr] 34)) 34 #[.slice none 0 0, .int .i64 0, .bool false]
        rw [World.size_alloc] at hres
        generalize hW0 : World.alloc (World.alloc _ _) _ = W0
        rw [hW0] at hx hres
        clear hW0
        obtain ⟨x0, x1, x2⟩ := hx.cells
        have HX := Lib.hid hx
        have HR := Lib.hid hres
        have HXB := Lib.hid hx.below
        clear hx hres
        go_wp2_with (first
          | (go_at_call 20; refine Calls.mono (hbx _ HXB.out) ?_; rintro e w1 ⟨rfl, hb1⟩; have hx1 := HX.out.more hb1; obtain ⟨y0, y1, y2⟩ := hx1.cells; have HXB1 := Lib.hid hx1.below; have HX1 := Lib.hid hx1; have Hb1 := Lib.hid hb1; clear hx1 hb1)
          | (go_at_call 39; refine Calls.mono (hfd _ HXB1.out) ?_; rintro e w2 ⟨rfl, hb2⟩; have hb3 := Hb1.out.trans (hb2.mono Hb1.out.size); have hx2 := HX1.out.more hb2; obtain ⟨v0, v1, v2⟩ := hx2.cells; have HXB2 := Lib.hid hx2.below; have Hb3 := Lib.hid hb3; clear hb3 hb2 hx2)
          | (go_at_call 38; refine Calls.mono (hwt _) ?_; rintro e w3 ⟨rfl, rfl⟩)
          | (go_at_call 32; refine Calls.mono (hcp _ HXB2.out) ?_; rintro e w4 ⟨⟨g, l, rfl, ho, hl⟩, hb4⟩))
        have hnm := NM.start (t := t) HXB.out HR.out Hb3.out hb4 ho hl
        clear hl ho HR HX HXB HXB1 HXB2 HX1 x0 x1 x2 y0 y1 y2 v0 v1 v2 hcp hbx hfd hwt Hb1 Hb3 hb4
        generalize hW5 : World.alloc _ _ = w5
        rw [hW5] at hnm
        clear hW5
        generalize w4.heap.size = cb at *
        obtain ⟨i0, hi, hz0, hz1, hz2⟩ := info_parts info3
        obtain ⟨v, hown, hvc, hvg, hvcb, hgr⟩ := hnm.grow Hq.out
        obtain ⟨Av, nv, cv, hvs⟩ := hown.shape
        have hnv : nv = q.cs.length := by
          obtain ⟨_, _, e, _⟩ := hown.read (Nat.le_refl _)
          rw [hvs] at e
          injection e
        subst hnv
        rw [hvs] at hvc
        have k0 := hnm.cblk.cell 0
        simp at k0
        have g3 := hnm.row_free (a * 4 + 3)
        have hgc1 : ¬ g = cb := hnm.ne
        have hgc2 : ¬ cb = g := fun e => hnm.ne e.symm
        have hcl : cb < w5.heap.size := hnm.cblk.lt
        have hgl : g < w5.heap.size := by obtain ⟨l', ho', _⟩ := hnm.own; exact Blk.lt ho'.blk
        have hai : (a : Int) < t.qs.length := by omega
        have hkeep : ∀ u, Below w5.heap.size w5 u → OwnInts u (w.heap.size + 2) v q.cs := fun u hu => hown.below hu (Nat.le_refl _)
        have hw5 : w.heap.size + 2 ≤ w5.heap.size := by have := hnm.gc; omega
        have Hnm := Lib.hid hnm
        have Hgr := Lib.hid hgr
        have Hvg := Lib.hid hvg
        have Hvcb := Lib.hid hvcb
        have Hvs := Lib.hid hvs
        clear hnm hgr hvg hvcb hown hvs
        go_cut [] (fun wx => NM w g cb (asked t a q cost) wx)
        case first =>
          go_region_law
            (first | (refine step_append_lies _ (by rfl) _ _ _ (by rfl) (w.heap.size + 2) 3 i0 (.int .i64 0) 1 8 Try.underlying30 hi hz0 hz1 hz2 rfl (by decide) v q.cs.length (q.cs.map (Value.int .i64)) (by rw [Hvs.out]; rfl) (hkeep _ (((Below.refl _ _).drew).alloc (Nat.le_refl _) _)) ⟨w5.heap.size, 0, none⟩ 1 1 [.int .i64 cost] (by rfl) (by rfl) (World.news_of_block (heap_alloc_new _ _)) (by simp [Value.oneCell']) (by decide) (by unfold maxLen; omega) (by omega) (by simp; omega) _ rfl ?_; intro g' cap w1 hown1 hgrow hat hlt1; have e1 := hgrow.cell_far ⟨cb, 0, none⟩ (by simp; omega) (fun e => Hvcb.out e.symm); have e2 := hgrow.cell_far ⟨g, a * 4 + 3, none⟩ (by simp; omega) (fun e => Hvg.out e.symm); have e3 := hgrow.frozen_far ⟨g, a * 4 + 3, none⟩ (by simp; omega) (fun e => Hvg.out e.symm); have hown1 := Lib.hid hown1; have hgrow := Lib.hid hgrow; have hat := Lib.hid hat))
          all_goals (go_wp2; go_meet; (case rel => exact Hgr.out _ _ cost g' cap ((((Below.refl w5.heap.size w5).alloc (Nat.le_refl _) _)).drew) hgrow.out (by have := hown1.out; simpa [OwnInts] using this) hat.out))
        case rest =>
          clear hvc k0 g3 hkeep
          have k0 := hcut.cblk.cell 0
          have k1 := hcut.cblk.cell 1
          have k2 := hcut.cblk.cell 2
          simp at k0 k1 k2
          have r0 := hcut.res.cell 0
          have r1 := hcut.res.cell 1
          have r2 := hcut.res.cell 2
          simp at r0 r1 r2
          have f0 := hcut.res.frozen 0
          have f1 := hcut.res.frozen 1
          have f2 := hcut.res.frozen 2
          have Hcut := Lib.hid hcut
          clear hcut
          go_wp2
          obtain ⟨l5, hrn, hlq, _⟩ := Hcut.out.rn (by simp only [asked, List.length_set]; unfold maxLen; omega)
          obtain ⟨hq, hbl', hfin⟩ := hrn.ret (.slice (some ⟨g, 0, none⟩) (asked t a q cost).qs.length (asked t a q cost).qs.length) (.int .i64 (asked t a q cost).at_) (.bool (asked t a q cost).fr)
          have s0 := hfin.cell 0
          have s1 := hfin.cell 1
          have s2 := hfin.cell 2
          simp at s0 s1 s2
          have hl9 : (asked t a q cost).qs.length = t.qs.length := by simp [asked]
          exact bodyPost_ret (v := .tuple #[.agg #[.slice (some ⟨g, 0, none⟩) (asked t a q cost).qs.length (asked t a q cost).qs.length, .int .i64 (asked t a q cost).at_, .bool (asked t a q cost).fr], .int .i64 0]) (by simp [results, Try.results23, go_sem, s0, s1, s2]) rfl
            ⟨⟨_, asked t a q cost, 0, rfl, ⟨_, l5, rfl, hq, hlq⟩, .inr (.inr (.inr ⟨Hval.out, Hc.out, rfl, a, q, Hq.out, Hqi.out, rfl⟩))⟩, hbl'⟩
      · simp only [inB_no hc] at hwt
        have Hc := Lib.hid hc
        clear hc hcp
        go_enter Try.func23, Try.ntmps23
        go_upto_region 1 with fail
        have hx := (Boxed.start w A t.qs.length c t.at_ t.fr).alloc (.cells #[.slice none 0 0, .int .i64 0, .bool false] 34)
        have hres := Blk.new (w.alloc (.cells #[.slice A t.qs.length c, .int .i64 t.at_, .bool t.fr] 34)) 34 #[.slice none 0 0, .int .i64 0, .bool false]
        rw [World.size_alloc] at hres
        generalize hW0 : World.alloc (World.alloc _ _) _ = W0
        rw [hW0] at hx hres
        clear hW0
        obtain ⟨x0, x1, x2⟩ := hx.cells
        have HX := Lib.hid hx
        have HR := Lib.hid hres
        have HXB := Lib.hid hx.below
        clear hx hres
        go_wp2_with (first
          | (go_at_call 20; refine Calls.mono (hbx _ HXB.out) ?_; rintro e w1 ⟨rfl, hb1⟩; have hx1 := HX.out.more hb1; obtain ⟨y0, y1, y2⟩ := hx1.cells; have hxb1 := hx1.below; have HXB1 := Lib.hid hxb1; have Hb1 := Lib.hid hb1; clear hx1 hxb1 hb1)
          | (go_at_call 39; refine Calls.mono (hfd _ HXB1.out) ?_; rintro e w2 ⟨rfl, hb2⟩; have hb3 := Hb1.out.trans (hb2.mono Hb1.out.size); have hr1 := HR.out.below hb3 HR.out.lt; have r0 := hr1.cell 0; have r1 := hr1.cell 1; have r2 := hr1.cell 2; simp at r0 r1 r2; have f0 := hr1.frozen 0; have f1 := hr1.frozen 1; have f2 := hr1.frozen 2; have Hb3 := Lib.hid hb3; clear hr1 hb3 hb2)
          | (go_at_call 38; refine Calls.mono (hwt _) ?_; rintro e w3 ⟨rfl, rfl⟩))
        obtain ⟨hfin, hbel⟩ := none_ret HXB.out HR.out Hb3.out
        have s0 := hfin.cell 0
        have s1 := hfin.cell 1
        have s2 := hfin.cell 2
        simp at s0 s1 s2
        exact bodyPost_ret (v := .tuple #[.agg #[.slice none 0 0, .int .i64 0, .bool false], .int .i64 191]) (by simp [results, Try.results23, go_sem, s0, s1, s2]) rfl
          ⟨⟨_, none_, 191, rfl, none_own _ _, .inr (.inr (.inl ⟨Hval.out, ⟨a, q, Hq.out, Hqi.out⟩, Hc.out, rfl, rfl⟩))⟩, hbel⟩
    · have hno : ∀ (i : Nat) (q : Qu), t.qs[i]? = some q → q.id ≠ id := fun i q hq he => hex ⟨i, q, hq, he⟩
      have hfd : 0 ≤ id → ∀ w1, Below w.heap.size w w1 → Calls Try.prog 39 #[.agg #[.slice A t.qs.length c, .int .i64 t.at_, .bool t.fr], .int .i64 id] w1 fun e w' => (∃ p : Nat, e = .returned (.tuple #[.int .i64 (p : Nat), .bool false])) ∧ Below w1.heap.size w1 w' := fun h0 w1 hb => by
        refine Calls.mono (find_any _ t id w1 B (by have := hb.size; omega) (Hv.out.below (hb.mono hB)) hval.len hasc ⟨h0, hid⟩) ?_
        rintro e w' ⟨⟨p, b, rfl, hs⟩, hb'⟩
        rw [spot_no hs hno]
        exact ⟨⟨p, rfl⟩, hb'⟩
      have Hval := Lib.hid hval
      have Hno := Lib.hid hno
      clear hval hex hno hasc hck
      by_cases h0 : id ≥ 0
      · have hfd0 := hfd h0
        clear hfd
        go_enter Try.func23, Try.ntmps23
        go_upto_region 1 with fail
        have hx := (Boxed.start w A t.qs.length c t.at_ t.fr).alloc (.cells #[.slice none 0 0, .int .i64 0, .bool false] 34)
        have hres := Blk.new (w.alloc (.cells #[.slice A t.qs.length c, .int .i64 t.at_, .bool t.fr] 34)) 34 #[.slice none 0 0, .int .i64 0, .bool false]
        rw [World.size_alloc] at hres
        generalize hW0 : World.alloc (World.alloc _ _) _ = W0
        rw [hW0] at hx hres
        clear hW0
        obtain ⟨x0, x1, x2⟩ := hx.cells
        have HX := Lib.hid hx
        have HR := Lib.hid hres
        have HXB := Lib.hid hx.below
        clear hx hres
        go_wp2_with (first
          | (go_at_call 20; refine Calls.mono (hbx _ HXB.out) ?_; rintro e w1 ⟨rfl, hb1⟩; have hx1 := HX.out.more hb1; obtain ⟨y0, y1, y2⟩ := hx1.cells; have hxb1 := hx1.below; have HXB1 := Lib.hid hxb1; have Hb1 := Lib.hid hb1; clear hx1 hxb1 hb1)
          | (go_at_call 39; refine Calls.mono (hfd0 _ HXB1.out) ?_; rintro e w2 ⟨⟨p, rfl⟩, hb2⟩; have hb3 := Hb1.out.trans (hb2.mono Hb1.out.size); have hr1 := HR.out.below hb3 HR.out.lt; have r0 := hr1.cell 0; have r1 := hr1.cell 1; have r2 := hr1.cell 2; simp at r0 r1 r2; have f0 := hr1.frozen 0; have f1 := hr1.frozen 1; have f2 := hr1.frozen 2; have Hb3 := Lib.hid hb3; clear hr1 hb3 hb2))
        obtain ⟨hfin, hbel⟩ := none_ret HXB.out HR.out Hb3.out
        have s0 := hfin.cell 0
        have s1 := hfin.cell 1
        have s2 := hfin.cell 2
        simp at s0 s1 s2
        exact bodyPost_ret (v := .tuple #[.agg #[.slice none 0 0, .int .i64 0, .bool false], .int .i64 190]) (by simp [results, Try.results23, go_sem, s0, s1, s2]) rfl
          ⟨⟨_, none_, 190, rfl, none_own _ _, .inr (.inl ⟨Hval.out, Hno.out, rfl, rfl⟩)⟩, hbel⟩
      · clear hfd
        go_enter Try.func23, Try.ntmps23
        go_upto_region 1 with fail
        have hx := (Boxed.start w A t.qs.length c t.at_ t.fr).alloc (.cells #[.slice none 0 0, .int .i64 0, .bool false] 34)
        have hres := Blk.new (w.alloc (.cells #[.slice A t.qs.length c, .int .i64 t.at_, .bool t.fr] 34)) 34 #[.slice none 0 0, .int .i64 0, .bool false]
        rw [World.size_alloc] at hres
        generalize hW0 : World.alloc (World.alloc _ _) _ = W0
        rw [hW0] at hx hres
        clear hW0
        obtain ⟨x0, x1, x2⟩ := hx.cells
        have HR := Lib.hid hres
        have HXB := Lib.hid hx.below
        clear hx hres
        go_wp2_with (first
          | (go_at_call 20; refine Calls.mono (hbx _ HXB.out) ?_; rintro e w1 ⟨rfl, hb1⟩; have hr1 := HR.out.below hb1 HR.out.lt; have r0 := hr1.cell 0; have r1 := hr1.cell 1; have r2 := hr1.cell 2; simp at r0 r1 r2; have f0 := hr1.frozen 0; have f1 := hr1.frozen 1; have f2 := hr1.frozen 2; have Hb1 := Lib.hid hb1; clear hr1 hb1))
        obtain ⟨hfin, hbel⟩ := none_ret HXB.out HR.out Hb1.out
        have s0 := hfin.cell 0
        have s1 := hfin.cell 1
        have s2 := hfin.cell 2
        simp at s0 s1 s2
        exact bodyPost_ret (v := .tuple #[.agg #[.slice none 0 0, .int .i64 0, .bool false], .int .i64 190]) (by simp [results, Try.results23, go_sem, s0, s1, s2]) rfl
          ⟨⟨_, none_, 190, rfl, none_own _ _, .inr (.inl ⟨Hval.out, Hno.out, rfl, rfl⟩)⟩, hbel⟩
  · have hval : ¬ Valid t := fun h => hck (chk_zero.2 h)
    have hck2 : (chk t != 0) = true := by simp [hck]
    go_enter Try.func23, Try.ntmps23
    go_upto_region 1 with fail
    have hx := (Boxed.start w A t.qs.length c t.at_ t.fr).alloc (.cells #[.slice none 0 0, .int .i64 0, .bool false] 34)
    have hres := Blk.new (w.alloc (.cells #[.slice A t.qs.length c, .int .i64 t.at_, .bool t.fr] 34)) 34 #[.slice none 0 0, .int .i64 0, .bool false]
    rw [World.size_alloc] at hres
    generalize hW0 : World.alloc (World.alloc _ _) _ = W0
    rw [hW0] at hx hres
    clear hW0
    obtain ⟨x0, x1, x2⟩ := hx.cells
    have HR := Lib.hid hres
    have HXB := Lib.hid hx.below
    clear hx hres
    go_wp2_with (first
      | (go_at_call 20; refine Calls.mono (hbx _ HXB.out) ?_; rintro e w1 ⟨rfl, hb1⟩; have hr1 := HR.out.below hb1 HR.out.lt; have r0 := hr1.cell 0; have r1 := hr1.cell 1; have r2 := hr1.cell 2; simp at r0 r1 r2; have f0 := hr1.frozen 0; have f1 := hr1.frozen 1; have f2 := hr1.frozen 2; have Hr1 := Lib.hid hr1; clear hr1))
    obtain ⟨hfin, hbel⟩ := none_ret HXB.out HR.out hb1
    have s0 := hfin.cell 0
    have s1 := hfin.cell 1
    have s2 := hfin.cell 2
    simp at s0 s1 s2
    exact bodyPost_ret (v := .tuple #[.agg #[.slice none 0 0, .int .i64 0, .bool false], .int .i64 (chk t)]) (by simp [results, Try.results23, go_sem, s0, s1, s2]) rfl
      ⟨⟨_, none_, chk t, rfl, none_own _ _, .inl ⟨hval, rfl, rfl⟩⟩, hbel⟩
end Go.Proofs.Ytgbjhkgbjnobcaa
