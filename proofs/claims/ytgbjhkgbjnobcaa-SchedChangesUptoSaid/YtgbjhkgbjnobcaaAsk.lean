/- The walk of 'sched.Ask'. Conditions: the turns are readable, their lists and numbers within reach. -/
import Derived.Test.YtgbjhkgbjnobcaaAskMem
import Derived.Deep.RegionLaw
namespace Go.Proofs.Ytgbjhkgbjnobcaa
open Go.RowKit Trn

/-- Numbers within reach. -/
def Ids (t : Tu) : Prop := ∀ q ∈ t.qs, q.id ≤ 9223372036854775807
theorem asc_of {t : Tu} (h : Valid t) (hi : Ids t) : Asc t.qs := by
  have step1 : ∀ (i : Nat) (p q : Qu), t.qs[i]? = some p → t.qs[i + 1]? = some q → p.id < q.id := fun i p q hp hq => by
    have := (h.qs (i + 1) q hq).1
    simp only [lastId, List.getD_eq_getElem?_getD, hp, Option.getD_some] at this
    exact this
  have lt : ∀ (d i : Nat) (p q : Qu), t.qs[i]? = some p → t.qs[i + 1 + d]? = some q → p.id < q.id := by
    intro d
    induction d with
    | zero => intro i p q hp hq; exact step1 i p q hp hq
    | succ d ih =>
      intro i p q hp hq
      have hl := (List.getElem?_eq_some_iff.1 hq).1
      have hm : t.qs[i + 1 + d]? = some t.qs[i + 1 + d] := List.getElem?_eq_getElem (by omega)
      have h1 := ih i p _ hp hm
      have h2 := step1 (i + 1 + d) _ q hm (by rw [show i + 1 + d + 1 = i + 1 + (d + 1) by omega]; exact hq)
      omega
  have hlt : ∀ (i j : Nat) (p q : Qu), i < j → t.qs[i]? = some p → t.qs[j]? = some q → p.id < q.id := fun i j p q hij hp hq =>
    lt (j - (i + 1)) i p q hp (by rw [show i + 1 + (j - (i + 1)) = j by omega]; exact hq)
  refine ⟨fun i q hq => ⟨?_, hi q (List.mem_of_getElem? hq)⟩, hlt⟩
  have hpos : 0 < t.qs.length := by have := (List.getElem?_eq_some_iff.1 hq).1; omega
  have h0 : t.qs[0]? = some t.qs[0] := List.getElem?_eq_getElem hpos
  have h1 := (h.qs 0 _ h0).1
  simp only [lastId] at h1
  rcases Nat.eq_zero_or_pos i with e | e
  · subst e; rw [h0] at hq; injection hq with hq; rw [← hq]; omega
  · have := hlt 0 i _ q e h0 hq; omega

def Trn.none_ : Tu := ⟨[], 0, false⟩
/-- What Ask answers. -/
def Trn.AskIs (t : Tu) (id cost : Int) (t' : Tu) (e : Int) : Prop :=
  (¬ Valid t ∧ e = chk t ∧ t' = none_) ∨ (Valid t ∧ (∀ (i : Nat) (q : Qu), t.qs[i]? = some q → q.id ≠ id) ∧ e = 190 ∧ t' = none_) ∨
  (Valid t ∧ ¬ (1 ≤ cost ∧ cost ≤ 1048576) ∧ e = 191 ∧ t' = none_) ∨
  (Valid t ∧ (1 ≤ cost ∧ cost ≤ 1048576) ∧ e = 0 ∧ ∃ a q, t.qs[a]? = some q ∧ q.id = id ∧ t' = asked t a q cost)

/-- An empty answer is written. -/
theorem none_ret {w W w1 : World} (hb : Below w.heap.size w W) (hr : Blk W (w.heap.size + 1) 34 #[.slice none 0 0, .int .i64 0, .bool false]) (hb1 : Below W.heap.size W w1) :
    Blk (((w1.setCell ⟨w.heap.size + 1, 0, none⟩ (.slice none 0 0)).setCell ⟨w.heap.size + 1, 1, none⟩ (.int .i64 0)).setCell ⟨w.heap.size + 1, 2, none⟩ (.bool false)) (w.heap.size + 1) 34 #[.slice none 0 0, .int .i64 0, .bool false] ∧
    Below w.heap.size w (((w1.setCell ⟨w.heap.size + 1, 0, none⟩ (.slice none 0 0)).setCell ⟨w.heap.size + 1, 1, none⟩ (.int .i64 0)).setCell ⟨w.heap.size + 1, 2, none⟩ (.bool false)) := by
  have h1 := hr.below hb1 hr.lt
  have h2 := hb.trans (hb1.mono hb.size)
  refine ⟨?_, ((h2.setCell (by simp <;> omega) _).setCell (by simp <;> omega) _).setCell (by simp <;> omega) _⟩
  have := ((h1.set_ 0 (.slice none 0 0)).set_ 1 (.int .i64 0)).set_ 2 (.bool false)
  simpa using this
theorem none_tu (w : World) (lo B : Nat) : TuNew w lo B (.agg #[.slice none 0 0, .int .i64 0, .bool false]) none_ := ⟨none, 0, rfl, Nat.le_refl _, Nat.zero_le _, QsNew.nil rfl⟩

theorem spot_yes {t : Tu} {id : Int} {p a : Nat} {b : Bool} {q : Qu} (h : Spot t.qs id p b) (hasc : Asc t.qs) (hq : t.qs[a]? = some q) (hi : q.id = id) : p = a ∧ b = true := by
  have hb : b = true := by
    rcases Bool.eq_false_or_eq_true b with e | e
    · exact e
    · exact absurd hi (h.no e a q hq)
  obtain ⟨x, hx, he⟩ := h.yes hb
  refine ⟨?_, hb⟩
  rcases Nat.lt_trichotomy p a with e | e | e
  · have := hasc.lt p a x q e hx hq; omega
  · exact e
  · have := hasc.lt a p q x e hq hx; omega
theorem spot_no {t : Tu} {id : Int} {p : Nat} {b : Bool} (h : Spot t.qs id p b) (hn : ∀ (i : Nat) (q : Qu), t.qs[i]? = some q → q.id ≠ id) : b = false := by
  rcases Bool.eq_false_or_eq_true b with e | e
  · obtain ⟨x, hx, he⟩ := h.yes e
    exact absurd he (hn p x hx)
  · exact e

set_option maxRecDepth 100000 in
set_option maxHeartbeats 4000000 in
theorem ask_any (v : Value) (t : Tu) (id cost : Int) (w : World) (B : Nat) (hB : B ≤ w.heap.size) (hv : TuAt w B v t) (hr : Reach t) (hids : Ids t) (hid : id ≤ 9223372036854775807) :
    Calls Try.prog 23 #[v, .int .i64 id, .int .i64 cost] w fun e w' => (∃ v' t' n, e = .returned (.tuple #[v', .int .i64 n]) ∧ TuNew w' w.heap.size w'.heap.size v' t' ∧ AskIs t id cost t' n) ∧ Below w.heap.size w w' := by
  have Hv := Lib.hid hv
  obtain ⟨A, c, rfl, hlc, hcm, hq⟩ := hv
  clear hq
  have hbx : ∀ w1, Below w.heap.size w w1 → Calls Try.prog 20 #[.agg #[.slice A t.qs.length c, .int .i64 t.at_, .bool t.fr]] w1 fun e w' => e = .returned (.int .i64 (chk t)) ∧ Below w1.heap.size w1 w' := fun w1 hb =>
    check_any _ t w1 B (by have := hb.size; omega) (Hv.out.below (hb.mono hB))
  by_cases hck : chk t = 0
  · have hval := chk_zero.1 hck
    rw [hck] at hbx
    have hasc := asc_of hval hids
    by_cases hex : ∃ (a : Nat) (q : Qu), t.qs[a]? = some q ∧ q.id = id
    · obtain ⟨a, q, hq, hqi⟩ := hex
      have hid0 : 0 ≤ id := by have := (hasc.lo a q hq).1; omega
      have hal := (List.getElem?_eq_some_iff.1 hq).1
      have h0 : id ≥ 0 := hid0
      have hfd : ∀ w1, Below w.heap.size w w1 → Calls Try.prog 39 #[.agg #[.slice A t.qs.length c, .int .i64 t.at_, .bool t.fr], .int .i64 id] w1 fun e w' => e = .returned (.tuple #[.int .i64 (a : Nat), .bool true]) ∧ Below w1.heap.size w1 w' := fun w1 hb => by
        refine Calls.mono (find_any _ t id w1 B (by have := hb.size; omega) (Hv.out.below (hb.mono hB)) hval.len hasc ⟨hid0, hid⟩) ?_
        rintro e w' ⟨⟨p, b, rfl, hs⟩, hb'⟩
        obtain ⟨rfl, rfl⟩ := spot_yes hs hasc hq hqi
        exact ⟨rfl, hb'⟩
      have hcp : ∀ w1, Below w.heap.size w w1 → Calls Try.prog 32 #[.agg #[.slice A t.qs.length c, .int .i64 t.at_, .bool t.fr]] w1 fun e w' => (∃ g l, e = .returned (.agg #[.slice (some ⟨g, 0, none⟩) t.qs.length t.qs.length, .int .i64 t.at_, .bool t.fr]) ∧ OwnQs w' w1.heap.size g l ∧ l.map (·.1) = t.qs) ∧ Below w1.heap.size w1 w' := fun w1 hb =>
        copied_any _ t w1 B (by have := hb.size; omega) (Hv.out.below (hb.mono hB)) hval.len hr
      have hreach := hr q (List.mem_of_getElem? hq)
      have hwt := fun u => within_any cost 1 1048576 u
      have hlen := hval.len
      have Hval := Lib.hid hval
      have Hq := Lib.hid hq
      have Hqi := Lib.hid hqi
      clear hval hasc hck hq hqi
      by_cases hc : 1 ≤ cost ∧ cost ≤ 1048576
      · simp only [inB_yes hc] at hwt
        have Hc := Lib.hid hc
        clear hc
        go_enter Try.func23, Try.ntmps23
        go_upto_region 1 with fail
        have hx := (Boxed.start w A t.qs.length c t.at_ t.fr).alloc (.cells #[.slice none 0 0, .int .i64 0, .bool false] 34)
        have hres := Blk.new (w.alloc (.cells #[.slice A t.qs.length c, .int .i64 t.at_, .bool t.fr] 34)) 34 #[.slice none 0 0, .int .i64 0, .bool false]
        rw [World.size_alloc] at hres
        generalize hW0 : World.alloc (World.alloc _ _) _ = W0
        rw [hW0] at hx hres
        clear hW0
        obtain ⟨x0, x1, x2⟩ := hx.cells
        have HX := Lib.hid hx
        have HR := Lib.hid hres
        have HXB := Lib.hid hx.below
        clear hx hres
        go_wp2_with (first
          | (go_at_call 20; refine Calls.mono (hbx _ HXB.out) ?_; rintro e w1 ⟨rfl, hb1⟩; have hx1 := HX.out.more hb1; obtain ⟨y0, y1, y2⟩ := hx1.cells; have HXB1 := Lib.hid hx1.below; have HX1 := Lib.hid hx1; have Hb1 := Lib.hid hb1; clear hx1 hb1)
          | (go_at_call 39; refine Calls.mono (hfd _ HXB1.out) ?_; rintro e w2 ⟨rfl, hb2⟩; have hb3 := Hb1.out.trans (hb2.mono Hb1.out.size); have hx2 := HX1.out.more hb2; obtain ⟨v0, v1, v2⟩ := hx2.cells; have HXB2 := Lib.hid hx2.below; have Hb3 := Lib.hid hb3; clear hb3 hb2 hx2)
          | (go_at_call 38; refine Calls.mono (hwt _) ?_; rintro e w3 ⟨rfl, rfl⟩)
          | (go_at_call 32; refine Calls.mono (hcp _ HXB2.out) ?_; rintro e w4 ⟨⟨g, l, rfl, ho, hl⟩, hb4⟩))
        have hnm := NM.start (t := t) HXB.out HR.out Hb3.out hb4 ho hl
        clear hl ho HR HX HXB HXB1 HXB2 HX1 x0 x1 x2 y0 y1 y2 v0 v1 v2 hcp hbx hfd hwt Hb1 Hb3 hb4
        generalize hW5 : World.alloc _ _ = w5
        rw [hW5] at hnm
        clear hW5
        generalize w4.heap.size = cb at *
        obtain ⟨i0, hi, hz0, hz1, hz2⟩ := info_parts info3
        obtain ⟨v, hown, hvc, hvg, hvcb, hgr⟩ := hnm.grow Hq.out
        obtain ⟨Av, nv, cv, hvs⟩ := hown.shape
        have hnv : nv = q.cs.length := by
          obtain ⟨_, _, e, _⟩ := hown.read (Nat.le_refl _)
          rw [hvs] at e
          injection e
        subst hnv
        rw [hvs] at hvc
        have k0 := hnm.cblk.cell 0
        simp at k0
        have g3 := hnm.row_free (a * 4 + 3)
        have hgc1 : ¬ g = cb := hnm.ne
        have hgc2 : ¬ cb = g := fun e => hnm.ne e.symm
        have hcl : cb < w5.heap.size := hnm.cblk.lt
        have hgl : g < w5.heap.size := by obtain ⟨l', ho', _⟩ := hnm.own; exact Blk.lt ho'.blk
        have hai : (a : Int) < t.qs.length := by omega
        have hkeep : ∀ u, Below w5.heap.size w5 u → OwnInts u (w.heap.size + 2) v q.cs := fun u hu => hown.below hu (Nat.le_refl _)
        have hw5 : w.heap.size + 2 ≤ w5.heap.size := by have := hnm.gc; omega
        have Hnm := Lib.hid hnm
        have Hgr := Lib.hid hgr
        have Hvg := Lib.hid hvg
        have Hvcb := Lib.hid hvcb
        have Hvs := Lib.hid hvs
        clear hnm hgr hvg hvcb hown hvs
        go_cut [] (fun wx => NM w g cb (asked t a q cost) wx)
        case first =>
          go_region_law
            (first | (refine step_append_lies _ (by rfl) _ _ _ (by rfl) (w.heap.size + 2) 3 i0 (.int .i64 0) 1 8 Try.underlying30 hi hz0 hz1 hz2 rfl (by decide) v q.cs.length (q.cs.map (Value.int .i64)) (by rw [Hvs.out]; rfl) (hkeep _ (((Below.refl _ _).drew).alloc (Nat.le_refl _) _)) ⟨w5.heap.size, 0, none⟩ 1 1 [.int .i64 cost] (by rfl) (by rfl) (World.news_of_block (heap_alloc_new _ _)) (by simp [Value.oneCell']) (by decide) (by unfold maxLen; omega) (by omega) (by simp; omega) _ rfl ?_; intro g' cap w1 hown1 hgrow hat hlt1; have e1 := hgrow.cell_far ⟨cb, 0, none⟩ (by simp; omega) (fun e => Hvcb.out e.symm); have e2 := hgrow.cell_far ⟨g, a * 4 + 3, none⟩ (by simp; omega) (fun e => Hvg.out e.symm); have e3 := hgrow.frozen_far ⟨g, a * 4 + 3, none⟩ (by simp; omega) (fun e => Hvg.out e.symm); have hown1 := Lib.hid hown1; have hgrow := Lib.hid hgrow; have hat := Lib.hid hat))
          all_goals (go_wp2; go_meet; (case rel => exact Hgr.out _ _ cost g' cap ((((Below.refl w5.heap.size w5).alloc (Nat.le_refl _) _)).drew) hgrow.out (by have := hown1.out; simpa [OwnInts] using this) hat.out))
        case rest =>
          clear hvc k0 g3 hkeep
          have k0 := hcut.cblk.cell 0
          have k1 := hcut.cblk.cell 1
          have k2 := hcut.cblk.cell 2
          simp at k0 k1 k2
          have r0 := hcut.res.cell 0
          have r1 := hcut.res.cell 1
          have r2 := hcut.res.cell 2
          simp at r0 r1 r2
          have f0 := hcut.res.frozen 0
          have f1 := hcut.res.frozen 1
          have f2 := hcut.res.frozen 2
          have Hcut := Lib.hid hcut
          clear hcut
          go_wp2
          obtain ⟨vs, R, hnb, hf⟩ := Hcut.out.nb
          obtain ⟨hq, hbl', hfin⟩ := hnb.ret hf (.slice (some ⟨g, 0, none⟩) (asked t a q cost).qs.length (asked t a q cost).qs.length) (.int .i64 (asked t a q cost).at_) (.bool (asked t a q cost).fr)
          have s0 := hfin.cell 0
          have s1 := hfin.cell 1
          have s2 := hfin.cell 2
          simp at s0 s1 s2
          have hl9 : (asked t a q cost).qs.length = t.qs.length := by simp [asked]
          exact bodyPost_ret (v := .tuple #[.agg #[.slice (some ⟨g, 0, none⟩) (asked t a q cost).qs.length (asked t a q cost).qs.length, .int .i64 (asked t a q cost).at_, .bool (asked t a q cost).fr], .int .i64 0]) (by simp [results, Try.results23, go_sem, s0, s1, s2]) rfl
            ⟨⟨_, asked t a q cost, 0, rfl, ⟨_, _, rfl, Nat.le_refl _, by unfold maxLen; omega, hq.mono (by simp)⟩, .inr (.inr (.inr ⟨Hval.out, Hc.out, rfl, a, q, Hq.out, Hqi.out, rfl⟩))⟩, hbl'⟩
      · simp only [inB_no hc] at hwt
        have Hc := Lib.hid hc
        clear hc hcp
        go_enter Try.func23, Try.ntmps23
        go_upto_region 1 with fail
        have hx := (Boxed.start w A t.qs.length c t.at_ t.fr).alloc (.cells #[.slice none 0 0, .int .i64 0, .bool false] 34)
        have hres := Blk.new (w.alloc (.cells #[.slice A t.qs.length c, .int .i64 t.at_, .bool t.fr] 34)) 34 #[.slice none 0 0, .int .i64 0, .bool false]
        rw [World.size_alloc] at hres
        generalize hW0 : World.alloc (World.alloc _ _) _ = W0
        rw [hW0] at hx hres
        clear hW0
        obtain ⟨x0, x1, x2⟩ := hx.cells
        have HX := Lib.hid hx
        have HR := Lib.hid hres
        have HXB := Lib.hid hx.below
        clear hx hres
        go_wp2_with (first
          | (go_at_call 20; refine Calls.mono (hbx _ HXB.out) ?_; rintro e w1 ⟨rfl, hb1⟩; have hx1 := HX.out.more hb1; obtain ⟨y0, y1, y2⟩ := hx1.cells; have hxb1 := hx1.below; have HXB1 := Lib.hid hxb1; have Hb1 := Lib.hid hb1; clear hx1 hxb1 hb1)
          | (go_at_call 39; refine Calls.mono (hfd _ HXB1.out) ?_; rintro e w2 ⟨rfl, hb2⟩; have hb3 := Hb1.out.trans (hb2.mono Hb1.out.size); have hr1 := HR.out.below hb3 HR.out.lt; have r0 := hr1.cell 0; have r1 := hr1.cell 1; have r2 := hr1.cell 2; simp at r0 r1 r2; have f0 := hr1.frozen 0; have f1 := hr1.frozen 1; have f2 := hr1.frozen 2; have Hb3 := Lib.hid hb3; clear hr1 hb3 hb2)
          | (go_at_call 38; refine Calls.mono (hwt _) ?_; rintro e w3 ⟨rfl, rfl⟩))
        obtain ⟨hfin, hbel⟩ := none_ret HXB.out HR.out Hb3.out
        have s0 := hfin.cell 0
        have s1 := hfin.cell 1
        have s2 := hfin.cell 2
        simp at s0 s1 s2
        exact bodyPost_ret (v := .tuple #[.agg #[.slice none 0 0, .int .i64 0, .bool false], .int .i64 191]) (by simp [results, Try.results23, go_sem, s0, s1, s2]) rfl
          ⟨⟨_, none_, 191, rfl, none_tu _ _ _, .inr (.inr (.inl ⟨Hval.out, Hc.out, rfl, rfl⟩))⟩, hbel⟩
    · have hno : ∀ (i : Nat) (q : Qu), t.qs[i]? = some q → q.id ≠ id := fun i q hq he => hex ⟨i, q, hq, he⟩
      have hfd : 0 ≤ id → ∀ w1, Below w.heap.size w w1 → Calls Try.prog 39 #[.agg #[.slice A t.qs.length c, .int .i64 t.at_, .bool t.fr], .int .i64 id] w1 fun e w' => (∃ p : Nat, e = .returned (.tuple #[.int .i64 (p : Nat), .bool false])) ∧ Below w1.heap.size w1 w' := fun h0 w1 hb => by
        refine Calls.mono (find_any _ t id w1 B (by have := hb.size; omega) (Hv.out.below (hb.mono hB)) hval.len hasc ⟨h0, hid⟩) ?_
        rintro e w' ⟨⟨p, b, rfl, hs⟩, hb'⟩
        rw [spot_no hs hno]
        exact ⟨⟨p, rfl⟩, hb'⟩
      have Hval := Lib.hid hval
      have Hno := Lib.hid hno
      clear hval hex hno hasc hck
      by_cases h0 : id ≥ 0
      · have hfd0 := hfd h0
        clear hfd
        go_enter Try.func23, Try.ntmps23
        go_upto_region 1 with fail
        have hx := (Boxed.start w A t.qs.length c t.at_ t.fr).alloc (.cells #[.slice none 0 0, .int .i64 0, .bool false] 34)
        have hres := Blk.new (w.alloc (.cells #[.slice A t.qs.length c, .int .i64 t.at_, .bool t.fr] 34)) 34 #[.slice none 0 0, .int .i64 0, .bool false]
        rw [World.size_alloc] at hres
        generalize hW0 : World.alloc (World.alloc _ _) _ = W0
        rw [hW0] at hx hres
        clear hW0
        obtain ⟨x0, x1, x2⟩ := hx.cells
        have HX := Lib.hid hx
        have HR := Lib.hid hres
        have HXB := Lib.hid hx.below
        clear hx hres
        go_wp2_with (first
          | (go_at_call 20; refine Calls.mono (hbx _ HXB.out) ?_; rintro e w1 ⟨rfl, hb1⟩; have hx1 := HX.out.more hb1; obtain ⟨y0, y1, y2⟩ := hx1.cells; have hxb1 := hx1.below; have HXB1 := Lib.hid hxb1; have Hb1 := Lib.hid hb1; clear hx1 hxb1 hb1)
          | (go_at_call 39; refine Calls.mono (hfd0 _ HXB1.out) ?_; rintro e w2 ⟨⟨p, rfl⟩, hb2⟩; have hb3 := Hb1.out.trans (hb2.mono Hb1.out.size); have hr1 := HR.out.below hb3 HR.out.lt; have r0 := hr1.cell 0; have r1 := hr1.cell 1; have r2 := hr1.cell 2; simp at r0 r1 r2; have f0 := hr1.frozen 0; have f1 := hr1.frozen 1; have f2 := hr1.frozen 2; have Hb3 := Lib.hid hb3; clear hr1 hb3 hb2))
        obtain ⟨hfin, hbel⟩ := none_ret HXB.out HR.out Hb3.out
        have s0 := hfin.cell 0
        have s1 := hfin.cell 1
        have s2 := hfin.cell 2
        simp at s0 s1 s2
        exact bodyPost_ret (v := .tuple #[.agg #[.slice none 0 0, .int .i64 0, .bool false], .int .i64 190]) (by simp [results, Try.results23, go_sem, s0, s1, s2]) rfl
          ⟨⟨_, none_, 190, rfl, none_tu _ _ _, .inr (.inl ⟨Hval.out, Hno.out, rfl, rfl⟩)⟩, hbel⟩
      · clear hfd
        go_enter Try.func23, Try.ntmps23
        go_upto_region 1 with fail
        have hx := (Boxed.start w A t.qs.length c t.at_ t.fr).alloc (.cells #[.slice none 0 0, .int .i64 0, .bool false] 34)
        have hres := Blk.new (w.alloc (.cells #[.slice A t.qs.length c, .int .i64 t.at_, .bool t.fr] 34)) 34 #[.slice none 0 0, .int .i64 0, .bool false]
        rw [World.size_alloc] at hres
        generalize hW0 : World.alloc (World.alloc _ _) _ = W0
        rw [hW0] at hx hres
        clear hW0
        obtain ⟨x0, x1, x2⟩ := hx.cells
        have HR := Lib.hid hres
        have HXB := Lib.hid hx.below
        clear hx hres
        go_wp2_with (first
          | (go_at_call 20; refine Calls.mono (hbx _ HXB.out) ?_; rintro e w1 ⟨rfl, hb1⟩; have hr1 := HR.out.below hb1 HR.out.lt; have r0 := hr1.cell 0; have r1 := hr1.cell 1; have r2 := hr1.cell 2; simp at r0 r1 r2; have f0 := hr1.frozen 0; have f1 := hr1.frozen 1; have f2 := hr1.frozen 2; have Hb1 := Lib.hid hb1; clear hr1 hb1))
        obtain ⟨hfin, hbel⟩ := none_ret HXB.out HR.out Hb1.out
        have s0 := hfin.cell 0
        have s1 := hfin.cell 1
        have s2 := hfin.cell 2
        simp at s0 s1 s2
        exact bodyPost_ret (v := .tuple #[.agg #[.slice none 0 0, .int .i64 0, .bool false], .int .i64 190]) (by simp [results, Try.results23, go_sem, s0, s1, s2]) rfl
          ⟨⟨_, none_, 190, rfl, none_tu _ _ _, .inr (.inl ⟨Hval.out, Hno.out, rfl, rfl⟩)⟩, hbel⟩
  · have hval : ¬ Valid t := fun h => hck (chk_zero.2 h)
    have hck2 : (chk t != 0) = true := by simp [hck]
    go_enter Try.func23, Try.ntmps23
    go_upto_region 1 with fail
    have hx := (Boxed.start w A t.qs.length c t.at_ t.fr).alloc (.cells #[.slice none 0 0, .int .i64 0, .bool false] 34)
    have hres := Blk.new (w.alloc (.cells #[.slice A t.qs.length c, .int .i64 t.at_, .bool t.fr] 34)) 34 #[.slice none 0 0, .int .i64 0, .bool false]
    rw [World.size_alloc] at hres
    generalize hW0 : World.alloc (World.alloc _ _) _ = W0
    rw [hW0] at hx hres
    clear hW0
    obtain ⟨x0, x1, x2⟩ := hx.cells
    have HR := Lib.hid hres
    have HXB := Lib.hid hx.below
    clear hx hres
    go_wp2_with (first
      | (go_at_call 20; refine Calls.mono (hbx _ HXB.out) ?_; rintro e w1 ⟨rfl, hb1⟩; have hr1 := HR.out.below hb1 HR.out.lt; have r0 := hr1.cell 0; have r1 := hr1.cell 1; have r2 := hr1.cell 2; simp at r0 r1 r2; have f0 := hr1.frozen 0; have f1 := hr1.frozen 1; have f2 := hr1.frozen 2; have Hr1 := Lib.hid hr1; clear hr1))
    obtain ⟨hfin, hbel⟩ := none_ret HXB.out HR.out hb1
    have s0 := hfin.cell 0
    have s1 := hfin.cell 1
    have s2 := hfin.cell 2
    simp at s0 s1 s2
    exact bodyPost_ret (v := .tuple #[.agg #[.slice none 0 0, .int .i64 0, .bool false], .int .i64 (chk t)]) (by simp [results, Try.results23, go_sem, s0, s1, s2]) rfl
      ⟨⟨_, none_, chk t, rfl, none_tu _ _ _, .inl ⟨hval, rfl, rfl⟩⟩, hbel⟩
end Go.Proofs.Ytgbjhkgbjnobcaa
