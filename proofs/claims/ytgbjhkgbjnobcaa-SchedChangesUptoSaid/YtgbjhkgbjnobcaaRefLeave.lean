/- The walk of the document's Leave. Conditions: the turns are readable, their lists within reach. -/
import Derived.Test.YtgbjhkgbjnobcaaRefOut
import Derived.Test.YtgbjhkgbjnobcaaLeaveOwn
namespace Go.Proofs.Ytgbjhkgbjnobcaa
open Go.RowKit Trn

/-- The first k but number a. -/
def rem {α : Type} (l : List α) (a k : Nat) : List α := l.take (min k a) ++ (l.take k).drop (a + 1)
section
variable {α : Type} {l : List α} {a k : Nat}
theorem rem_zero : rem l a 0 = [] := by simp [rem]
theorem rem_at : rem l a (a + 1) = rem l a a := by
  unfold rem
  rw [Nat.min_eq_right (by omega), Nat.min_self, List.drop_eq_nil_of_le (by simp; omega), List.drop_eq_nil_of_le (by simp; omega)]
theorem rem_step {p : α} (hk : k ≠ a) (hp : l[k]? = some p) : rem l a (k + 1) = rem l a k ++ [p] := by
  have hl := (List.getElem?_eq_some_iff.1 hp).1
  unfold rem
  rcases Nat.lt_or_ge k a with h | h
  · rw [Nat.min_eq_left (by omega), Nat.min_eq_left (by omega), List.drop_eq_nil_of_le (by simp; omega), List.drop_eq_nil_of_le (by simp; omega), List.append_nil, List.append_nil, List.take_add_one, hp]
    rfl
  · rw [Nat.min_eq_right (by omega), Nat.min_eq_right (by omega), List.take_add_one, hp, List.drop_append_of_le_length (by simp; omega), List.append_assoc]
    rfl
theorem rem_end (ha : a < l.length) : rem l a l.length = l.take a ++ l.drop (a + 1) := by
  unfold rem
  rw [Nat.min_eq_right (by omega), List.take_length]
theorem rem_mem {p : α} (h : p ∈ rem l a k) : p ∈ l := by
  rcases List.mem_append.1 h with h | h
  · exact List.mem_of_mem_take h
  · exact List.mem_of_mem_take (List.mem_of_mem_drop h)
theorem rem_len (h : k ≤ l.length) : (rem l a k).length ≤ k := by
  unfold rem
  simp
  omega
end

set_option maxRecDepth 100000 in
set_option maxHeartbeats 16000000 in
theorem refleave_any (v : Value) (t : Tu) (id : Int) (w : World) (B : Nat) (hB : B ≤ w.heap.size) (hv : TuAt w B v t) (hr : Reach t) (hlen : t.qs.length * 48 ≤ 140737488355328) :
    Calls Try.prog 26 #[v, .int .i64 id] w fun e w' => (∃ v' t' n, e = .returned (.tuple #[v', .int .i64 n]) ∧ TuNew w' w.heap.size w'.heap.size v' t' ∧ LeaveIs t id t' n) ∧ Below w.heap.size w w' := by
  have Hv := Lib.hid hv
  obtain ⟨A, c, rfl, hlc, hcm, hq⟩ := hv
  clear hq
  have hbx : ∀ w1, Below w.heap.size w w1 → Calls Try.prog 24 #[.agg #[.slice A t.qs.length c, .int .i64 t.at_, .bool t.fr]] w1 fun e w' => e = .returned (.int .i64 (chk t)) ∧ Below w1.heap.size w1 w' := fun w1 hb =>
    refcheck_any _ t w1 B (by have := hb.size; omega) (Hv.out.below (hb.mono hB))
  by_cases hck : chk t = 0
  · have hval := chk_zero.1 hck
    rw [hck] at hbx
    have Hbx := Lib.hid hbx
    clear hbx
    obtain ⟨r, hpl⟩ := place_ex t.qs id
    have hpc : ∀ w1, Below w.heap.size w w1 → Calls Try.prog 42 #[.agg #[.slice A t.qs.length c, .int .i64 t.at_, .bool t.fr], .int .i64 id] w1 fun e w' => e = .returned (.int .i64 r) ∧ Below w1.heap.size w1 w' := fun w1 hb =>
      place_any _ t id w1 B (by have := hb.size; omega) (Hv.out.below (hb.mono hB)) r hpl
    have hcp : ∀ w1, Below w.heap.size w w1 → Calls Try.prog 31 #[.agg #[.slice A t.qs.length c, .int .i64 t.at_, .bool t.fr]] w1 fun e w' => (∃ vq l, e = .returned (.agg #[vq, .int .i64 t.at_, .bool t.fr]) ∧ TQ w' w1.heap.size vq l [] ∧ l.map (·.1) = t.qs ∧ ∀ p ∈ l, p.2.2 = []) ∧ Below w1.heap.size w1 w' := fun w1 hb =>
      refcopied_own _ t w1 B (by have := hb.size; omega) (Hv.out.below (hb.mono hB)) hr hlen
    have Hcp := Lib.hid hcp
    have Hpc := Lib.hid hpc
    have hn32 := hval.len
    have hat := hval.at_
    have Hval := Lib.hid hval
    clear hcp hpc hval hck
    rcases hpl with ⟨rfl, hno⟩ | ⟨a, q, rfl, hqa, hqi, _⟩
    · have Hno := Lib.hid hno
      clear hno Hcp hat
      go_enter Try.func26, Try.ntmps26
      go_upto_region 1 with fail
      have hx := (Boxed.start w A t.qs.length c t.at_ t.fr).alloc (.cells #[.slice none 0 0, .int .i64 0, .bool false] 34)
      have hres := Blk.new (w.alloc (.cells #[.slice A t.qs.length c, .int .i64 t.at_, .bool t.fr] 34)) 34 #[.slice none 0 0, .int .i64 0, .bool false]
      rw [World.size_alloc] at hres
      generalize hW0 : World.alloc (World.alloc _ _) _ = W0
      rw [hW0] at hx hres
      clear hW0
      obtain ⟨x0, x1, x2⟩ := hx.cells
      have HX := Lib.hid hx
      have HR := Lib.hid hres
      clear hx hres
      go_wp2_with (first
        | (go_at_call 24; refine Calls.mono (Hbx.out _ HX.out.below) ?_; rintro e w1 ⟨rfl, hb1⟩; have hx1 := HX.out.more hb1; obtain ⟨y0, y1, y2⟩ := hx1.cells; have HX1 := Lib.hid hx1; have Hb1 := Lib.hid hb1; clear hx1 hb1)
        | (go_at_call 42; refine Calls.mono (Hpc.out _ HX1.out.below) ?_; rintro e w2 ⟨rfl, hb2⟩; have hr2 := (HR.out.below Hb1.out HR.out.lt).below hb2 (by have := HR.out.lt; have := Hb1.out.size; omega); have r0 := hr2.cell 0; have r1 := hr2.cell 1; have r2 := hr2.cell 2; simp at r0 r1 r2; have f0 := hr2.frozen 0; have f1 := hr2.frozen 1; have f2 := hr2.frozen 2; have hbz := (HX1.out.more hb2).below; have Hr2 := Lib.hid hr2; have Hbz := Lib.hid hbz; clear hr2 hb2 hbz))
      obtain ⟨hfin, hbel⟩ := none_fin Hbz.out Hr2.out
      have s0 := hfin.cell 0
      have s1 := hfin.cell 1
      have s2 := hfin.cell 2
      simp at s0 s1 s2
      exact bodyPost_ret (v := .tuple #[.agg #[.slice none 0 0, .int .i64 0, .bool false], .int .i64 190]) (by simp [results, Try.results26, go_sem, s0, s1, s2]) rfl
        ⟨⟨_, none_, 190, rfl, none_tu _ _ _, .inr (.inl ⟨Hval.out, Hno.out, rfl, rfl⟩)⟩, hbel⟩
    · have hal := (List.getElem?_eq_some_iff.1 hqa).1
      have hai : (a : Int) < t.qs.length := by omega
      have ha0 : ¬ (a : Int) < 0 := by omega
      have Hqa := Lib.hid hqa
      have Hqi := Lib.hid hqi
      clear hqa hqi
      obtain ⟨i1, hi', hz0', hz1', hz2'⟩ := info_parts info51
      go_enter Try.func26, Try.ntmps26
      go_upto_region 1 with fail
      have hx := (Boxed.start w A t.qs.length c t.at_ t.fr).alloc (.cells #[.slice none 0 0, .int .i64 0, .bool false] 34)
      have hres := Blk.new (w.alloc (.cells #[.slice A t.qs.length c, .int .i64 t.at_, .bool t.fr] 34)) 34 #[.slice none 0 0, .int .i64 0, .bool false]
      rw [World.size_alloc] at hres
      generalize hW0 : World.alloc (World.alloc _ _) _ = W0
      rw [hW0] at hx hres
      clear hW0
      obtain ⟨x0, x1, x2⟩ := hx.cells
      have HX := Lib.hid hx
      have HR := Lib.hid hres
      clear hx hres
      go_upto_region 8 with (first
        | (go_at_call 24; refine Calls.mono (Hbx.out _ HX.out.below) ?_; rintro e w1 ⟨rfl, hb1⟩; have hx1 := HX.out.more hb1; obtain ⟨y0, y1, y2⟩ := hx1.cells; have HX1 := Lib.hid hx1; have Hb1 := Lib.hid hb1; clear hx1 hb1)
        | (go_at_call 42; refine Calls.mono (Hpc.out _ HX1.out.below) ?_; rintro e w2 ⟨rfl, hb2⟩; have hx2 := HX1.out.more hb2; obtain ⟨z0, z1, z2⟩ := hx2.cells; have hr2 := (HR.out.below Hb1.out HR.out.lt).below hb2 (by have := HR.out.lt; have := Hb1.out.size; omega); have HX2 := Lib.hid hx2; have Hr2 := Lib.hid hr2; clear hr2 hb2 hx2)
        | (go_at_call 31; refine Calls.mono (Hcp.out _ HX2.out.below) ?_; rintro e w3 ⟨⟨vq, l, rfl, ho, hl, hsp⟩, hb3⟩; obtain ⟨Av, cv, hvq, _, _⟩ := ho.shape; subst hvq; have Ho := Lib.hid ho; have Hl := Lib.hid hl; have Hsp := Lib.hid hsp; have Hb3 := Lib.hid hb3; clear ho hl hsp hb3))
      have hl3 : l.length = t.qs.length := by rw [← Hl.out, List.length_map]
      have hrn : RN w w3.heap.size (.slice Av l.length cv) l t.at_ t.fr (w3.alloc (.cells #[.slice Av l.length cv, .int .i64 t.at_, .bool t.fr] 34)) := by
        have h1 := HX2.out.below.size
        have h2 := Hb3.out.size
        have h3 := Hr2.out.lt
        exact ⟨(HX2.out.below.trans (Hb3.out.mono h1)).alloc (by omega) _, (Hr2.out.below Hb3.out h3).alloc _, by omega, Blk.new _ _ _, (Ho.out.mono (by omega)).below ((Below.refl _ _).alloc (Nat.le_refl _) _)⟩
      have hx3 := (HX2.out.more Hb3.out).alloc (.cells #[.slice Av l.length cv, .int .i64 t.at_, .bool t.fr] 34)
      generalize hW3 : World.alloc w3 _ = W3 at *
      clear hW3 Ho Hb3 HX HR HX1 HX2 Hr2 Hb1 x0 x1 x2 y0 y1 y2 z0 z1 z2 Hcp Hbx Hpc
      generalize w3.heap.size = cb at *
      rw [hl3] at hrn ⊢
      obtain ⟨g, hAv⟩ : ∃ g, Av = some ⟨g, 0, none⟩ := by
        obtain ⟨g, c', e, _⟩ := hrn.tq.at_ (i := a) (List.getElem?_eq_getElem (by omega))
        injection e with e _ _
        exact ⟨g, e⟩
      subst hAv
      obtain ⟨x0, x1, x2⟩ := hx3.cells
      have hbo := (Below.refl W3.heap.size W3).alloc (Nat.le_refl _) (.cells #[.slice none 0 0, .int .i64 t.at_, .bool t.fr] 34)
      have hcl := hrn.cblk.lt
      have hgcx := hrn.gc
      have hon : ON w cb W3.heap.size (.slice (some ⟨g, 0, none⟩) t.qs.length cv) l t.at_ t.fr (.slice none 0 0) [] t.at_ t.fr (W3.alloc (.cells #[.slice none 0 0, .int .i64 t.at_, .bool t.fr] 34)) :=
        ⟨hrn.more hbo, by omega, Blk.new _ _ _, World.ownsRow_nil _ _ _ _, (fun b hb => by cases hb), by omega⟩
      have hx4 := hx3.alloc (.cells #[.slice none 0 0, .int .i64 t.at_, .bool t.fr] 34)
      have Hon := Lib.hid hon
      have HX4 := Lib.hid hx4
      have Hl3 := Lib.hid hl3
      clear hrn hx3 hbo hon hx4 hl3 hcl hgcx
      go_upto_region 9 with fail
      generalize hW4 : World.alloc W3 _ = W4 at *
      clear hW4 x0 x1 x2
      generalize W3.heap.size = ob at *
      go_wp2
      go_loopg [10] t.qs.length (fun g2 vi wr => ∃ (k : Nat) (A2 : Option Addr) (c2 : Nat), g2 + k = t.qs.length ∧ vi = .int .i64 (k : Nat) ∧ ON w cb ob (.slice (some ⟨g, 0, none⟩) t.qs.length cv) l t.at_ t.fr (.slice A2 (rem l a k).length c2) (rem l a k) t.at_ t.fr wr ∧ Blk wr w.heap.size 34 #[.slice A t.qs.length c, .int .i64 t.at_, .bool t.fr])
      case atStart => exact ⟨0, none, 0, by omega, rfl, by rw [rem_zero]; exact Hon.out, HX4.out.box⟩
      case round =>
        obtain ⟨k, A2, c2, hk, rfl, hon, hxb⟩ := hrel
        have hkn : k ≤ t.qs.length := by omega
        have Hk := Lib.hid hk
        have Hon2 := Lib.hid hon
        have Hxb := Lib.hid hxb
        have k0 := hon.rn.cblk.cell 0
        simp at k0
        by_cases hkl : k < t.qs.length
        · have hki : (k : Int) < t.qs.length := by omega
          by_cases hka : k = a
          · subst hka
            have hkb : ((k : Int) != k) = false := by simp
            clear hk hon hxb
            go_wp2
            have hk := Hk.out
            go_roundg (gk - 1)
            case measure => omega
            case rel => exact ⟨k + 1, A2, c2, by omega, by go_num, by rw [rem_at]; exact Hon2.out, Hxb.out⟩
          · have hkb : ((k : Int) != a) = true := by simp; omega
            obtain ⟨⟨q2, u, sp⟩, hp⟩ : ∃ p, l[k]? = some p := ⟨_, List.getElem?_eq_getElem (by rw [Hl3.out]; exact hkl)⟩
            have hsp0 : sp = [] := Hsp.out _ (List.mem_of_getElem? hp)
            subst hsp0
            obtain ⟨q0, q1, q3, q4, _⟩ := hon.rn.cellq hp rfl
            dsimp only at q0 q1 q3 q4
            have hir : IR wr (w.heap.size + 2) u q2.cs [] := hon.rn.tq.own k _ hp
            obtain ⟨Aq, cq, hu, _, _⟩ := hir.shape
            subst hu
            have o0 := hon.oblk.cell 0
            simp at o0
            have of0 := hon.oblk.frozen 0
            have hcl := hon.rn.cblk.lt
            have hol := hon.oblk.lt
            have hne := hon.ne
            have hn1 : ¬ cb = ob := hne
            have hn2 : ¬ ob = cb := fun e => hne e.symm
            have hgl : g < wr.heap.size := (hon.rn.tq.lt (.inl rfl)).2
            have hvn := row_ne hon.row hon.oblk (by decide)
            have hrl : (rem l a k).length ≤ k := rem_len (by rw [Hl3.out]; exact hkn)
            have hw2 : w.heap.size + 2 ≤ wr.heap.size := by have := hon.rn.gc; omega
            obtain ⟨rl, hrl2⟩ : ∃ rl, rl = (rem l a k).length := ⟨_, rfl⟩
            rw [← hrl2] at hrl o0
            have Hrl2 := Lib.hid hrl2
            have Hp := Lib.hid hp
            have Hvn := Lib.hid hvn
            have Hrow := Lib.hid hon.row
            have Hka := Lib.hid hka
            clear hk hon hxb hp hir hvn hka hne hrl2
            go_upto_region 13 with fail
            go_region_law
              (first | (refine step_append_lies _ (by rfl) _ _ _ (by rfl) (w.heap.size + 2) 51 i1 (.agg #[.int .i64 0, .int .i64 0, .int .i64 0, .slice none 0 0]) 4 48 Try.underlying32 hi' hz0' hz1' hz2' rfl (by decide) (.slice A2 rl c2) rl (flat ((rem l a k).map qrow)) (by rfl) (by rw [Hrl2.out]; exact row_keep Hrow.out fun b hb => Below.heap_alloc wr.drew _ b (Hrow.out.lt b hb).2) ⟨wr.heap.size, 0, none⟩ 1 1 (flat [qrow (q2, .slice Aq q2.cs.length cq, [])]) (by rfl) (by rfl) (World.news_of_block (heap_alloc_new _ _)) (by simp [flat, qrow, row, Value.oneCell']) (by decide) (by unfold maxLen; omega) (by omega) (by simp; omega) _ rfl ?_; intro g9 cap9 w9 hown9 hgr9 hat9 hlt9; have e1 := hgr9.cell_far ⟨ob, 0, none⟩ (by simp; omega) (fun e => Hvn.out (by rw [← Hrl2.out]; exact e.symm)); have e2 := hgr9.frozen_far ⟨ob, 0, none⟩ (by simp; omega) (fun e => Hvn.out (by rw [← Hrl2.out]; exact e.symm)); have Hown9 := Lib.hid hown9; have Hgr9 := Lib.hid hgr9; have Hat9 := Lib.hid hat9; clear hown9 hgr9 hat9))
            all_goals
              go_wp2
              have hk := Hk.out
              have hrl2 := Hrl2.out
              subst hrl2
              have hba : Below wr.heap.size wr (wr.alloc (.cells #[.int .i64 q2.id, .int .i64 q2.qu, .int .i64 q2.de, .slice Aq q2.cs.length cq] 51)).drew := ((Below.refl wr.heap.size wr).alloc (Nat.le_refl _) _).drew
              have hon3 := Hon2.out.add hba (q2, .slice Aq q2.cs.length cq, []) Hown9.out Hgr9.out Hat9.out
              have hxb3 := Hon2.out.keepBlk hba Hgr9.out Hxb.out (by decide) (by have := Hon2.out.go_; omega) (.slice (some ⟨g9, 0, none⟩) ((rem l a k).length + 1) cap9)
              have hrs := rem_step Hka.out Hp.out
              have hrl3 : (rem l a (k + 1)).length = (rem l a k).length + 1 := by rw [hrs]; simp
              go_roundg (gk - 1)
              case measure => omega
              case rel => exact ⟨k + 1, some ⟨g9, 0, none⟩, cap9, by omega, by go_num, by rw [hrl3, hrs]; exact hon3, hxb3⟩
        · have hki : ¬ (k : Int) < t.qs.length := by omega
          have hke : k = l.length := by rw [Hl3.out]; omega
          have hal2 : a < l.length := by rw [Hl3.out]; exact hal
          subst hke
          have hrl : (rem l a l.length).length = t.qs.length - 1 := by
            rw [rem_end hal2, List.length_append, List.length_take, List.length_drop, Hl3.out]
            omega
          have hrq : (rem l a l.length).map (·.1) = t.qs.take a ++ t.qs.drop (a + 1) := by rw [rem_end hal2, List.map_append, List.map_take, List.map_drop, Hl.out]
          have hrm : ∀ p ∈ rem l a l.length, p ∈ l ∨ (p.2.1 = .slice none 0 0 ∧ p.1.cs = [] ∧ p.2.2 = []) := fun p hp => .inl (rem_mem hp)
          have o0 := hon.oblk.cell 0
          have o1 := hon.oblk.cell 1
          have o2 := hon.oblk.cell 2
          simp at o0 o1 o2
          have of1 := hon.oblk.frozen 1
          have of2 := hon.oblk.frozen 2
          have x0 := hxb.cell 0
          have x1 := hxb.cell 1
          have x2 := hxb.cell 2
          simp at x0 x1 x2
          have r0 := hon.rn.res.cell 0
          have r1 := hon.rn.res.cell 1
          have r2 := hon.rn.res.cell 2
          simp at r0 r1 r2
          have f0 := hon.rn.res.frozen 0
          have f1 := hon.rn.res.frozen 1
          have f2 := hon.rn.res.frozen 2
          have hgo := hon.go_
          have n1 : ¬ w.heap.size + 1 = ob := by omega
          have n2 : ¬ ob = w.heap.size + 1 := by omega
          obtain ⟨hat0, hat1, _⟩ := hat
          generalize hrr : rem l a l.length = rr at *
          obtain ⟨rl, hrl2⟩ : ∃ rl, rl = rr.length := ⟨_, rfl⟩
          have Hon3 := Lib.hid hon
          have Hrq := Lib.hid hrq
          have Hrm := Lib.hid hrm
          have Hrl := Lib.hid (hrl2.trans hrl)
          rw [← hrl2] at o0
          have Hrl2 := Lib.hid hrl2
          clear hrl hrl2 hon hxb hk hkn hkl hrq hrm hrr Hk Hon2 Hxb hal2
          have hrln : (rl : Int) = (t.qs.length : Int) - 1 := by have := Hrl.out; omega
          have Hrln := Lib.hid hrln
          clear hrln
          rcases Int.lt_trichotomy (a : Int) t.at_ with hlt | heq | hgt
          · have hw1 : IntKind.i64.wrap (t.at_ - 1) = t.at_ - 1 := by rw [IntKind.wrap_i64]; omega
            have hne : ((a : Int) == t.at_) = false := by simp; omega
            go_wp2
            have hrl2 := Hrl2.out
            subst hrl2
            have hon5 := Hon3.out.obox ((Touch.refl ob wr).set_ 1 (.int .i64 (t.at_ - 1))) (at2 := t.at_ - 1) (fr2 := t.fr) (by have := Hon3.out.oblk.set_ 1 (.int .i64 (t.at_ - 1)); simpa using this)
            have hlf : left t a = ⟨t.qs.take a ++ t.qs.drop (a + 1), t.at_ - 1, t.fr⟩ := by
              unfold left
              rw [if_pos hlt, if_neg (by omega)]
            obtain ⟨htu, hbl', hfin⟩ := hon5.ret Hrm.out (left t a) (by rw [Hrq.out, hlf]) (by rw [hlf]) (by rw [hlf])
            have s0 := hfin.cell 0
            have s1 := hfin.cell 1
            have s2 := hfin.cell 2
            simp at s0 s1 s2
            exact bodyPost_ret (v := .tuple #[.agg #[.slice A2 rr.length c2, .int .i64 (t.at_ - 1), .bool t.fr], .int .i64 0]) (by simp [results, Try.results26, go_sem, s0, s1, s2]) rfl
              ⟨⟨_, left t a, 0, rfl, htu.mono (by simp), .inr (.inr ⟨Hval.out, rfl, a, q, Hqa.out, Hqi.out, rfl⟩)⟩, hbl'⟩
          · have hnl : ¬ (a : Int) < t.at_ := by omega
            have heqb : ((a : Int) == t.at_) = true := by simp [heq]
            have Heq := Lib.hid heq
            by_cases hlast : t.at_ = (rl : Int)
            · have hlb : (t.at_ == (rl : Int)) = true := by simp [hlast]
              have Hlast := Lib.hid hlast
              clear heq hlast
              go_wp2
              have hrl2 := Hrl2.out
              subst hrl2
              have hon5 := Hon3.out.obox (((Touch.refl ob wr).set_ 2 (.bool false)).set_ 1 (.int .i64 0)) (at2 := 0) (fr2 := false) (by have := (Hon3.out.oblk.set_ 2 (.bool false)).set_ 1 (.int .i64 0); simpa using this)
              have hlf : left t a = ⟨t.qs.take a ++ t.qs.drop (a + 1), 0, false⟩ := by
                unfold left
                have h1 := Heq.out; have h2 := Hlast.out; have h3 := Hrln.out; rw [if_neg (by omega), if_pos (by omega), if_pos h1]
              obtain ⟨htu, hbl', hfin⟩ := hon5.ret Hrm.out (left t a) (by rw [Hrq.out, hlf]) (by rw [hlf]) (by rw [hlf])
              have s0 := hfin.cell 0
              have s1 := hfin.cell 1
              have s2 := hfin.cell 2
              simp at s0 s1 s2
              exact bodyPost_ret (v := .tuple #[.agg #[.slice A2 rr.length c2, .int .i64 (0), .bool false], .int .i64 0]) (by simp [results, Try.results26, go_sem, s0, s1, s2]) rfl
                ⟨⟨_, left t a, 0, rfl, htu.mono (by simp), .inr (.inr ⟨Hval.out, rfl, a, q, Hqa.out, Hqi.out, rfl⟩)⟩, hbl'⟩
            · have hlb : (t.at_ == (rl : Int)) = false := by simp [hlast]
              have Hlast := Lib.hid hlast
              clear heq hlast
              go_wp2
              have hrl2 := Hrl2.out
              subst hrl2
              have hon5 := Hon3.out.obox ((Touch.refl ob wr).set_ 2 (.bool false)) (at2 := t.at_) (fr2 := false) (by have := Hon3.out.oblk.set_ 2 (.bool false); simpa using this)
              have hlf : left t a = ⟨t.qs.take a ++ t.qs.drop (a + 1), t.at_, false⟩ := by
                unfold left
                have h1 := Heq.out; have h2 := Hlast.out; have h3 := Hrln.out; rw [if_neg (by omega), if_neg (by omega), if_pos h1]
              obtain ⟨htu, hbl', hfin⟩ := hon5.ret Hrm.out (left t a) (by rw [Hrq.out, hlf]) (by rw [hlf]) (by rw [hlf])
              have s0 := hfin.cell 0
              have s1 := hfin.cell 1
              have s2 := hfin.cell 2
              simp at s0 s1 s2
              exact bodyPost_ret (v := .tuple #[.agg #[.slice A2 rr.length c2, .int .i64 (t.at_), .bool false], .int .i64 0]) (by simp [results, Try.results26, go_sem, s0, s1, s2]) rfl
                ⟨⟨_, left t a, 0, rfl, htu.mono (by simp), .inr (.inr ⟨Hval.out, rfl, a, q, Hqa.out, Hqi.out, rfl⟩)⟩, hbl'⟩
          · have hnl : ¬ (a : Int) < t.at_ := by omega
            have heqb : ((a : Int) == t.at_) = false := by simp; omega
            go_wp2
            have hrl2 := Hrl2.out
            subst hrl2
            have hon5 := Hon3.out.obox (Touch.refl ob wr) (at2 := t.at_) (fr2 := t.fr) Hon3.out.oblk
            have hlf : left t a = ⟨t.qs.take a ++ t.qs.drop (a + 1), t.at_, t.fr⟩ := by
              unfold left
              rw [if_neg (by omega), if_neg (by omega), if_neg (by omega)]
            obtain ⟨htu, hbl', hfin⟩ := hon5.ret Hrm.out (left t a) (by rw [Hrq.out, hlf]) (by rw [hlf]) (by rw [hlf])
            have s0 := hfin.cell 0
            have s1 := hfin.cell 1
            have s2 := hfin.cell 2
            simp at s0 s1 s2
            exact bodyPost_ret (v := .tuple #[.agg #[.slice A2 rr.length c2, .int .i64 (t.at_), .bool t.fr], .int .i64 0]) (by simp [results, Try.results26, go_sem, s0, s1, s2]) rfl
              ⟨⟨_, left t a, 0, rfl, htu.mono (by simp), .inr (.inr ⟨Hval.out, rfl, a, q, Hqa.out, Hqi.out, rfl⟩)⟩, hbl'⟩
  · have hval : ¬ Valid t := fun h => hck (chk_zero.2 h)
    have hck2 : (chk t != 0) = true := by simp [hck]
    go_enter Try.func26, Try.ntmps26
    go_upto_region 1 with fail
    have hx := (Boxed.start w A t.qs.length c t.at_ t.fr).alloc (.cells #[.slice none 0 0, .int .i64 0, .bool false] 34)
    have hres := Blk.new (w.alloc (.cells #[.slice A t.qs.length c, .int .i64 t.at_, .bool t.fr] 34)) 34 #[.slice none 0 0, .int .i64 0, .bool false]
    rw [World.size_alloc] at hres
    generalize hW0 : World.alloc (World.alloc _ _) _ = W0
    rw [hW0] at hx hres
    clear hW0
    obtain ⟨x0, x1, x2⟩ := hx.cells
    have HR := Lib.hid hres
    have hxb := hx.below
    have HXB := Lib.hid hxb
    clear hx hres hxb
    go_wp2_with (first
      | (go_at_call 24; refine Calls.mono (hbx _ HXB.out) ?_; rintro e w1 ⟨rfl, hb1⟩; have hr1 := HR.out.below hb1 HR.out.lt; have r0 := hr1.cell 0; have r1 := hr1.cell 1; have r2 := hr1.cell 2; simp at r0 r1 r2; have f0 := hr1.frozen 0; have f1 := hr1.frozen 1; have f2 := hr1.frozen 2; have Hb1 := Lib.hid hb1; clear hr1 hb1))
    obtain ⟨hfin, hbel⟩ := none_ret HXB.out HR.out Hb1.out
    have s0 := hfin.cell 0
    have s1 := hfin.cell 1
    have s2 := hfin.cell 2
    simp at s0 s1 s2
    exact bodyPost_ret (v := .tuple #[.agg #[.slice none 0 0, .int .i64 0, .bool false], .int .i64 (chk t)]) (by simp [results, Try.results26, go_sem, s0, s1, s2]) rfl
      ⟨⟨_, none_, chk t, rfl, none_tu _ _ _, .inl ⟨hval, rfl, rfl⟩⟩, hbel⟩
end Go.Proofs.Ytgbjhkgbjnobcaa
