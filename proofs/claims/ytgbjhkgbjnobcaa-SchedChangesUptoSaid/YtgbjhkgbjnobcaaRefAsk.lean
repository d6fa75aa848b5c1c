/- The walk of the document's Ask. Conditions: the turns are readable, their lists within reach. -/
import Derived.Test.YtgbjhkgbjnobcaaRefPlace
import Derived.Deep.RegionLaw
namespace Go.Proofs.Ytgbjhkgbjnobcaa
open Go.RowKit Trn

theorem Trn.place_ex (qs : List Qu) (id : Int) : ∃ r, PlaceIs qs id r := by
  have : ∀ n : Nat, (∀ (i : Nat) (q : Qu), i < n → qs[i]? = some q → q.id ≠ id) ∨ ∃ (a : Nat) (q : Qu), qs[a]? = some q ∧ q.id = id ∧ ∀ (i : Nat) (q' : Qu), i < a → qs[i]? = some q' → q'.id ≠ id := by
    intro n
    induction n with
    | zero => exact .inl fun i q h => by omega
    | succ n ih =>
      rcases ih with h | h
      · by_cases hq : ∃ q, qs[n]? = some q ∧ q.id = id
        · obtain ⟨q, h1, h2⟩ := hq
          exact .inr ⟨n, q, h1, h2, h⟩
        · refine .inl fun i q hi hq' => ?_
          rcases Nat.lt_or_ge i n with hl | hl
          · exact h i q hl hq'
          · obtain rfl : i = n := by omega
            exact fun e => hq ⟨q, hq', e⟩
      · exact .inr h
  rcases this qs.length with h | ⟨a, q, h1, h2, h3⟩
  · exact ⟨-1, .inl ⟨rfl, fun i q hq => h i q (List.getElem?_eq_some_iff.1 hq).1 hq⟩⟩
  · exact ⟨a, .inr ⟨a, q, rfl, h1, h2, h3⟩⟩
/-- An answer of nothing. -/
theorem none_fin {w wr : World} (hb : Below w.heap.size w wr) (hr : Blk wr (w.heap.size + 1) 34 #[.slice none 0 0, .int .i64 0, .bool false]) :
    Blk (((wr.setCell ⟨w.heap.size + 1, 0, none⟩ (.slice none 0 0)).setCell ⟨w.heap.size + 1, 1, none⟩ (.int .i64 0)).setCell ⟨w.heap.size + 1, 2, none⟩ (.bool false)) (w.heap.size + 1) 34 #[.slice none 0 0, .int .i64 0, .bool false] ∧
    Below w.heap.size w (((wr.setCell ⟨w.heap.size + 1, 0, none⟩ (.slice none 0 0)).setCell ⟨w.heap.size + 1, 1, none⟩ (.int .i64 0)).setCell ⟨w.heap.size + 1, 2, none⟩ (.bool false)) :=
  none_ret hb hr (Below.refl _ _)

set_option maxRecDepth 100000 in
set_option maxHeartbeats 8000000 in
theorem refask_any (v : Value) (t : Tu) (id cost : Int) (w : World) (B : Nat) (hB : B ≤ w.heap.size) (hv : TuAt w B v t) (hr : Reach t) (hlen : t.qs.length * 48 ≤ 140737488355328) :
    Calls Try.prog 27 #[v, .int .i64 id, .int .i64 cost] w fun e w' => (∃ v' t' n, e = .returned (.tuple #[v', .int .i64 n]) ∧ TuOwn w' w.heap.size v' t' ∧ AskOn t id cost t' n) ∧ Below w.heap.size w w' := by
  have Hv := Lib.hid hv
  obtain ⟨A, c, rfl, hlc, hcm, hq⟩ := hv
  clear hq
  have hbx : ∀ w1, Below w.heap.size w w1 → Calls Try.prog 24 #[.agg #[.slice A t.qs.length c, .int .i64 t.at_, .bool t.fr]] w1 fun e w' => e = .returned (.int .i64 (chk t)) ∧ Below w1.heap.size w1 w' := fun w1 hb =>
    refcheck_any _ t w1 B (by have := hb.size; omega) (Hv.out.below (hb.mono hB))
  by_cases hck : chk t = 0
  · have hval := chk_zero.1 hck
    rw [hck] at hbx
    have Hbx := Lib.hid hbx
    clear hbx
    obtain ⟨r, hpl⟩ := place_ex t.qs id
    have hpc : ∀ w1, Below w.heap.size w w1 → Calls Try.prog 42 #[.agg #[.slice A t.qs.length c, .int .i64 t.at_, .bool t.fr], .int .i64 id] w1 fun e w' => e = .returned (.int .i64 r) ∧ Below w1.heap.size w1 w' := fun w1 hb =>
      place_any _ t id w1 B (by have := hb.size; omega) (Hv.out.below (hb.mono hB)) r hpl
    have hcp : ∀ w1, Below w.heap.size w w1 → Calls Try.prog 31 #[.agg #[.slice A t.qs.length c, .int .i64 t.at_, .bool t.fr]] w1 fun e w' => (∃ vq l, e = .returned (.agg #[vq, .int .i64 t.at_, .bool t.fr]) ∧ TQ w' w1.heap.size vq l [] ∧ l.map (·.1) = t.qs ∧ ∀ p ∈ l, p.2.2 = []) ∧ Below w1.heap.size w1 w' := fun w1 hb =>
      refcopied_own _ t w1 B (by have := hb.size; omega) (Hv.out.below (hb.mono hB)) hr hlen
    have Hcp := Lib.hid hcp
    have Hpc := Lib.hid hpc
    have Hval := Lib.hid hval
    clear hcp hpc hval hck
    rcases hpl with ⟨rfl, hno⟩ | ⟨a, q, rfl, hqa, hqi, _⟩
    · have Hno := Lib.hid hno
      clear hno Hcp
      go_enter Try.func27, Try.ntmps27
      go_upto_region 1 with fail
      have hx := (Boxed.start w A t.qs.length c t.at_ t.fr).alloc (.cells #[.slice none 0 0, .int .i64 0, .bool false] 34)
      have hres := Blk.new (w.alloc (.cells #[.slice A t.qs.length c, .int .i64 t.at_, .bool t.fr] 34)) 34 #[.slice none 0 0, .int .i64 0, .bool false]
      rw [World.size_alloc] at hres
      generalize hW0 : World.alloc (World.alloc _ _) _ = W0
      rw [hW0] at hx hres
      clear hW0
      obtain ⟨x0, x1, x2⟩ := hx.cells
      have HX := Lib.hid hx
      have HR := Lib.hid hres
      clear hx hres
      go_wp2_with (first
        | (go_at_call 24; refine Calls.mono (Hbx.out _ HX.out.below) ?_; rintro e w1 ⟨rfl, hb1⟩; have hx1 := HX.out.more hb1; obtain ⟨y0, y1, y2⟩ := hx1.cells; have HX1 := Lib.hid hx1; have Hb1 := Lib.hid hb1; clear hx1 hb1)
        | (go_at_call 42; refine Calls.mono (Hpc.out _ HX1.out.below) ?_; rintro e w2 ⟨rfl, hb2⟩; have hr2 := (HR.out.below Hb1.out HR.out.lt).below hb2 (by have := HR.out.lt; have := Hb1.out.size; omega); have r0 := hr2.cell 0; have r1 := hr2.cell 1; have r2 := hr2.cell 2; simp at r0 r1 r2; have f0 := hr2.frozen 0; have f1 := hr2.frozen 1; have f2 := hr2.frozen 2; have hbz := (HX1.out.more hb2).below; have Hr2 := Lib.hid hr2; have Hbz := Lib.hid hbz; clear hr2 hb2 hbz))
      obtain ⟨hfin, hbel⟩ := none_fin Hbz.out Hr2.out
      have s0 := hfin.cell 0
      have s1 := hfin.cell 1
      have s2 := hfin.cell 2
      simp at s0 s1 s2
      exact bodyPost_ret (v := .tuple #[.agg #[.slice none 0 0, .int .i64 0, .bool false], .int .i64 190]) (by simp [results, Try.results27, go_sem, s0, s1, s2]) rfl
        ⟨⟨_, none_, 190, rfl, none_own _ _, .inr (.inl ⟨Hval.out, Hno.out, rfl, rfl⟩)⟩, hbel⟩
    · have hal := (List.getElem?_eq_some_iff.1 hqa).1
      have hai : (a : Int) < t.qs.length := by omega
      have hq8 := hr q (List.mem_of_getElem? hqa)
      have ha0 : ¬ (a : Int) < 0 := by omega
      have Hqa := Lib.hid hqa
      have Hqi := Lib.hid hqi
      clear hqa hqi
      by_cases hc : 1 ≤ cost ∧ cost ≤ 1048576
      · have hc1 : ¬ cost < 1 := by omega
        have hc2 : ¬ cost > 1048576 := by omega
        have Hc := Lib.hid hc
        clear hc
        obtain ⟨i0, hi, hz0, hz1, hz2⟩ := info_parts info3
        go_enter Try.func27, Try.ntmps27
        go_upto_region 1 with fail
        have hx := (Boxed.start w A t.qs.length c t.at_ t.fr).alloc (.cells #[.slice none 0 0, .int .i64 0, .bool false] 34)
        have hres := Blk.new (w.alloc (.cells #[.slice A t.qs.length c, .int .i64 t.at_, .bool t.fr] 34)) 34 #[.slice none 0 0, .int .i64 0, .bool false]
        rw [World.size_alloc] at hres
        generalize hW0 : World.alloc (World.alloc _ _) _ = W0
        rw [hW0] at hx hres
        clear hW0
        obtain ⟨x0, x1, x2⟩ := hx.cells
        have HX := Lib.hid hx
        have HR := Lib.hid hres
        clear hx hres
        go_upto_region 10 with (first
          | (go_at_call 24; refine Calls.mono (Hbx.out _ HX.out.below) ?_; rintro e w1 ⟨rfl, hb1⟩; have hx1 := HX.out.more hb1; obtain ⟨y0, y1, y2⟩ := hx1.cells; have HX1 := Lib.hid hx1; have Hb1 := Lib.hid hb1; clear hx1 hb1)
          | (go_at_call 42; refine Calls.mono (Hpc.out _ HX1.out.below) ?_; rintro e w2 ⟨rfl, hb2⟩; have hx2 := HX1.out.more hb2; obtain ⟨z0, z1, z2⟩ := hx2.cells; have hr2 := (HR.out.below Hb1.out HR.out.lt).below hb2 (by have := HR.out.lt; have := Hb1.out.size; omega); have HX2 := Lib.hid hx2; have Hr2 := Lib.hid hr2; clear hr2 hb2 hx2)
          | (go_at_call 31; refine Calls.mono (Hcp.out _ HX2.out.below) ?_; rintro e w3 ⟨⟨vq, l, rfl, ho, hl, hsp⟩, hb3⟩; obtain ⟨Av, cv, hvq, _, _⟩ := ho.shape; subst hvq; have Ho := Lib.hid ho; have Hl := Lib.hid hl; have Hsp := Lib.hid hsp; have Hb3 := Lib.hid hb3; clear ho hl hsp hb3))
        have hl3 : l.length = t.qs.length := by rw [← Hl.out, List.length_map]
        have hrn : RN w w3.heap.size (.slice Av l.length cv) l t.at_ t.fr (w3.alloc (.cells #[.slice Av l.length cv, .int .i64 t.at_, .bool t.fr] 34)) := by
          have h1 := HX2.out.below.size
          have h2 := Hb3.out.size
          have h3 := Hr2.out.lt
          exact ⟨(HX2.out.below.trans (Hb3.out.mono h1)).alloc (by omega) _, (Hr2.out.below Hb3.out h3).alloc _, by omega, Blk.new _ _ _, (Ho.out.mono (by omega)).below ((Below.refl _ _).alloc (Nat.le_refl _) _)⟩
        generalize hW3 : World.alloc w3 _ = W3 at *
        clear hW3 Ho Hb3 HX HR HX1 HX2 Hr2 Hb1 x0 x1 x2 y0 y1 y2 z0 z1 z2 Hcp Hbx Hpc
        generalize w3.heap.size = cb at *
        rw [hl3] at hrn ⊢
        obtain ⟨⟨q', u, sp⟩, hp⟩ : ∃ p, l[a]? = some p := ⟨_, List.getElem?_eq_getElem (by omega)⟩
        have hsp0 : sp = [] := Hsp.out _ (List.mem_of_getElem? hp)
        have hqq : q' = q := by
          have := Hqa.out
          rw [← Hl.out, List.getElem?_map, hp] at this
          injection this
        subst hsp0 hqq
        obtain ⟨g, c', hA, _, _, _, _, q3, hfz⟩ := hrn.tq.at_ hp
        have hA' : Av = some ⟨g, 0, none⟩ := by injection hA
        clear hA
        subst hA'
        dsimp only at q3
        have hir : IR W3 (w.heap.size + 2) u q'.cs [] := hrn.tq.own a _ hp
        obtain ⟨Aq, cq, hu, hcq, hcqm⟩ := hir.shape
        subst hu
        have hcq2 : cq ≤ 9223372036854775807 := by unfold maxLen at hcqm; omega
        have z3 := hfz (a * 4 + 3)
        have k0 := hrn.cblk.cell 0
        simp at k0
        have hcl := hrn.cblk.lt
        have hgl : g < W3.heap.size := (hrn.tq.lt (.inl rfl)).2
        have hgc1 : ¬ g = cb := fun e => hrn.tq.ne_blk hrn.cblk (by decide) (by decide) (by rw [← e]; exact .inl rfl)
        have hgc2 : ¬ cb = g := fun e => hgc1 e.symm
        have hne1 : (Value.slice Aq q'.cs.length cq).ownBlock ≠ some cb := hir.ne_blk hrn.cblk (by decide)
        have hne2 : (Value.slice Aq q'.cs.length cq).ownBlock ≠ some g := hrn.tq.ne_g hp rfl
        have hw3 : w.heap.size + 2 ≤ W3.heap.size := by have := hrn.gc; omega
        have Hrn := Lib.hid hrn
        have Hp := Lib.hid hp
        have Hir := Lib.hid hir
        have Hne1 := Lib.hid hne1
        have Hne2 := Lib.hid hne2
        clear hrn hp hir hne1 hne2 hfz hl3 hcqm
        go_cut [] (fun wx => ∃ A' c', RN w cb (.slice (some ⟨g, 0, none⟩) t.qs.length cv) (l.set a ({ q' with cs := q'.cs ++ [cost] }, .slice A' (q'.cs.length + 1) c', [])) t.at_ t.fr wx)
        case first =>
          go_region_law
            (first | (refine step_append_ir _ (by rfl) _ _ _ (by rfl) i0 (.int .i64 0) Try.underlying30 hi hz0 hz1 hz2 rfl (lo := w.heap.size + 2) (v := .slice Aq q'.cs.length cq) (xs := q'.cs) (by rfl) (Hir.out.keep fun b hb => Below.heap_alloc W3.drew _ b (Hir.out.lt hb).2) (by simp; omega) ⟨W3.heap.size, 0, none⟩ 1 1 [cost] (by rfl) (by rfl) (World.news_of_block (heap_alloc_new _ _)) (by unfold maxLen; omega) (by omega) ?_; intro A6 c6 w6 hi6 hg6 hat6 ho6; have e1 := hg6.cell_far ⟨cb, 0, none⟩ (by simp; omega) (fun e => Hne1.out e.symm); have e2 := hg6.cell_far ⟨g, a * 4 + 3, none⟩ (by simp; omega) (fun e => Hne2.out e.symm); have e3 := hg6.frozen_far ⟨g, a * 4 + 3, none⟩ (by simp; omega) (fun e => Hne2.out e.symm); have Hi6 := Lib.hid hi6; have Hg6 := Lib.hid hg6; have Hat6 := Lib.hid hat6; have Ho6 := Lib.hid ho6; clear hi6 hg6 hat6 ho6))
          all_goals (go_wp2; go_meet; (case rel => exact ⟨A6, c6, Hrn.out.put_more ((((Below.refl W3.heap.size W3).alloc (Nat.le_refl _) _)).drew) Hp.out rfl Hi6.out Hg6.out Hat6.out Ho6.out⟩))
        case rest =>
          obtain ⟨A6, c6, hm6⟩ := hcut
          clear q3 z3 k0
          have k0 := hm6.cblk.cell 0
          have k1 := hm6.cblk.cell 1
          have k2 := hm6.cblk.cell 2
          simp at k0 k1 k2
          have r0 := hm6.res.cell 0
          have r1 := hm6.res.cell 1
          have r2 := hm6.res.cell 2
          simp at r0 r1 r2
          have f0 := hm6.res.frozen 0
          have f1 := hm6.res.frozen 1
          have f2 := hm6.res.frozen 2
          have Hm6 := Lib.hid hm6
          clear hm6
          go_wp2
          obtain ⟨htq, hbl', hfin⟩ := Hm6.out.ret (.slice (some ⟨g, 0, none⟩) t.qs.length cv) (.int .i64 t.at_) (.bool t.fr)
          have s0 := hfin.cell 0
          have s1 := hfin.cell 1
          have s2 := hfin.cell 2
          simp at s0 s1 s2
          exact bodyPost_ret (v := .tuple #[.agg #[.slice (some ⟨g, 0, none⟩) t.qs.length cv, .int .i64 t.at_, .bool t.fr], .int .i64 0]) (by simp [results, Try.results27, go_sem, s0, s1, s2]) rfl
            ⟨⟨_, asked t a q' cost, 0, rfl, ⟨_, _, rfl, htq, by rw [List.map_set, Hl.out]; rfl⟩, .inr (.inr (.inr ⟨Hval.out, Hc.out, rfl, a, q', Hqa.out, Hqi.out, rfl⟩))⟩, hbl'⟩
      · have Hc := Lib.hid hc
        have hcc : cost < 1 ∨ (¬ cost < 1 ∧ cost > 1048576) := by omega
        clear hc Hcp
        go_enter Try.func27, Try.ntmps27
        go_upto_region 1 with fail
        have hx := (Boxed.start w A t.qs.length c t.at_ t.fr).alloc (.cells #[.slice none 0 0, .int .i64 0, .bool false] 34)
        have hres := Blk.new (w.alloc (.cells #[.slice A t.qs.length c, .int .i64 t.at_, .bool t.fr] 34)) 34 #[.slice none 0 0, .int .i64 0, .bool false]
        rw [World.size_alloc] at hres
        generalize hW0 : World.alloc (World.alloc _ _) _ = W0
        rw [hW0] at hx hres
        clear hW0
        obtain ⟨x0, x1, x2⟩ := hx.cells
        have HX := Lib.hid hx
        have HR := Lib.hid hres
        have Hcc := Lib.hid hcc
        clear hx hres hcc
        go_upto_region 7 with (first
          | (go_at_call 24; refine Calls.mono (Hbx.out _ HX.out.below) ?_; rintro e w1 ⟨rfl, hb1⟩; have hx1 := HX.out.more hb1; obtain ⟨y0, y1, y2⟩ := hx1.cells; have HX1 := Lib.hid hx1; have Hb1 := Lib.hid hb1; clear hx1 hb1)
          | (go_at_call 42; refine Calls.mono (Hpc.out _ HX1.out.below) ?_; rintro e w2 ⟨rfl, hb2⟩; have hr2 := (HR.out.below Hb1.out HR.out.lt).below hb2 (by have := HR.out.lt; have := Hb1.out.size; omega); have r0 := hr2.cell 0; have r1 := hr2.cell 1; have r2 := hr2.cell 2; simp at r0 r1 r2; have f0 := hr2.frozen 0; have f1 := hr2.frozen 1; have f2 := hr2.frozen 2; have hbz := (HX1.out.more hb2).below; have Hr2 := Lib.hid hr2; have Hbz := Lib.hid hbz; clear hr2 hb2 hbz))
        obtain ⟨hfin, hbel⟩ := none_fin Hbz.out Hr2.out
        have s0 := hfin.cell 0
        have s1 := hfin.cell 1
        have s2 := hfin.cell 2
        simp at s0 s1 s2
        have Hbel := Lib.hid hbel
        clear hbel hfin
        rcases Hcc.out with h1 | ⟨h1, h2⟩
        · go_wp2
          exact bodyPost_ret (v := .tuple #[.agg #[.slice none 0 0, .int .i64 0, .bool false], .int .i64 191]) (by simp [results, Try.results27, go_sem, s0, s1, s2]) rfl
            ⟨⟨_, none_, 191, rfl, none_own _ _, .inr (.inr (.inl ⟨Hval.out, ⟨a, q, Hqa.out, Hqi.out⟩, Hc.out, rfl, rfl⟩))⟩, Hbel.out⟩
        · go_wp2
          exact bodyPost_ret (v := .tuple #[.agg #[.slice none 0 0, .int .i64 0, .bool false], .int .i64 191]) (by simp [results, Try.results27, go_sem, s0, s1, s2]) rfl
            ⟨⟨_, none_, 191, rfl, none_own _ _, .inr (.inr (.inl ⟨Hval.out, ⟨a, q, Hqa.out, Hqi.out⟩, Hc.out, rfl, rfl⟩))⟩, Hbel.out⟩
  · have hval : ¬ Valid t := fun h => hck (chk_zero.2 h)
    have hck2 : (chk t != 0) = true := by simp [hck]
    go_enter Try.func27, Try.ntmps27
    go_upto_region 1 with fail
    have hx := (Boxed.start w A t.qs.length c t.at_ t.fr).alloc (.cells #[.slice none 0 0, .int .i64 0, .bool false] 34)
    have hres := Blk.new (w.alloc (.cells #[.slice A t.qs.length c, .int .i64 t.at_, .bool t.fr] 34)) 34 #[.slice none 0 0, .int .i64 0, .bool false]
    rw [World.size_alloc] at hres
    generalize hW0 : World.alloc (World.alloc _ _) _ = W0
    rw [hW0] at hx hres
    clear hW0
    obtain ⟨x0, x1, x2⟩ := hx.cells
    have HR := Lib.hid hres
    have hxb := hx.below
    have HXB := Lib.hid hxb
    clear hx hres hxb
    go_wp2_with (first
      | (go_at_call 24; refine Calls.mono (hbx _ HXB.out) ?_; rintro e w1 ⟨rfl, hb1⟩; have hr1 := HR.out.below hb1 HR.out.lt; have r0 := hr1.cell 0; have r1 := hr1.cell 1; have r2 := hr1.cell 2; simp at r0 r1 r2; have f0 := hr1.frozen 0; have f1 := hr1.frozen 1; have f2 := hr1.frozen 2; have Hb1 := Lib.hid hb1; clear hr1 hb1))
    obtain ⟨hfin, hbel⟩ := none_ret HXB.out HR.out Hb1.out
    have s0 := hfin.cell 0
    have s1 := hfin.cell 1
    have s2 := hfin.cell 2
    simp at s0 s1 s2
    exact bodyPost_ret (v := .tuple #[.agg #[.slice none 0 0, .int .i64 0, .bool false], .int .i64 (chk t)]) (by simp [results, Try.results27, go_sem, s0, s1, s2]) rfl
      ⟨⟨_, none_, chk t, rfl, none_own _ _, .inl ⟨hval, rfl, rfl⟩⟩, hbel⟩
end Go.Proofs.Ytgbjhkgbjnobcaa
