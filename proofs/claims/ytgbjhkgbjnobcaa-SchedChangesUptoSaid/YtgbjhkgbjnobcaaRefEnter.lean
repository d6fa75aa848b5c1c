/- The walk of the document's Enter. Conditions: the turns are readable, their lists and numbers within reach. -/
import Derived.Test.YtgbjhkgbjnobcaaRefLeave
import Derived.Test.YtgbjhkgbjnobcaaEnterOwn
import Derived.Deep.CutBlock
namespace Go.Proofs.Ytgbjhkgbjnobcaa
open Go.RowKit Trn

set_option maxRecDepth 100000 in
set_option maxHeartbeats 16000000 in
theorem refenter_any (v : Value) (t : Tu) (id quantum : Int) (w : World) (B : Nat) (hB : B ≤ w.heap.size) (hv : TuAt w B v t) (hr : Reach t) (hids : Ids t) (hlen : t.qs.length * 48 ≤ 140737488355328) :
    Calls Try.prog 25 #[v, .int .i64 id, .int .i64 quantum] w fun e w' => (∃ v' t' n, e = .returned (.tuple #[v', .int .i64 n]) ∧ TuNew w' w.heap.size w'.heap.size v' t' ∧ EnterIs t id quantum t' n) ∧ Below w.heap.size w w' := by
  have Hv := Lib.hid hv
  obtain ⟨A, c, rfl, hlc, hcm, hq⟩ := hv
  clear hq
  have hbx : ∀ w1, Below w.heap.size w w1 → Calls Try.prog 24 #[.agg #[.slice A t.qs.length c, .int .i64 t.at_, .bool t.fr]] w1 fun e w' => e = .returned (.int .i64 (chk t)) ∧ Below w1.heap.size w1 w' := fun w1 hb =>
    refcheck_any _ t w1 B (by have := hb.size; omega) (Hv.out.below (hb.mono hB))
  by_cases hck : chk t = 0
  · have hval := chk_zero.1 hck
    rw [hck] at hbx
    have Hbx := Lib.hid hbx
    clear hbx
    obtain ⟨r, hpl⟩ := place_ex t.qs id
    have hpc : ∀ w1, Below w.heap.size w w1 → Calls Try.prog 42 #[.agg #[.slice A t.qs.length c, .int .i64 t.at_, .bool t.fr], .int .i64 id] w1 fun e w' => e = .returned (.int .i64 r) ∧ Below w1.heap.size w1 w' := fun w1 hb =>
      place_any _ t id w1 B (by have := hb.size; omega) (Hv.out.below (hb.mono hB)) r hpl
    have hcp : ∀ w1, Below w.heap.size w w1 → Calls Try.prog 31 #[.agg #[.slice A t.qs.length c, .int .i64 t.at_, .bool t.fr]] w1 fun e w' => (∃ vq l, e = .returned (.agg #[vq, .int .i64 t.at_, .bool t.fr]) ∧ TQ w' w1.heap.size vq l [] ∧ l.map (·.1) = t.qs ∧ ∀ p ∈ l, p.2.2 = []) ∧ Below w1.heap.size w1 w' := fun w1 hb =>
      refcopied_own _ t w1 B (by have := hb.size; omega) (Hv.out.below (hb.mono hB)) hr hlen
    have Hcp := Lib.hid hcp
    have Hpc := Lib.hid hpc
    have hn32 := hval.len
    have hat := hval.at_
    have hasc := asc_of hval hids
    have Hval := Lib.hid hval
    have Hasc := Lib.hid hasc
    clear hcp hpc hval hck hasc
    by_cases hcm : comes t id quantum
    · obtain ⟨p, hsp⟩ := spot_ex Hasc.out hcm.2.1
      have hr1 : r = -1 := by
        rcases hpl with ⟨e, _⟩ | ⟨a, q, _, h1, h2, _⟩
        · exact e
        · exact absurd h2 (hcm.2.1 a q h1)
      subst hr1
      have h32 := hcm.2.2.1
      have hn31 : ¬ (32 : Int) ≤ t.qs.length := by omega
      have hi0 : ¬ id < 0 := by have := hcm.1; omega
      have hq1 : ¬ quantum < 1 := by have := hcm.2.2.2.1; omega
      have hq2 : ¬ quantum > 65536 := by have := hcm.2.2.2.2; omega
      have hpn := hsp.le
      have Hcm := Lib.hid hcm
      have Hspot := Lib.hid hsp
      clear hcm hsp hpl
      obtain ⟨i1, hi', hz0', hz1', hz2'⟩ := info_parts info51
      go_enter Try.func25, Try.ntmps25
      go_upto_region 1 with fail
      have hx := (Boxed.start w A t.qs.length c t.at_ t.fr).alloc (.cells #[.slice none 0 0, .int .i64 0, .bool false] 34)
      have hres := Blk.new (w.alloc (.cells #[.slice A t.qs.length c, .int .i64 t.at_, .bool t.fr] 34)) 34 #[.slice none 0 0, .int .i64 0, .bool false]
      rw [World.size_alloc] at hres
      generalize hW0 : World.alloc (World.alloc _ _) _ = W0
      rw [hW0] at hx hres
      clear hW0
      obtain ⟨x0, x1, x2⟩ := hx.cells
      have HX := Lib.hid hx
      have HR := Lib.hid hres
      clear hx hres
      go_upto_region 7 with (first
        | (go_at_call 24; refine Calls.mono (Hbx.out _ HX.out.below) ?_; rintro e w1 ⟨rfl, hb1⟩; have hx1 := HX.out.more hb1; obtain ⟨y0, y1, y2⟩ := hx1.cells; have HX1 := Lib.hid hx1; have Hb1 := Lib.hid hb1; clear hx1 hb1)
        | (go_at_call 42; refine Calls.mono (Hpc.out _ HX1.out.below) ?_; rintro e w2 ⟨rfl, hb2⟩; have hx2 := HX1.out.more hb2; obtain ⟨z0, z1, z2⟩ := hx2.cells; have hr2 := (HR.out.below Hb1.out HR.out.lt).below hb2 (by have := HR.out.lt; have := Hb1.out.size; omega); have HX2 := Lib.hid hx2; have Hr2 := Lib.hid hr2; clear hr2 hb2 hx2)
        | (go_at_call 31; refine Calls.mono (Hcp.out _ HX2.out.below) ?_; rintro e w3 ⟨⟨vq, l, rfl, ho, hl, hsp⟩, hb3⟩; obtain ⟨Av, cv, hvq, _, _⟩ := ho.shape; subst hvq; have Ho := Lib.hid ho; have Hl := Lib.hid hl; have Hsp := Lib.hid hsp; have Hb3 := Lib.hid hb3; clear ho hl hsp hb3))
      have hl3 : l.length = t.qs.length := by rw [← Hl.out, List.length_map]
      have hrn : RN w w3.heap.size (.slice Av l.length cv) l t.at_ t.fr (w3.alloc (.cells #[.slice Av l.length cv, .int .i64 t.at_, .bool t.fr] 34)) := by
        have h1 := HX2.out.below.size
        have h2 := Hb3.out.size
        have h3 := Hr2.out.lt
        exact ⟨(HX2.out.below.trans (Hb3.out.mono h1)).alloc (by omega) _, (Hr2.out.below Hb3.out h3).alloc _, by omega, Blk.new _ _ _, (Ho.out.mono (by omega)).below ((Below.refl _ _).alloc (Nat.le_refl _) _)⟩
      have hx3 := (HX2.out.more Hb3.out).alloc (.cells #[.slice Av l.length cv, .int .i64 t.at_, .bool t.fr] 34)
      generalize hW3 : World.alloc w3 _ = W3 at *
      clear hW3 Ho Hb3 HX HR HX1 HX2 Hr2 Hb1 x0 x1 x2 y0 y1 y2 z0 z1 z2 Hcp Hbx Hpc
      generalize w3.heap.size = cb at *
      rw [hl3] at hrn ⊢
      obtain ⟨x0, x1, x2⟩ := hx3.cells
      have hbo := (Below.refl W3.heap.size W3).alloc (Nat.le_refl _) (.cells #[.slice none 0 0, .int .i64 t.at_, .bool t.fr] 34)
      have hcl := hrn.cblk.lt
      have hgcx := hrn.gc
      have hon : ON w cb W3.heap.size (.slice Av t.qs.length cv) l t.at_ t.fr (.slice none 0 0) [] t.at_ t.fr (W3.alloc (.cells #[.slice none 0 0, .int .i64 t.at_, .bool t.fr] 34)) :=
        ⟨hrn.more hbo, by omega, Blk.new _ _ _, World.ownsRow_nil _ _ _ _, (fun b hb => by cases hb), by omega⟩
      have hx4 := hx3.alloc (.cells #[.slice none 0 0, .int .i64 t.at_, .bool t.fr] 34)
      have Hon := Lib.hid hon
      have HX4 := Lib.hid hx4
      have Hl3 := Lib.hid hl3
      clear hrn hx3 hbo hon hx4 hl3 hcl hgcx
      go_upto_region 8 with fail
      generalize hW4 : World.alloc W3 _ = W4 at *
      clear hW4 x0 x1 x2
      generalize W3.heap.size = ob at *
      go_upto_block 0 with fail
      go_cut [11] (fun vi wx => ∃ (A2 : Option Addr) (c2 : Nat) (lo : List QV), vi = .int .i64 (p : Nat) ∧ lo = l.take p ∧ ON w cb ob (.slice Av t.qs.length cv) l t.at_ t.fr (.slice A2 lo.length c2) lo t.at_ t.fr wx ∧ Blk wx w.heap.size 34 #[.slice A t.qs.length c, .int .i64 t.at_, .bool t.fr])
      case first =>
        go_wp2_with fail
        go_loopg [11] p (fun g2 vi wr => ∃ (k : Nat) (A2 : Option Addr) (c2 : Nat) (lo : List QV), g2 + k = p ∧ vi = .int .i64 (k : Nat) ∧ lo = l.take k ∧ ON w cb ob (.slice Av t.qs.length cv) l t.at_ t.fr (.slice A2 lo.length c2) lo t.at_ t.fr wr ∧ Blk wr w.heap.size 34 #[.slice A t.qs.length c, .int .i64 t.at_, .bool t.fr])
        case atStart => exact ⟨0, none, 0, [], by omega, rfl, by simp, Hon.out, HX4.out.box⟩
        case round =>
          obtain ⟨k, A2, c2, lo, hk, rfl, hlo, hon, hxb⟩ := hrel
          have hkn : k ≤ p := by omega
          have Hk := Lib.hid hk
          have Hon2 := Lib.hid hon
          have Hxb := Lib.hid hxb
          have Hlo := Lib.hid hlo
          have k0 := hon.rn.cblk.cell 0
          simp at k0
          have hrl : lo.length ≤ k := by rw [hlo]; simp; omega
          by_cases hkp : k < p
          · have hkl : k < t.qs.length := by omega
            have hki : (k : Int) < t.qs.length := by omega
            obtain ⟨⟨q2, u, sp⟩, hp⟩ : ∃ p, l[k]? = some p := ⟨_, List.getElem?_eq_getElem (by rw [Hl3.out]; exact hkl)⟩
            have hsp0 : sp = [] := Hsp.out _ (List.mem_of_getElem? hp)
            subst hsp0
            obtain ⟨g, c', hA, _, q0, q1, q3, q4, _⟩ := hon.rn.tq.at_ hp
            have hA' : Av = some ⟨g, 0, none⟩ := by injection hA
            clear hA
            subst hA'
            dsimp only at q0 q1 q3 q4
            have hir : IR wr (w.heap.size + 2) u q2.cs [] := hon.rn.tq.own k _ hp
            obtain ⟨Aq, cq, hu, _, _⟩ := hir.shape
            subst hu
            have o0 := hon.oblk.cell 0
            simp at o0
            have of0 := hon.oblk.frozen 0
            have hcl := hon.rn.cblk.lt
            have hol := hon.oblk.lt
            have hne := hon.ne
            have hn1 : ¬ cb = ob := hne
            have hn2 : ¬ ob = cb := fun e => hne e.symm
            have hgl : g < wr.heap.size := (hon.rn.tq.lt (.inl rfl)).2
            have hvn := row_ne hon.row hon.oblk (by decide)
            have hw2 : w.heap.size + 2 ≤ wr.heap.size := by have := hon.rn.gc; omega
            have hlt : q2.id < id := Hspot.out.below k q2 hkp (by rw [← Hl.out, List.getElem?_map, hp]; rfl)
            have Hp := Lib.hid hp
            have Hvn := Lib.hid hvn
            have Hrow := Lib.hid hon.row
            have Hrl := Lib.hid hrl
            clear hk hon hxb hp hir hvn hne hlo hrl
            go_upto_region 10 with fail
            have hrl := Hrl.out
            go_region_law
              (first | (refine step_append_lies _ (by rfl) _ _ _ (by rfl) (w.heap.size + 2) 51 i1 (.agg #[.int .i64 0, .int .i64 0, .int .i64 0, .slice none 0 0]) 4 48 Try.underlying32 hi' hz0' hz1' hz2' rfl (by decide) (.slice A2 lo.length c2) lo.length (flat (lo.map qrow)) (by rfl) (row_keep Hrow.out fun b hb => Below.heap_alloc wr.drew _ b (Hrow.out.lt b hb).2) ⟨wr.heap.size, 0, none⟩ 1 1 (flat [qrow (q2, .slice Aq q2.cs.length cq, [])]) (by rfl) (by rfl) (World.news_of_block (heap_alloc_new _ _)) (by simp [flat, qrow, row, Value.oneCell']) (by decide) (by unfold maxLen; omega) (by omega) (by simp; omega) _ rfl ?_; intro g9 cap9 w9 hown9 hgr9 hat9 hlt9; have e1 := hgr9.cell_far ⟨ob, 0, none⟩ (by simp; omega) (fun e => Hvn.out e.symm); have e2 := hgr9.frozen_far ⟨ob, 0, none⟩ (by simp; omega) (fun e => Hvn.out e.symm); have Hown9 := Lib.hid hown9; have Hgr9 := Lib.hid hgr9; have Hat9 := Lib.hid hat9; clear hown9 hgr9 hat9))
            all_goals
              go_wp2
              have hk := Hk.out
              have hba : Below wr.heap.size wr (wr.alloc (.cells #[.int .i64 q2.id, .int .i64 q2.qu, .int .i64 q2.de, .slice Aq q2.cs.length cq] 51)).drew := ((Below.refl wr.heap.size wr).alloc (Nat.le_refl _) _).drew
              have hon3 := Hon2.out.add hba (q2, .slice Aq q2.cs.length cq, []) Hown9.out Hgr9.out Hat9.out
              have hxb3 := Hon2.out.keepBlk hba Hgr9.out Hxb.out (by decide) (by have := Hon2.out.go_; omega) (.slice (some ⟨g9, 0, none⟩) (lo.length + 1) cap9)
              have hll : (lo ++ [((q2, .slice Aq q2.cs.length cq, []) : QV)]).length = lo.length + 1 := by simp
              go_roundg (gk - 1)
              case measure => omega
              case rel => exact ⟨k + 1, some ⟨g9, 0, none⟩, cap9, lo ++ [(q2, .slice Aq q2.cs.length cq, [])], by omega, by go_num, by rw [Hlo.out, List.take_add_one, Hp.out]; rfl, by rw [hll]; exact hon3, hxb3⟩
          · have hke : k = p := by omega
            subst hke
            by_cases hkl : k < t.qs.length
            · have hki : (k : Int) < t.qs.length := by omega
              obtain ⟨⟨q2, u, sp⟩, hp⟩ : ∃ p, l[k]? = some p := ⟨_, List.getElem?_eq_getElem (by rw [Hl3.out]; exact hkl)⟩
              obtain ⟨g, c', hA, _, q0, q1, q3, q4, _⟩ := hon.rn.tq.at_ hp
              have hA' : Av = some ⟨g, 0, none⟩ := by injection hA
              clear hA
              subst hA'
              dsimp only at q0
              have hge : ¬ q2.id < id := by
                have := Hspot.out.above k q2 (Nat.le_refl _) (by rw [← Hl.out, List.getElem?_map, hp]; rfl)
                omega
              clear hk hon hxb hp hlo hrl q1 q3 q4
              go_wp2
              go_meet
              case rel => exact ⟨A2, c2, lo, rfl, Hlo.out, Hon2.out, Hxb.out⟩
            · have hki : ¬ (k : Int) < t.qs.length := by omega
              clear hk hon hxb hlo hrl
              go_wp2
              go_meet
              case rel => exact ⟨A2, c2, lo, rfl, Hlo.out, Hon2.out, Hxb.out⟩
      case rest =>
        obtain ⟨A2, c2, lo, rfl, hlo, hon, hxb⟩ := hcut
        have hat2 := hat
        obtain ⟨hat0, hat1, _⟩ := hat2
        have hrl : lo.length ≤ p := by rw [hlo]; simp; omega
        have k0 := hon.rn.cblk.cell 0
        simp at k0
        have x1 := hxb.cell 1
        simp at x1
        have o1 := hon.oblk.cell 1
        simp at o1
        have of1 := hon.oblk.frozen 1
        have Hon2 := Lib.hid hon
        have Hxb := Lib.hid hxb
        have HloP := Lib.hid hlo
        have hgo := hon.go_
        have hne := hon.ne
        have n1 : ¬ ob = w.heap.size := by omega
        have n2 : ¬ w.heap.size = ob := by omega
        have n3 : ¬ cb = ob := hne
        clear hon hxb hlo hne
        go_upto_region 12 with fail
        go_cut [84] (fun s84 wx => s84 = .bool (decide (0 < t.qs.length ∧ (p : Int) ≤ t.at_)) ∧ wc = wx)
        case first =>
          by_cases hge : 0 < t.qs.length ∧ (p : Int) ≤ t.at_
          · have e1 : (t.qs.length : Int) > 0 := by omega
            have e2 : (p : Int) ≤ t.at_ := hge.2
            have Hge := Lib.hid hge
            clear hge
            go_wp2
            go_meet
            case rel => exact ⟨by rw [decide_eq_true Hge.out] <;> first | rfl | (simp <;> omega), rfl⟩
          · have Hge := Lib.hid hge
            by_cases e1 : (t.qs.length : Int) > 0
            · have e2 : ¬ (p : Int) ≤ t.at_ := fun h => hge ⟨by omega, h⟩
              clear hge
              go_wp2
              go_meet
              case rel => exact ⟨by rw [decide_eq_false Hge.out] <;> first | rfl | (simp <;> omega), rfl⟩
            · clear hge
              go_wp2
              go_meet
              case rel => exact ⟨by rw [decide_eq_false Hge.out] <;> first | rfl | (simp <;> omega), rfl⟩
        case rest =>
        obtain ⟨rfl, hwc⟩ := hcut
        subst hwc
        obtain ⟨b84, hb84⟩ : ∃ b : Bool, b = decide (0 < t.qs.length ∧ (p : Int) ≤ t.at_) := ⟨_, rfl⟩
        rw [← hb84]
        have Hb84 := Lib.hid hb84
        clear hb84
        go_upto_if 84 with fail
        go_cut [] (fun wx => ∃ at6 : Int, at6 = (entered t p id quantum).at_ ∧ ON w cb ob (.slice Av t.qs.length cv) l t.at_ t.fr (.slice A2 lo.length c2) lo at6 t.fr wx ∧ Blk wx w.heap.size 34 #[.slice A t.qs.length c, .int .i64 t.at_, .bool t.fr])
        case first =>
          cases b84 with
          | true =>
            have hge : 0 < t.qs.length ∧ (p : Int) ≤ t.at_ := of_decide_eq_true Hb84.out.symm
            have e3 : IntKind.i64.wrap (t.at_ + 1) = t.at_ + 1 := by rw [IntKind.wrap_i64]; omega
            have Hge := Lib.hid hge
            clear hge
            go_wp2
            go_meet
            case rel =>
              have h5 := Hon2.out.obox ((Touch.refl ob wc).set_ 1 (.int .i64 (t.at_ + 1))) (at2 := t.at_ + 1) (fr2 := t.fr) (by have := Hon2.out.oblk.set_ 1 (.int .i64 (t.at_ + 1)); simpa using this)
              exact ⟨t.at_ + 1, by unfold entered; rw [if_pos Hge.out], h5, Hxb.out.far (p := ⟨ob, 1, none⟩) n2 _⟩
          | false =>
            have hge : ¬ (0 < t.qs.length ∧ (p : Int) ≤ t.at_) := of_decide_eq_false Hb84.out.symm
            have Hge := Lib.hid hge
            clear hge
            go_wp2
            go_meet
            case rel => exact ⟨t.at_, by unfold entered; rw [if_neg Hge.out], Hon2.out, Hxb.out⟩
        case rest =>
          obtain ⟨at6, hat6, hon, hxb⟩ := hcut
          clear x1 o1 of1 Hon2 Hxb
          have k0 := hon.rn.cblk.cell 0
          simp at k0
          have o0 := hon.oblk.cell 0
          simp at o0
          have of0 := hon.oblk.frozen 0
          have Hon3 := Lib.hid hon
          have Hxb3 := Lib.hid hxb
          have Hat6 := Lib.hid hat6
          have hol := hon.oblk.lt
          have hcl := hon.rn.cblk.lt
          have hw2 : w.heap.size + 2 ≤ wc.heap.size := by have := hon.rn.gc; omega
          have hvn := row_ne hon.row hon.oblk (by decide)
          have hvn2 := row_ne hon.row hon.rn.cblk (by decide)
          have Hvn := Lib.hid hvn
          have Hvn2 := Lib.hid hvn2
          have Hrow := Lib.hid hon.row
          clear hon hxb hat6 hvn hvn2
          go_upto_region 15 with (first
            | (at_builtin; refine wpList_append_lies _ rfl _ _ 32 rfl (w.heap.size + 2) 51 i1 (.agg #[.int .i64 0, .int .i64 0, .int .i64 0, .slice none 0 0]) 4 48 Try.underlying32 hi' hz0' hz1' hz2' rfl (by decide) (.slice A2 lo.length c2) lo.length (flat (lo.map qrow)) rfl (World.ownsRow.alloc Hrow.out _) ⟨wc.heap.size, 0, none⟩ 1 1 (flat [qrow (⟨id, quantum, 0, []⟩, .slice none 0 0, [])]) rfl rfl (World.news_of_block (heap_alloc_new _ _)) (by simp [flat, qrow, row, Value.oneCell']) (by decide) (by unfold maxLen; omega) (by omega) (by simp; omega) _ rfl ?_; intro g9 cap9 w9 hown9 hgr9 hat9 hlt9; have e1 := hgr9.cell_far ⟨ob, 0, none⟩ (by simp; omega) (fun e => Hvn.out e.symm); have e2 := hgr9.frozen_far ⟨ob, 0, none⟩ (by simp; omega) (fun e => Hvn.out e.symm); have Hown9 := Lib.hid hown9; have Hgr9 := Lib.hid hgr9; have Hat9 := Lib.hid hat9; clear hown9 hgr9 hat9))
          have hb5 := (Below.refl wc.heap.size wc).alloc (Nat.le_refl _) (.cells #[.int .i64 id, .int .i64 quantum, .int .i64 0, .slice none 0 0] 51)
          have hon5 := Hon3.out.add hb5 ((⟨id, quantum, 0, []⟩ : Qu), .slice none 0 0, []) Hown9.out Hgr9.out Hat9.out
          have hxb5 := Hon3.out.keepBlk hb5 Hgr9.out Hxb3.out (by decide) (by omega) (.slice (some ⟨g9, 0, none⟩) (lo.length + 1) cap9)
          have hll5 : (lo ++ [(((⟨id, quantum, 0, []⟩ : Qu), .slice none 0 0, []) : QV)]).length = lo.length + 1 := by simp
          generalize hW5 : World.setCell w9 _ _ = w5 at *
          rw [← hll5] at hon5
          clear hW5 e1 e2 o0 of0 k0 Hown9 Hgr9 Hat9 Hrow Hvn Hvn2 hb5
          have hlo5 : ∃ lo5 : List QV, lo5 = lo ++ [((⟨id, quantum, 0, []⟩ : Qu), .slice none 0 0, [])] := ⟨_, rfl⟩
          obtain ⟨lo5, hlo5⟩ := hlo5
          rw [← hlo5] at hon5
          have hl5p : lo5.length ≤ p + 1 := by rw [hlo5, hll5]; omega
          have Hon5 := Lib.hid hon5
          have Hxb5 := Lib.hid hxb5
          have Hlo5 := Lib.hid hlo5
          clear hon5 hxb5 hlo5 hll5 Hon3 Hxb3
          go_wp2
          go_loopg [11] (t.qs.length - p) (fun g2 vi wr => ∃ (k : Nat) (A2 : Option Addr) (c2 : Nat) (lo : List QV), g2 + k = t.qs.length ∧ p ≤ k ∧ vi = .int .i64 (k : Nat) ∧ lo = lo5 ++ (l.take k).drop p ∧ ON w cb ob (.slice Av t.qs.length cv) l t.at_ t.fr (.slice A2 lo.length c2) lo at6 t.fr wr ∧ Blk wr w.heap.size 34 #[.slice A t.qs.length c, .int .i64 t.at_, .bool t.fr])
          case atStart => exact ⟨p, some ⟨g9, 0, none⟩, cap9, lo5, by omega, Nat.le_refl _, rfl, by rw [List.drop_eq_nil_of_le (by simp; omega), List.append_nil], Hon5.out, Hxb5.out⟩
          case round =>
            obtain ⟨k, A2, c2, lo, hk, hpk, rfl, hlo, hon, hxb⟩ := hrel
            have hkn : k ≤ t.qs.length := by omega
            have Hk := Lib.hid hk
            have Hon2 := Lib.hid hon
            have Hxb := Lib.hid hxb
            have Hlo := Lib.hid hlo
            have k0 := hon.rn.cblk.cell 0
            simp at k0
            have hrl : lo.length ≤ k + 1 := by rw [hlo]; simp; omega
            by_cases hkl : k < t.qs.length
            · have hki : (k : Int) < t.qs.length := by omega
              obtain ⟨⟨q2, u, sp⟩, hp⟩ : ∃ p, l[k]? = some p := ⟨_, List.getElem?_eq_getElem (by rw [Hl3.out]; exact hkl)⟩
              have hsp0 : sp = [] := Hsp.out _ (List.mem_of_getElem? hp)
              subst hsp0
              obtain ⟨g, c', hA, _, q0, q1, q3, q4, _⟩ := hon.rn.tq.at_ hp
              have hA' : Av = some ⟨g, 0, none⟩ := by injection hA
              clear hA
              subst hA'
              dsimp only at q0 q1 q3 q4
              have hir : IR wr (w.heap.size + 2) u q2.cs [] := hon.rn.tq.own k _ hp
              obtain ⟨Aq, cq, hu, _, _⟩ := hir.shape
              subst hu
              have o0 := hon.oblk.cell 0
              simp at o0
              have of0 := hon.oblk.frozen 0
              have hcl := hon.rn.cblk.lt
              have hol := hon.oblk.lt
              have hne := hon.ne
              have hn1 : ¬ cb = ob := hne
              have hn2 : ¬ ob = cb := fun e => hne e.symm
              have hgl : g < wr.heap.size := (hon.rn.tq.lt (.inl rfl)).2
              have hvn := row_ne hon.row hon.oblk (by decide)
              have hw2 : w.heap.size + 2 ≤ wr.heap.size := by have := hon.rn.gc; omega
              have Hp := Lib.hid hp
              have Hvn := Lib.hid hvn
              have Hrow := Lib.hid hon.row
              have Hrl := Lib.hid hrl
              clear hk hon hxb hp hir hvn hne hlo hrl
              go_upto_region 16 with fail
              have hrl := Hrl.out
              go_region_law
                (first | (refine step_append_lies _ (by rfl) _ _ _ (by rfl) (w.heap.size + 2) 51 i1 (.agg #[.int .i64 0, .int .i64 0, .int .i64 0, .slice none 0 0]) 4 48 Try.underlying32 hi' hz0' hz1' hz2' rfl (by decide) (.slice A2 lo.length c2) lo.length (flat (lo.map qrow)) (by rfl) (row_keep Hrow.out fun b hb => Below.heap_alloc wr.drew _ b (Hrow.out.lt b hb).2) ⟨wr.heap.size, 0, none⟩ 1 1 (flat [qrow (q2, .slice Aq q2.cs.length cq, [])]) (by rfl) (by rfl) (World.news_of_block (heap_alloc_new _ _)) (by simp [flat, qrow, row, Value.oneCell']) (by decide) (by unfold maxLen; omega) (by omega) (by simp; omega) _ rfl ?_; intro g9 cap9 w9 hown9 hgr9 hat9 hlt9; have e1 := hgr9.cell_far ⟨ob, 0, none⟩ (by simp; omega) (fun e => Hvn.out e.symm); have e2 := hgr9.frozen_far ⟨ob, 0, none⟩ (by simp; omega) (fun e => Hvn.out e.symm); have Hown9 := Lib.hid hown9; have Hgr9 := Lib.hid hgr9; have Hat9 := Lib.hid hat9; clear hown9 hgr9 hat9))
              all_goals
                go_wp2
                have hk := Hk.out
                have hba : Below wr.heap.size wr (wr.alloc (.cells #[.int .i64 q2.id, .int .i64 q2.qu, .int .i64 q2.de, .slice Aq q2.cs.length cq] 51)).drew := ((Below.refl wr.heap.size wr).alloc (Nat.le_refl _) _).drew
                have hon3 := Hon2.out.add hba (q2, .slice Aq q2.cs.length cq, []) Hown9.out Hgr9.out Hat9.out
                have hxb3 := Hon2.out.keepBlk hba Hgr9.out Hxb.out (by decide) (by have := Hon2.out.go_; omega) (.slice (some ⟨g9, 0, none⟩) (lo.length + 1) cap9)
                have hll : (lo ++ [((q2, .slice Aq q2.cs.length cq, []) : QV)]).length = lo.length + 1 := by simp
                go_roundg (gk - 1)
                case measure => omega
                case rel => exact ⟨k + 1, some ⟨g9, 0, none⟩, cap9, lo ++ [(q2, .slice Aq q2.cs.length cq, [])], by omega, by omega, by go_num, by rw [Hlo.out, List.take_add_one, Hp.out, List.drop_append_of_le_length (by simp; rw [Hl3.out]; omega), ← List.append_assoc]; rfl, by rw [hll]; exact hon3, hxb3⟩
            · have hki : ¬ (k : Int) < t.qs.length := by omega
              have hke : k = l.length := by rw [Hl3.out]; omega
              have hloe : lo = lo5 ++ l.drop p := by rw [hlo, hke, List.take_length]
              have hqs : lo.map (·.1) = (entered t p id quantum).qs := by
                rw [hloe, Hlo5.out]
                simp only [List.map_append, List.map_cons, List.map_drop, Hl.out, List.append_assoc, List.singleton_append, entered]
                rw [HloP.out, List.map_take, Hl.out]
              have hmem : ∀ x ∈ lo, x ∈ l ∨ (x.2.1 = .slice none 0 0 ∧ x.1.cs = [] ∧ x.2.2 = []) := fun x hx => by
                rw [hloe, Hlo5.out, HloP.out] at hx
                rcases List.mem_append.1 hx with hx | hx
                · rcases List.mem_append.1 hx with hx | hx
                  · exact .inl (List.mem_of_mem_take hx)
                  · obtain rfl := List.mem_singleton.1 hx
                    exact .inr ⟨rfl, rfl, rfl⟩
                · exact .inl (List.mem_of_mem_drop hx)
              have o0 := hon.oblk.cell 0
              have o1 := hon.oblk.cell 1
              have o2 := hon.oblk.cell 2
              simp at o0 o1 o2
              have r0 := hon.rn.res.cell 0
              have r1 := hon.rn.res.cell 1
              have r2 := hon.rn.res.cell 2
              simp at r0 r1 r2
              have f0 := hon.rn.res.frozen 0
              have f1 := hon.rn.res.frozen 1
              have f2 := hon.rn.res.frozen 2
              have Hqs := Lib.hid hqs
              have Hmem := Lib.hid hmem
              clear hk hon hxb hlo hrl hke hloe hqs hmem hkl hkn
              go_wp2
              obtain ⟨htu, hbl', hfin⟩ := Hon2.out.ret Hmem.out (entered t p id quantum) Hqs.out Hat6.out rfl
              have s0 := hfin.cell 0
              have s1 := hfin.cell 1
              have s2 := hfin.cell 2
              simp at s0 s1 s2
              exact bodyPost_ret (v := .tuple #[.agg #[.slice A2 lo.length c2, .int .i64 at6, .bool t.fr], .int .i64 0]) (by simp [results, Try.results25, go_sem, s0, s1, s2]) rfl
                ⟨⟨_, entered t p id quantum, 0, rfl, htu.mono (by simp), .inr (.inr ⟨Hval.out, Hcm.out, rfl, p, Hspot.out, rfl⟩)⟩, hbl'⟩
    · have hwhy : (∃ a : Nat, r = a) ∨ (r = -1 ∧ (32 ≤ t.qs.length ∨ (¬ 32 ≤ t.qs.length ∧ (id < 0 ∨ (¬ id < 0 ∧ (quantum < 1 ∨ (¬ quantum < 1 ∧ quantum > 65536))))))) := by
        rcases hpl with ⟨e, hno⟩ | ⟨a, q, e, _⟩
        · right
          refine ⟨e, ?_⟩
          rcases Nat.lt_or_ge t.qs.length 32 with h1 | h1
          · right
            refine ⟨by omega, ?_⟩
            rcases Int.lt_or_le id 0 with h2 | h2
            · exact .inl h2
            · right
              refine ⟨by omega, ?_⟩
              rcases Int.lt_or_le quantum 1 with h3 | h3
              · exact .inl h3
              · right
                refine ⟨by omega, ?_⟩
                rcases Int.lt_or_le 65536 quantum with h4 | h4
                · exact h4
                · exact absurd ⟨h2, hno, h1, h3, h4⟩ hcm
          · exact .inl h1
        · exact .inl ⟨a, e⟩
      have Hcm := Lib.hid hcm
      have Hwhy := Lib.hid hwhy
      clear hcm hwhy hpl Hcp hat
      go_enter Try.func25, Try.ntmps25
      go_upto_region 1 with fail
      have hx := (Boxed.start w A t.qs.length c t.at_ t.fr).alloc (.cells #[.slice none 0 0, .int .i64 0, .bool false] 34)
      have hres := Blk.new (w.alloc (.cells #[.slice A t.qs.length c, .int .i64 t.at_, .bool t.fr] 34)) 34 #[.slice none 0 0, .int .i64 0, .bool false]
      rw [World.size_alloc] at hres
      generalize hW0 : World.alloc (World.alloc _ _) _ = W0
      rw [hW0] at hx hres
      clear hW0
      obtain ⟨x0, x1, x2⟩ := hx.cells
      have HX := Lib.hid hx
      have HR := Lib.hid hres
      clear hx hres
      rcases Hwhy.out with ⟨a, hra⟩ | ⟨hr1, hw⟩
      · subst hra
        have ha0 : ¬ (a : Int) < 0 := by omega
        have ha1 : (0 : Int) ≤ a := by omega
        go_wp2_with (first
          | (go_at_call 24; refine Calls.mono (Hbx.out _ HX.out.below) ?_; rintro e w1 ⟨rfl, hb1⟩; have hx1 := HX.out.more hb1; obtain ⟨y0, y1, y2⟩ := hx1.cells; have HX1 := Lib.hid hx1; have Hb1 := Lib.hid hb1; clear hx1 hb1)
          | (go_at_call 42; refine Calls.mono (Hpc.out _ HX1.out.below) ?_; rintro e w2 ⟨rfl, hb2⟩; have hx2 := HX1.out.more hb2; obtain ⟨z0, z1, z2⟩ := hx2.cells; have HX2 := Lib.hid hx2; have hr2 := (HR.out.below Hb1.out HR.out.lt).below hb2 (by have := HR.out.lt; have := Hb1.out.size; omega); have r0 := hr2.cell 0; have r1 := hr2.cell 1; have r2 := hr2.cell 2; simp at r0 r1 r2; have f0 := hr2.frozen 0; have f1 := hr2.frozen 1; have f2 := hr2.frozen 2; have hbz := (HX1.out.more hb2).below; have Hr2 := Lib.hid hr2; have Hbz := Lib.hid hbz; clear hr2 hb2 hbz hx2))
        obtain ⟨hfin, hbel⟩ := none_fin Hbz.out Hr2.out
        have s0 := hfin.cell 0
        have s1 := hfin.cell 1
        have s2 := hfin.cell 2
        simp at s0 s1 s2
        exact bodyPost_ret (v := .tuple #[.agg #[.slice none 0 0, .int .i64 0, .bool false], .int .i64 190]) (by simp [results, Try.results25, go_sem, s0, s1, s2]) rfl
          ⟨⟨_, none_, 190, rfl, none_tu _ _ _, .inr (.inl ⟨Hval.out, Hcm.out, rfl, rfl⟩)⟩, hbel⟩
      · subst hr1
        rcases hw with h1 | ⟨h1, h2 | ⟨h2, h3 | ⟨h3, h4⟩⟩⟩
        · have h1i : (32 : Int) ≤ t.qs.length := by omega
          go_wp2_with (first
            | (go_at_call 24; refine Calls.mono (Hbx.out _ HX.out.below) ?_; rintro e w1 ⟨rfl, hb1⟩; have hx1 := HX.out.more hb1; obtain ⟨y0, y1, y2⟩ := hx1.cells; have HX1 := Lib.hid hx1; have Hb1 := Lib.hid hb1; clear hx1 hb1)
            | (go_at_call 42; refine Calls.mono (Hpc.out _ HX1.out.below) ?_; rintro e w2 ⟨rfl, hb2⟩; have hx2 := HX1.out.more hb2; obtain ⟨z0, z1, z2⟩ := hx2.cells; have HX2 := Lib.hid hx2; have hr2 := (HR.out.below Hb1.out HR.out.lt).below hb2 (by have := HR.out.lt; have := Hb1.out.size; omega); have r0 := hr2.cell 0; have r1 := hr2.cell 1; have r2 := hr2.cell 2; simp at r0 r1 r2; have f0 := hr2.frozen 0; have f1 := hr2.frozen 1; have f2 := hr2.frozen 2; have hbz := (HX1.out.more hb2).below; have Hr2 := Lib.hid hr2; have Hbz := Lib.hid hbz; clear hr2 hb2 hbz hx2))
          obtain ⟨hfin, hbel⟩ := none_fin Hbz.out Hr2.out
          have s0 := hfin.cell 0
          have s1 := hfin.cell 1
          have s2 := hfin.cell 2
          simp at s0 s1 s2
          exact bodyPost_ret (v := .tuple #[.agg #[.slice none 0 0, .int .i64 0, .bool false], .int .i64 190]) (by simp [results, Try.results25, go_sem, s0, s1, s2]) rfl
            ⟨⟨_, none_, 190, rfl, none_tu _ _ _, .inr (.inl ⟨Hval.out, Hcm.out, rfl, rfl⟩)⟩, hbel⟩
        · have h1i : ¬ (32 : Int) ≤ t.qs.length := by omega
          go_wp2_with (first
            | (go_at_call 24; refine Calls.mono (Hbx.out _ HX.out.below) ?_; rintro e w1 ⟨rfl, hb1⟩; have hx1 := HX.out.more hb1; obtain ⟨y0, y1, y2⟩ := hx1.cells; have HX1 := Lib.hid hx1; have Hb1 := Lib.hid hb1; clear hx1 hb1)
            | (go_at_call 42; refine Calls.mono (Hpc.out _ HX1.out.below) ?_; rintro e w2 ⟨rfl, hb2⟩; have hx2 := HX1.out.more hb2; obtain ⟨z0, z1, z2⟩ := hx2.cells; have HX2 := Lib.hid hx2; have hr2 := (HR.out.below Hb1.out HR.out.lt).below hb2 (by have := HR.out.lt; have := Hb1.out.size; omega); have r0 := hr2.cell 0; have r1 := hr2.cell 1; have r2 := hr2.cell 2; simp at r0 r1 r2; have f0 := hr2.frozen 0; have f1 := hr2.frozen 1; have f2 := hr2.frozen 2; have hbz := (HX1.out.more hb2).below; have Hr2 := Lib.hid hr2; have Hbz := Lib.hid hbz; clear hr2 hb2 hbz hx2))
          obtain ⟨hfin, hbel⟩ := none_fin Hbz.out Hr2.out
          have s0 := hfin.cell 0
          have s1 := hfin.cell 1
          have s2 := hfin.cell 2
          simp at s0 s1 s2
          exact bodyPost_ret (v := .tuple #[.agg #[.slice none 0 0, .int .i64 0, .bool false], .int .i64 190]) (by simp [results, Try.results25, go_sem, s0, s1, s2]) rfl
            ⟨⟨_, none_, 190, rfl, none_tu _ _ _, .inr (.inl ⟨Hval.out, Hcm.out, rfl, rfl⟩)⟩, hbel⟩
        · have h1i : ¬ (32 : Int) ≤ t.qs.length := by omega
          go_wp2_with (first
            | (go_at_call 24; refine Calls.mono (Hbx.out _ HX.out.below) ?_; rintro e w1 ⟨rfl, hb1⟩; have hx1 := HX.out.more hb1; obtain ⟨y0, y1, y2⟩ := hx1.cells; have HX1 := Lib.hid hx1; have Hb1 := Lib.hid hb1; clear hx1 hb1)
            | (go_at_call 42; refine Calls.mono (Hpc.out _ HX1.out.below) ?_; rintro e w2 ⟨rfl, hb2⟩; have hx2 := HX1.out.more hb2; obtain ⟨z0, z1, z2⟩ := hx2.cells; have HX2 := Lib.hid hx2; have hr2 := (HR.out.below Hb1.out HR.out.lt).below hb2 (by have := HR.out.lt; have := Hb1.out.size; omega); have r0 := hr2.cell 0; have r1 := hr2.cell 1; have r2 := hr2.cell 2; simp at r0 r1 r2; have f0 := hr2.frozen 0; have f1 := hr2.frozen 1; have f2 := hr2.frozen 2; have hbz := (HX1.out.more hb2).below; have Hr2 := Lib.hid hr2; have Hbz := Lib.hid hbz; clear hr2 hb2 hbz hx2))
          obtain ⟨hfin, hbel⟩ := none_fin Hbz.out Hr2.out
          have s0 := hfin.cell 0
          have s1 := hfin.cell 1
          have s2 := hfin.cell 2
          simp at s0 s1 s2
          exact bodyPost_ret (v := .tuple #[.agg #[.slice none 0 0, .int .i64 0, .bool false], .int .i64 190]) (by simp [results, Try.results25, go_sem, s0, s1, s2]) rfl
            ⟨⟨_, none_, 190, rfl, none_tu _ _ _, .inr (.inl ⟨Hval.out, Hcm.out, rfl, rfl⟩)⟩, hbel⟩
        · have h1i : ¬ (32 : Int) ≤ t.qs.length := by omega
          go_wp2_with (first
            | (go_at_call 24; refine Calls.mono (Hbx.out _ HX.out.below) ?_; rintro e w1 ⟨rfl, hb1⟩; have hx1 := HX.out.more hb1; obtain ⟨y0, y1, y2⟩ := hx1.cells; have HX1 := Lib.hid hx1; have Hb1 := Lib.hid hb1; clear hx1 hb1)
            | (go_at_call 42; refine Calls.mono (Hpc.out _ HX1.out.below) ?_; rintro e w2 ⟨rfl, hb2⟩; have hx2 := HX1.out.more hb2; obtain ⟨z0, z1, z2⟩ := hx2.cells; have HX2 := Lib.hid hx2; have hr2 := (HR.out.below Hb1.out HR.out.lt).below hb2 (by have := HR.out.lt; have := Hb1.out.size; omega); have r0 := hr2.cell 0; have r1 := hr2.cell 1; have r2 := hr2.cell 2; simp at r0 r1 r2; have f0 := hr2.frozen 0; have f1 := hr2.frozen 1; have f2 := hr2.frozen 2; have hbz := (HX1.out.more hb2).below; have Hr2 := Lib.hid hr2; have Hbz := Lib.hid hbz; clear hr2 hb2 hbz hx2))
          obtain ⟨hfin, hbel⟩ := none_fin Hbz.out Hr2.out
          have s0 := hfin.cell 0
          have s1 := hfin.cell 1
          have s2 := hfin.cell 2
          simp at s0 s1 s2
          exact bodyPost_ret (v := .tuple #[.agg #[.slice none 0 0, .int .i64 0, .bool false], .int .i64 190]) (by simp [results, Try.results25, go_sem, s0, s1, s2]) rfl
            ⟨⟨_, none_, 190, rfl, none_tu _ _ _, .inr (.inl ⟨Hval.out, Hcm.out, rfl, rfl⟩)⟩, hbel⟩

  · have hval : ¬ Valid t := fun h => hck (chk_zero.2 h)
    have hck2 : (chk t != 0) = true := by simp [hck]
    go_enter Try.func25, Try.ntmps25
    go_upto_region 1 with fail
    have hx := (Boxed.start w A t.qs.length c t.at_ t.fr).alloc (.cells #[.slice none 0 0, .int .i64 0, .bool false] 34)
    have hres := Blk.new (w.alloc (.cells #[.slice A t.qs.length c, .int .i64 t.at_, .bool t.fr] 34)) 34 #[.slice none 0 0, .int .i64 0, .bool false]
    rw [World.size_alloc] at hres
    generalize hW0 : World.alloc (World.alloc _ _) _ = W0
    rw [hW0] at hx hres
    clear hW0
    obtain ⟨x0, x1, x2⟩ := hx.cells
    have HR := Lib.hid hres
    have hxb := hx.below
    have HXB := Lib.hid hxb
    clear hx hres hxb
    go_wp2_with (first
      | (go_at_call 24; refine Calls.mono (hbx _ HXB.out) ?_; rintro e w1 ⟨rfl, hb1⟩; have hr1 := HR.out.below hb1 HR.out.lt; have r0 := hr1.cell 0; have r1 := hr1.cell 1; have r2 := hr1.cell 2; simp at r0 r1 r2; have f0 := hr1.frozen 0; have f1 := hr1.frozen 1; have f2 := hr1.frozen 2; have Hb1 := Lib.hid hb1; clear hr1 hb1))
    obtain ⟨hfin, hbel⟩ := none_ret HXB.out HR.out Hb1.out
    have s0 := hfin.cell 0
    have s1 := hfin.cell 1
    have s2 := hfin.cell 2
    simp at s0 s1 s2
    exact bodyPost_ret (v := .tuple #[.agg #[.slice none 0 0, .int .i64 0, .bool false], .int .i64 (chk t)]) (by simp [results, Try.results25, go_sem, s0, s1, s2]) rfl
      ⟨⟨_, none_, chk t, rfl, none_tu _ _ _, .inl ⟨hval, rfl, rfl⟩⟩, hbel⟩
end Go.Proofs.Ytgbjhkgbjnobcaa
