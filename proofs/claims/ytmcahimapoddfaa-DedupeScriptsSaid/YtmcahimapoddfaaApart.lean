/- The walk of 'DedupeApart'. Conditions: the arguments are readable, the producers no more than a slice bears. -/
import Derived.Test.YtmcahimapoddfaaTries
namespace Go.Proofs.Ytmcahimapoddfaa
open Go.RowKit Go.Maps

/-- Three tables apart. -/
structure T3 (w0 w : World) (B m1 b1 m2 b2 m3 b3 : Nat) (l1 l2 l3 : List Pr) : Prop where
  t1 : TabAt w B b1 m1 l1
  t2 : TabAt w B b2 m2 l2
  t3 : TabAt w B b3 m3 l3
  below : Below B w0 w
  sep : m1 < b1 ∧ b1 < m2 ∧ m2 < b2 ∧ b2 < m3 ∧ m3 < b3
  o1 : NewOk l1
  o2 : NewOk l2
  o3 : NewOk l3
section
variable {w0 w w' : World} {B m1 b1 m2 b2 m3 b3 : Nat} {l1 l2 l3 l : List Pr}
theorem T3.size (h : T3 w0 w B m1 b1 m2 b2 m3 b3 l1 l2 l3) : B ≤ w.heap.size := by have := h.t1.lm; have := h.t1.tab.lt; omega
theorem T3.drew (h : T3 w0 w B m1 b1 m2 b2 m3 b3 l1 l2 l3) : T3 w0 w.drew B m1 b1 m2 b2 m3 b3 l1 l2 l3 := ⟨h.t1.drew, h.t2.drew, h.t3.drew, h.below.drew, h.sep, h.o1, h.o2, h.o3⟩
theorem T3.grown (h : T3 w0 w B m1 b1 m2 b2 m3 b3 l1 l2 l3) (hb : Below w.heap.size w w') : T3 w0 w' B m1 b1 m2 b2 m3 b3 l1 l2 l3 :=
  ⟨h.t1.below hb (Nat.le_refl _), h.t2.below hb (Nat.le_refl _), h.t3.below hb (Nat.le_refl _), h.below.trans (hb.mono h.size), h.sep, h.o1, h.o2, h.o3⟩
theorem T3.note1 (h : T3 w0 w B m1 b1 m2 b2 m3 b3 l1 l2 l3) (ht : TabAt w' B b1 m1 l) (hn : NewOk l) (hg : w.grownBy w' (some m1)) : T3 w0 w' B m1 b1 m2 b2 m3 b3 l l2 l3 := by
  have hs := h.sep
  exact ⟨ht, h.t2.far hg (by omega) (by omega), h.t3.far hg (by omega) (by omega), h.below.grown hg h.size (fun j hj => by injection hj with hj; have := h.t1.lm; omega), hs, hn, h.o2, h.o3⟩
theorem T3.note2 (h : T3 w0 w B m1 b1 m2 b2 m3 b3 l1 l2 l3) (ht : TabAt w' B b2 m2 l) (hn : NewOk l) (hg : w.grownBy w' (some m2)) : T3 w0 w' B m1 b1 m2 b2 m3 b3 l1 l l3 := by
  have hs := h.sep
  exact ⟨h.t1.far hg (by omega) (by omega), ht, h.t3.far hg (by omega) (by omega), h.below.grown hg h.size (fun j hj => by injection hj with hj; have := h.t2.lm; omega), hs, h.o1, hn, h.o3⟩
theorem T3.note3 (h : T3 w0 w B m1 b1 m2 b2 m3 b3 l1 l2 l3) (ht : TabAt w' B b3 m3 l) (hn : NewOk l) (hg : w.grownBy w' (some m3)) : T3 w0 w' B m1 b1 m2 b2 m3 b3 l1 l2 l := by
  have hs := h.sep
  exact ⟨h.t1.far hg (by omega) (by omega), h.t2.far hg (by omega) (by omega), ht, h.below.grown hg h.size (fun j hj => by injection hj with hj; have := h.t3.lm; omega), hs, h.o1, h.o2, hn⟩
end

set_option maxRecDepth 100000 in
set_option maxHeartbeats 4000000 in
theorem apart_any (v0 v1 v2 : Value) (ps : List Pr) (xs ys : List Ty) (w : World) (h0 : PS w v0 ps) (h1 : TS w v1 xs) (h2 : TS w v2 ys) (hb : ps.length * 24 ≤ 140737488355328) :
    Calls Try.prog 7 #[v0, v1, v2] w fun e w' => e = .returned (.bool true) ∧ Below w.heap.size w w' := by
  obtain ⟨i0, hi, hz0, hz1, hz2⟩ := info_parts info67
  obtain ⟨A, c, rfl, hlc, hcm, hnil, hp⟩ := h0
  have hb0 := (Below.refl w.heap.size w).alloc (Nat.le_refl _) (.cells #[] 67)
  have hp' : ProdsAt (w.alloc (.cells #[] 67)) w.heap.size A ps := hp.below hb0
  have hem : (w.alloc (.cells #[] 67)).ownsRow w.heap.size 67 3 (.slice (some ⟨w.heap.size, 0, none⟩) 0 0) 0 [] := World.ownsRow_lit w #[] 0 (Nat.le_refl _) (by unfold maxLen; omega) (by simp)
  have hsz : w.heap.size ≤ (w.alloc (.cells #[] 67)).heap.size := by simp
  have grow : ∀ (w : World) v1 w1, (w1.ownsRow w.heap.size 67 3 v1 (0 + ps.length) ([] ++ ps.flatMap prCells)) → (w.alloc (.cells #[] 67)).grownBy w1 (some w.heap.size) → PS w1 v1 ps ∧ Below w.heap.size w w1 := fun w v1 w1 h hg => by
    rw [Nat.zero_add, List.nil_append] at h
    have ho : OwnP w1 w.heap.size v1 ps := h
    exact ⟨ho.toS, ((Below.refl w.heap.size w).alloc (Nat.le_refl _) (.cells #[] 67)).grown hg (by simp) (fun j hj => by injection hj with hj; omega)⟩
  have Hp := Lib.hid hp
  have H1 := Lib.hid h1
  have H2 := Lib.hid h2
  have Hb0 := Lib.hid hb0
  have Grow := Lib.hid grow
  have hcm' := hcm
  unfold maxLen at hcm'
  clear hp h1 h2 hb0 grow
  by_cases hN : NewOk ps
  rotate_left
  · have HN := Lib.hid hN
    clear hN
    go_enter Try.func7, Try.ntmps7
    go_wp2_with (first
      | (at_builtin; refine wpList_append_any _ rfl _ _ 22 rfl w.heap.size 67 i0 _ 3 24 Try.underlying22 hi hz0 hz1 hz2 rfl (by decide) _ 0 [] rfl hem A ps.length c rfl hnil (ps.flatMap prCells) (flat_len ps) (prods_news hp') prods_one (by unfold maxLen; omega) (by omega) hsz ?_; intro vc wc hown1 hgr1 hat1)
      | (go_at_call 23; refine (newS_no (Grow.out w vc wc hown1 hgr1).1 HN.out).mono ?_; rintro e w2 ⟨rfl, hb2⟩))
    go_ret
    have hg1 := (Grow.out w vc wc hown1 hgr1).2
    exact ⟨rfl, hg1.trans (hb2.mono hg1.size)⟩
  · have HN := Lib.hid hN
    clear hN
    go_enter Try.func7, Try.ntmps7
    go_upto_region 4 with (first
      | (at_builtin; refine wpList_append_any _ rfl _ _ 22 rfl w.heap.size 67 i0 _ 3 24 Try.underlying22 hi hz0 hz1 hz2 rfl (by decide) _ 0 [] rfl hem A ps.length c rfl hnil (ps.flatMap prCells) (flat_len ps) (prods_news hp') prods_one (by unfold maxLen; omega) (by omega) hsz ?_; intro vc wc hown1 hgr1 hat1)
      | (go_at_call 23; refine (newS_ok (Grow.out w vc wc hown1 hgr1).1 HN.out).mono ?_; rintro e w2 ⟨rfl, ht1, hb2⟩))
    have hg1 := (Grow.out w vc wc hown1 hgr1).2
    have hb12 := hg1.trans (hb2.mono hg1.size)
    have Hw1 := Lib.hid hg1.size
    have Ht1 := Lib.hid ht1
    have Hb12 := Lib.hid hb12
    clear hown1 hgr1 hat1 hem hp' hsz hg1 hb12 ht1 hb2 Hb0
    generalize wc.heap.size = m1 at *
    have hp' : ProdsAt (w2.alloc (.cells #[] 67)) w.heap.size A ps := Hp.out.below (Hb12.out.alloc Hb12.out.size _)
    have hem : (w2.alloc (.cells #[] 67)).ownsRow w2.heap.size 67 3 (.slice (some ⟨w2.heap.size, 0, none⟩) 0 0) 0 [] := World.ownsRow_lit w2 #[] 0 (Nat.le_refl _) (by unfold maxLen; omega) (by simp)
    have hsz : w2.heap.size ≤ (w2.alloc (.cells #[] 67)).heap.size := by simp
    go_upto_region 5 with (first
      | (at_builtin; refine wpList_append_any _ rfl _ _ 22 rfl w2.heap.size 67 i0 _ 3 24 Try.underlying22 hi hz0 hz1 hz2 rfl (by decide) _ 0 [] rfl hem A ps.length c rfl hnil (ps.flatMap prCells) (flat_len ps) (prods_news hp') prods_one (by unfold maxLen; omega) (by omega) hsz ?_; intro vd wd hown2 hgr2 hat2)
      | (go_at_call 23; refine (newS_ok (Grow.out w2 vd wd hown2 hgr2).1 HN.out).mono ?_; rintro e w3 ⟨rfl, ht2, hb3⟩))
    have hg1 := (Grow.out w2 vd wd hown2 hgr2).2
    have hb23 := hg1.trans (hb3.mono hg1.size)
    have Ht13 := Lib.hid (Ht1.out.below hb23 (Nat.le_refl _))
    have Ht2 := Lib.hid ht2
    have Hb13 := Lib.hid (Hb12.out.trans (hb23.mono Hb12.out.size))
    have Hm2 := Lib.hid (Nat.lt_of_lt_of_le Ht1.out.cell.lt hg1.size)
    clear hown2 hgr2 hat2 hem hp' hsz hg1 hb23 ht2 hb3 Ht1 Hb12
    generalize wd.heap.size = m2 at *
    have cL := list_any _ _ _ ps w3 Ht13.out HN.out.1
    have hps : PS w (.slice A ps.length c) ps := ⟨A, c, rfl, hlc, hcm, hnil, Hp.out⟩
    have Hps := Lib.hid hps
    clear hps
    go_upto_region 7 with (first
      | (go_at_call 21; refine cL.mono ?_; rintro e w4 ⟨vl, rfl, hl4, hb4⟩)
      | (go_at_call 12; refine (sameS hl4.toS (Hps.out.below (Hb13.out.trans (hb4.mono Hb13.out.size)))).mono ?_; rintro e w5 ⟨he, hb5⟩; rw [decide_eq_true rfl] at he; subst he))
    have hb35 := hb4.trans (hb5.mono hb4.size)
    have Ht15 := Lib.hid (Ht13.out.below hb35 (Nat.le_refl _))
    have Ht25 := Lib.hid (Ht2.out.below hb35 (Nat.le_refl _))
    have Hb15 := Lib.hid (Hb13.out.trans (hb35.mono Hb13.out.size))
    clear hl4 hb4 hb5 cL hb35 Ht13 Ht2 Hb13
    have cC := clone_any _ _ _ ps w5 Ht15.out HN.out.1
    go_upto_region 8 with (go_at_call 22; refine cC.mono ?_; rintro e w6 ⟨rfl, ht3, hb6⟩)
    have hT : T3 w w6 w.heap.size m1 (m1 + 1) m2 (m2 + 1) w5.heap.size (w5.heap.size + 1) ps ps ps :=
      ⟨(Ht15.out.below hb6 (Nat.le_refl _)).mono Hw1.out, (Ht25.out.below hb6 (Nat.le_refl _)).mono (Nat.le_trans Hw1.out (by have := Hm2.out; omega)), ht3.mono Hb15.out.size, Hb15.out.trans (hb6.mono Hb15.out.size),
        by have := Hm2.out; have := Ht25.out.cell.lt; omega, HN.out, HN.out, HN.out⟩
    have HT := Lib.hid hT
    clear cC hT ht3 hb6 Ht15 Ht25 Hb15 Hw1 Hm2
    generalize w5.heap.size = m3 at *
    have cL := list_any _ _ _ ps w6 HT.out.t3 HN.out.1
    go_upto_region 10 with (first
      | (go_at_call 21; refine cL.mono ?_; rintro e w7 ⟨vl, rfl, hl7, hb7⟩)
      | (go_at_call 12; refine (sameS hl7.toS (Hps.out.below (HT.out.below.trans (hb7.mono HT.out.size)))).mono ?_; rintro e w8 ⟨he, hb8⟩; rw [decide_eq_true rfl] at he; subst he))
    have HT8 := Lib.hid (HT.out.grown (hb7.trans (hb8.mono hb7.size)))
    obtain ⟨A1, c1, rfl, x1, x2, xn, x3⟩ := H1.out
    obtain ⟨A2, c2, rfl, y1, y2, yn, y3⟩ := H2.out
    unfold maxLen at x2 y2
    have Xs := Lib.hid x3
    have Ys := Lib.hid y3
    clear cL hl7 hb7 hb8 HT H1 H2 x3 y3 HN Grow hnil Hps Hp xn yn hb hlc hcm hcm'
    clear i0 hi hz0 hz1 hz2
    go_wp2
    go_loopg [12] (xs.length + ys.length) (fun g i wr => ∃ (k : Nat) (l l3 : List Pr), g + k = xs.length + ys.length ∧ i = .int .i64 (k : Nat) ∧ T3 w wr w.heap.size m1 (m1 + 1) m2 (m2 + 1) m3 (m3 + 1) l l l3)
    case atStart => exact ⟨0, ps, ps, by omega, rfl, HT8.out⟩
    case round =>
      obtain ⟨k, l, l3, hk, rfl, hT⟩ := hrel
      have Twr := Lib.hid hT
      have Hk := Lib.hid hk
      have hkn : k ≤ xs.length + ys.length := by omega
      clear hT hk
      by_cases hkx : k < xs.length
      · have hkxi : (k : Int) < xs.length := by omega
        by_cases hky : k < ys.length
        · have hkyi : (k : Int) < ys.length := by omega
          obtain ⟨xb, xo, he, hlxb, hxc⟩ := Xs.out (by omega)
          subst he
          have hgx : xs[k]? = some xs[k] := List.getElem?_eq_getElem (by omega)
          obtain ⟨x, hx⟩ : ∃ x, x = xs[k] := ⟨_, rfl⟩
          rw [← hx] at hgx
          obtain ⟨q0, q1⟩ := hxc k x hgx
          have P0 := Lib.hid q0
          have P1 := Lib.hid q1
          clear q0 q1 hxc hgx hx
          obtain ⟨yb, yo, he, hlyb, hxc⟩ := Ys.out (by omega)
          subst he
          have hgx : ys[k]? = some ys[k] := List.getElem?_eq_getElem (by omega)
          obtain ⟨y, hx⟩ : ∃ x, x = ys[k] := ⟨_, rfl⟩
          rw [← hx] at hgx
          obtain ⟨q0, q1⟩ := hxc k y hgx
          have Q0 := Lib.hid q0
          have Q1 := Lib.hid q1
          clear q0 q1 hxc hgx hx
          have u0 := (Twr.out.below.cell (p := ⟨xb, xo + k * 2, none⟩) hlxb).trans P0.out
          have u1 := (Twr.out.below.cell (p := ⟨xb, xo + k * 2 + 1, none⟩) hlxb).trans P1.out
          go_upto_region 14 with fail
          go_cut [13] (fun s wx => s = .int .i64 (noteR l x.pid x.seq (k : Int)).1 ∧ T3 w wx w.heap.size m1 (m1 + 1) m2 (m2 + 1) m3 (m3 + 1) (noteR l x.pid x.seq (k : Int)).2 l l3)
          case first =>
            go_region_with (go_at_call 20; refine (note_any _ _ _ _ _ Twr.out.drew.t1 Twr.out.o1 x.pid x.seq (k : Int)).mono ?_; rintro e w3 ⟨rfl, h3, hg3⟩)
            all_goals (
              go_wp2
              go_meet
              (case rel => exact ⟨rfl, Twr.out.drew.note1 h3 (note_ok Twr.out.o1 x.pid x.seq (k : Int)) hg3⟩))
          case rest =>
            obtain ⟨hcs, hT⟩ := hcut
            subst hcs
            rename World => wra
            have Twra := Lib.hid hT
            clear hT u0 u1
            have u0 := (Twra.out.below.cell (p := ⟨xb, xo + k * 2, none⟩) hlxb).trans P0.out
            have u1 := (Twra.out.below.cell (p := ⟨xb, xo + k * 2 + 1, none⟩) hlxb).trans P1.out
            go_upto_region 15 with fail
            go_cut [14] (fun s wx => s = .int .i64 (noteR l x.pid x.seq (k : Int)).1 ∧ T3 w wx w.heap.size m1 (m1 + 1) m2 (m2 + 1) m3 (m3 + 1) (noteR l x.pid x.seq (k : Int)).2 (noteR l x.pid x.seq (k : Int)).2 l3)
            case first =>
              go_region_with (go_at_call 20; refine (note_any _ _ _ _ _ Twra.out.drew.t2 Twra.out.o2 x.pid x.seq (k : Int)).mono ?_; rintro e w3 ⟨rfl, h3, hg3⟩)
              all_goals (
                go_wp2
                go_meet
                (case rel => exact ⟨rfl, Twra.out.drew.note2 h3 (note_ok Twra.out.o2 x.pid x.seq (k : Int)) hg3⟩))
            case rest =>
              obtain ⟨hcs, hT⟩ := hcut
              subst hcs
              rename World => wrb
              have Twrb := Lib.hid hT
              clear hT u0 u1
              have hqe : ((noteR l x.pid x.seq (k : Int)).1 != (noteR l x.pid x.seq (k : Int)).1) = false := by simp
              have u0 := (Twrb.out.below.cell (p := ⟨yb, yo + k * 2, none⟩) hlyb).trans Q0.out
              have u1 := (Twrb.out.below.cell (p := ⟨yb, yo + k * 2 + 1, none⟩) hlyb).trans Q1.out
              go_upto_region 19 with fail
              go_cut [] (fun wx => T3 w wx w.heap.size m1 (m1 + 1) m2 (m2 + 1) m3 (m3 + 1) (noteR l x.pid x.seq (k : Int)).2 (noteR l x.pid x.seq (k : Int)).2 (noteR l3 y.pid y.seq (IntKind.i64.wrap (1000 + (k : Int)))).2)
              case first =>
                go_region_with (go_at_call 20; refine (note_any _ _ _ _ _ Twrb.out.drew.t3 Twrb.out.o3 y.pid y.seq (IntKind.i64.wrap (1000 + (k : Int)))).mono ?_; rintro e w3 ⟨rfl, h3, hg3⟩)
                all_goals (
                  go_wp2
                  go_meet
                  (case rel => exact Twrb.out.drew.note3 h3 (note_ok Twrb.out.o3 y.pid y.seq (IntKind.i64.wrap (1000 + (k : Int)))) hg3))
              case rest =>
                have hT := hcut
                clear hcut
                rename World => wrc
                have Twrc := Lib.hid hT
                clear hT u0 u1
                have cL1 := list_any _ _ _ _ wrc Twrc.out.t1 Twrc.out.o1.1
                go_upto_region 12 with (first
                  | (go_at_call 21; refine cL1.mono ?_; clear cL1; rintro e w7 ⟨va, rfl, ha7, hb7⟩)
                  | (go_at_call 21; refine (list_any _ _ _ _ w7 (Twrc.out.grown hb7).t2 Twrc.out.o2.1).mono ?_; rintro e w9 ⟨vb, rfl, ha9, hb9⟩)
                  | (go_at_call 12; refine (sameS (ha7.toS.below hb9) ha9.toS).mono ?_; rintro e w10 ⟨he, hb10⟩; rw [decide_eq_true rfl] at he; subst he))
                have TN := Lib.hid (Twrc.out.grown (hb7.trans ((hb9.trans (hb10.mono hb9.size)).mono hb7.size)))
                clear ha7 ha9 hb7 hb9 hb10
                go_wp2
                go_roundg (gk - 1)
                case measure => have := Hk.out; omega
                case rel => exact ⟨k + 1, _, _, by have := Hk.out; omega, by go_num, TN.out⟩
        · have hkyi : ¬ (k : Int) < ys.length := by omega
          obtain ⟨xb, xo, he, hlxb, hxc⟩ := Xs.out (by omega)
          subst he
          have hgx : xs[k]? = some xs[k] := List.getElem?_eq_getElem (by omega)
          obtain ⟨x, hx⟩ : ∃ x, x = xs[k] := ⟨_, rfl⟩
          rw [← hx] at hgx
          obtain ⟨q0, q1⟩ := hxc k x hgx
          have P0 := Lib.hid q0
          have P1 := Lib.hid q1
          clear q0 q1 hxc hgx hx
          have u0 := (Twr.out.below.cell (p := ⟨xb, xo + k * 2, none⟩) hlxb).trans P0.out
          have u1 := (Twr.out.below.cell (p := ⟨xb, xo + k * 2 + 1, none⟩) hlxb).trans P1.out
          go_upto_region 14 with fail
          go_cut [13] (fun s wx => s = .int .i64 (noteR l x.pid x.seq (k : Int)).1 ∧ T3 w wx w.heap.size m1 (m1 + 1) m2 (m2 + 1) m3 (m3 + 1) (noteR l x.pid x.seq (k : Int)).2 l l3)
          case first =>
            go_region_with (go_at_call 20; refine (note_any _ _ _ _ _ Twr.out.drew.t1 Twr.out.o1 x.pid x.seq (k : Int)).mono ?_; rintro e w3 ⟨rfl, h3, hg3⟩)
            all_goals (
              go_wp2
              go_meet
              (case rel => exact ⟨rfl, Twr.out.drew.note1 h3 (note_ok Twr.out.o1 x.pid x.seq (k : Int)) hg3⟩))
          case rest =>
            obtain ⟨hcs, hT⟩ := hcut
            subst hcs
            rename World => wra
            have Twra := Lib.hid hT
            clear hT u0 u1
            have u0 := (Twra.out.below.cell (p := ⟨xb, xo + k * 2, none⟩) hlxb).trans P0.out
            have u1 := (Twra.out.below.cell (p := ⟨xb, xo + k * 2 + 1, none⟩) hlxb).trans P1.out
            go_upto_region 15 with fail
            go_cut [14] (fun s wx => s = .int .i64 (noteR l x.pid x.seq (k : Int)).1 ∧ T3 w wx w.heap.size m1 (m1 + 1) m2 (m2 + 1) m3 (m3 + 1) (noteR l x.pid x.seq (k : Int)).2 (noteR l x.pid x.seq (k : Int)).2 l3)
            case first =>
              go_region_with (go_at_call 20; refine (note_any _ _ _ _ _ Twra.out.drew.t2 Twra.out.o2 x.pid x.seq (k : Int)).mono ?_; rintro e w3 ⟨rfl, h3, hg3⟩)
              all_goals (
                go_wp2
                go_meet
                (case rel => exact ⟨rfl, Twra.out.drew.note2 h3 (note_ok Twra.out.o2 x.pid x.seq (k : Int)) hg3⟩))
            case rest =>
              obtain ⟨hcs, hT⟩ := hcut
              subst hcs
              rename World => wrb
              have Twrb := Lib.hid hT
              clear hT u0 u1
              have hqe : ((noteR l x.pid x.seq (k : Int)).1 != (noteR l x.pid x.seq (k : Int)).1) = false := by simp
              have cL1 := list_any _ _ _ _ wrb Twrb.out.t1 Twrb.out.o1.1
              go_upto_region 12 with (first
                | (go_at_call 21; refine cL1.mono ?_; clear cL1; rintro e w7 ⟨va, rfl, ha7, hb7⟩)
                | (go_at_call 21; refine (list_any _ _ _ _ w7 (Twrb.out.grown hb7).t2 Twrb.out.o2.1).mono ?_; rintro e w9 ⟨vb, rfl, ha9, hb9⟩)
                | (go_at_call 12; refine (sameS (ha7.toS.below hb9) ha9.toS).mono ?_; rintro e w10 ⟨he, hb10⟩; rw [decide_eq_true rfl] at he; subst he))
              have TN := Lib.hid (Twrb.out.grown (hb7.trans ((hb9.trans (hb10.mono hb9.size)).mono hb7.size)))
              clear ha7 ha9 hb7 hb9 hb10
              go_wp2
              go_roundg (gk - 1)
              case measure => have := Hk.out; omega
              case rel => exact ⟨k + 1, _, _, by have := Hk.out; omega, by go_num, TN.out⟩
      · have hkxi : ¬ (k : Int) < xs.length := by omega
        by_cases hky : k < ys.length
        · have hkyi : (k : Int) < ys.length := by omega
          obtain ⟨yb, yo, he, hlyb, hxc⟩ := Ys.out (by omega)
          subst he
          have hgx : ys[k]? = some ys[k] := List.getElem?_eq_getElem (by omega)
          obtain ⟨y, hx⟩ : ∃ x, x = ys[k] := ⟨_, rfl⟩
          rw [← hx] at hgx
          obtain ⟨q0, q1⟩ := hxc k y hgx
          have Q0 := Lib.hid q0
          have Q1 := Lib.hid q1
          clear q0 q1 hxc hgx hx
          have u0 := (Twr.out.below.cell (p := ⟨yb, yo + k * 2, none⟩) hlyb).trans Q0.out
          have u1 := (Twr.out.below.cell (p := ⟨yb, yo + k * 2 + 1, none⟩) hlyb).trans Q1.out
          go_upto_region 19 with fail
          go_cut [] (fun wx => T3 w wx w.heap.size m1 (m1 + 1) m2 (m2 + 1) m3 (m3 + 1) l l (noteR l3 y.pid y.seq (IntKind.i64.wrap (1000 + (k : Int)))).2)
          case first =>
            go_region_with (go_at_call 20; refine (note_any _ _ _ _ _ Twr.out.drew.t3 Twr.out.o3 y.pid y.seq (IntKind.i64.wrap (1000 + (k : Int)))).mono ?_; rintro e w3 ⟨rfl, h3, hg3⟩)
            all_goals (
              go_wp2
              go_meet
              (case rel => exact Twr.out.drew.note3 h3 (note_ok Twr.out.o3 y.pid y.seq (IntKind.i64.wrap (1000 + (k : Int)))) hg3))
          case rest =>
            have hT := hcut
            clear hcut
            rename World => wra
            have Twra := Lib.hid hT
            clear hT u0 u1
            have cL1 := list_any _ _ _ _ wra Twra.out.t1 Twra.out.o1.1
            go_upto_region 12 with (first
              | (go_at_call 21; refine cL1.mono ?_; clear cL1; rintro e w7 ⟨va, rfl, ha7, hb7⟩)
              | (go_at_call 21; refine (list_any _ _ _ _ w7 (Twra.out.grown hb7).t2 Twra.out.o2.1).mono ?_; rintro e w9 ⟨vb, rfl, ha9, hb9⟩)
              | (go_at_call 12; refine (sameS (ha7.toS.below hb9) ha9.toS).mono ?_; rintro e w10 ⟨he, hb10⟩; rw [decide_eq_true rfl] at he; subst he))
            have TN := Lib.hid (Twra.out.grown (hb7.trans ((hb9.trans (hb10.mono hb9.size)).mono hb7.size)))
            clear ha7 ha9 hb7 hb9 hb10
            go_wp2
            go_roundg (gk - 1)
            case measure => have := Hk.out; omega
            case rel => exact ⟨k + 1, _, _, by have := Hk.out; omega, by go_num, TN.out⟩
        · have hkyi : ¬ (k : Int) < ys.length := by omega
          go_wp2
          go_ret
          exact ⟨rfl, Twr.out.below⟩
end Go.Proofs.Ytmcahimapoddfaa
