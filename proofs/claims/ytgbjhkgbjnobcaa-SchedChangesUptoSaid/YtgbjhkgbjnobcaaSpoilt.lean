/- The walk of the law's spoilt: the lists written over and made longer. Conditions: the turns are owned, at most 64 queues, the lists within reach. -/
import Derived.Test.YtgbjhkgbjnobcaaKept
namespace Go.Proofs.Ytgbjhkgbjnobcaa
open Go.RowKit Trn

/-- An append to the costs of one queue. -/
theorem MV.grown {w wr w1 : World} {lo s i n : Nat} {vq vl : Value} {l0 l : List QV} {p : QV} {ys : List Int} (h : MV w lo vq [] l0 l wr) (hp : l[i]? = some p) (hsp : p.2.2 = []) (hvl : IR wr lo vl ys []) (hn : n = p.1.cs.length) (hat : AtV p.2.1 n vl s) (hs : ∀ b, FQ vq l b → b < s) (hsw : w.heap.size ≤ s)
    (hg : wr.grownBy w1 vl.ownBlock) (ho : ∀ v0 xs0, IR wr lo v0 xs0 [] → (∀ b o c, vl = .slice (some ⟨b, o, none⟩) ys.length c → ∀ o0 c0, v0 = .slice (some ⟨b, o0, none⟩) xs0.length c0 → o0 + xs0.length ≤ o + ys.length) → IR w1 lo v0 xs0 []) : MV w lo vq [] l0 l w1 := by
  subst hn
  refine ⟨h.tq.after hp hsp hvl hat hs hg ho, h.same, h.kp.trans (Kp.of_grown hg) fun j hj => ?_, h.old⟩
  rcases hat with ⟨b', o, c, n, e1, e2, _⟩ | hat
  · left
    have hj : vl.ownBlock = some j := hj
    rw [e2] at hj
    refine h.same.fq (.inr ⟨i, p, hp, ?_⟩)
    rw [e1]
    exact hj
  · exact .inr (Nat.le_trans hsw (hat j hj))
/-- The first k lists are spoilt. -/
def Sp (k : Nat) (l : List QV) : Prop := ∀ (i : Nat) (p : QV), i < k → l[i]? = some p → ∀ (j : Nat) (x : Int), p.1.cs[j]? = some x → x = -1 - (i : Int)

set_option maxRecDepth 100000 in
set_option maxHeartbeats 16000000 in
theorem spoilt_bare (vq : Value) (l : List QV) (lo : Nat) (at_ : Int) (fr : Bool) (w : World) (h : TQ w lo vq l []) (hsp : ∀ p ∈ l, p.2.2 = []) (hln : l.length ≤ 64) (hreach : ∀ p ∈ l, p.1.cs.length * 8 ≤ 140737488351240) (hlo : lo ≤ w.heap.size) :
    Calls Try.prog 16 #[.agg #[vq, .int .i64 at_, .bool fr]] w fun e w' => (∃ n : Int, e = .returned (.int .i64 n) ∧ 0 ≤ n) ∧ Kp (FQ vq l) w w' := by
  obtain ⟨i0, hi, hz0, hz1, hz2⟩ := info_parts info3
  obtain ⟨i1, hi', hz0', hz1', hz2'⟩ := info_parts info51
  obtain ⟨A, c, rfl, hlc, hcm⟩ := h.shape
  have hcm2 : c ≤ 9223372036854775807 := by unfold maxLen at hcm; omega
  have H := Lib.hid h
  have Hsp := Lib.hid hsp
  have Hreach := Lib.hid hreach
  have hx := Boxed.start w A l.length c at_ fr
  clear h hcm hsp hreach
  go_enter Try.func16, Try.ntmps16
  go_upto_region 1 with fail
  generalize hW1 : World.alloc _ _ = W1 at *
  clear hW1
  have hmv := (MV.start H.out).below hx.below
  have HX := Lib.hid hx.box
  have HM := Lib.hid hmv
  clear hx hmv
  go_wp2
  go_loopg [4] l.length (fun g vi wr => ∃ (k : Nat) (l' : List QV), g + k = l.length ∧ vi = .int .i64 (k : Nat) ∧ MV w lo (.slice A l.length c) [] l l' wr ∧ Blk wr w.heap.size 34 #[.slice A l.length c, .int .i64 at_, .bool fr] ∧ Sp k l')
  case atStart => exact ⟨0, l, by omega, rfl, HM.out, HX.out, fun i p hi => by omega⟩
  case round =>
    obtain ⟨k, l1, hk, rfl, hm, hxb, hspk⟩ := hrel
    have hkn : k ≤ l.length := by omega
    have Hk := Lib.hid hk
    have Hm := Lib.hid hm
    have Hxb := Lib.hid hxb
    have Hspk := Lib.hid hspk
    have x0 := hxb.cell 0
    simp at x0
    by_cases hkl : k < l.length
    · have hki : (k : Int) < l.length := by omega
      obtain ⟨p0, hp0⟩ : ∃ p0, l[k]? = some p0 := ⟨_, List.getElem?_eq_getElem hkl⟩
      have Hp0 := Lib.hid hp0
      obtain ⟨nk, hnk⟩ : ∃ nk, nk = p0.1.cs.length := ⟨_, rfl⟩
      have Hnk := Lib.hid hnk
      have hwk : IntKind.i64.wrap (-1 - (k : Int)) = -1 - k := by rw [IntKind.wrap_i64]; omega
      clear hnk hp0 hk hm hxb hspk
      go_wp2
      go_loopg [5] nk (fun g2 vi wx => ∃ (j : Nat) (l2 : List QV), g2 + j = nk ∧ vi = .int .i64 (j : Nat) ∧ MV w lo (.slice A l.length c) [] l l2 wx ∧ Blk wx w.heap.size 34 #[.slice A l.length c, .int .i64 at_, .bool fr] ∧ Sp k l2 ∧ ∃ p2, l2[k]? = some p2 ∧ ∀ (i : Nat) (x : Int), i < j → p2.1.cs[i]? = some x → x = -1 - (k : Int))
      case atStart => exact ⟨0, l1, by omega, rfl, Hm.out, Hxb.out, Hspk.out, _, List.getElem?_eq_getElem (by rw [Hm.out.same.1]; exact hkl), fun i x hi => by omega⟩
      case round =>
        obtain ⟨j, l2, hj, rfl, hm, hxb, hsp2, ⟨q2, u2, sp2⟩, hp2, hcs2⟩ := hrel
        have hjn : j ≤ nk := by omega
        have Hj := Lib.hid hj
        have Hm := Lib.hid hm
        have Hxb := Lib.hid hxb
        have Hsp2 := Lib.hid hsp2
        have Hcs2 := Lib.hid hcs2
        have x0 := hxb.cell 0
        simp at x0
        have hn2 : q2.cs.length = nk := by rw [Hnk.out]; exact (hm.same.2 k p0 _ Hp0.out hp2).2.2.1
        obtain ⟨g, c', hA, _, q0, q1, q2', q3, hfz⟩ := hm.tq.at_ hp2
        have hA' : A = some ⟨g, 0, none⟩ := by injection hA
        clear hA
        subst hA'
        dsimp only at q3
        have hir : IR wr lo u2 q2.cs sp2 := hm.tq.own k _ hp2
        obtain ⟨Aq, cq, hu, hcq, hcqm⟩ := hir.shape
        subst hu
        rw [hn2] at q3 hcq
        have hcq2 : cq ≤ 9223372036854775807 := by unfold maxLen at hcqm; omega
        have Hp2 := Lib.hid hp2
        have Hir := Lib.hid hir
        have Hn2 := Lib.hid hn2
        clear hj hm hxb hp2 hir hn2 q0 q1 q2' hfz hcqm hsp2 hcs2
        by_cases hjl : j < nk
        · have hji : (j : Int) < nk := by omega
          obtain ⟨x, hx⟩ : ∃ x, q2.cs[j]? = some x := ⟨_, List.getElem?_eq_getElem (by rw [Hn2.out]; exact hjl)⟩
          obtain ⟨b, o, c2, hA, _, y0, hfz⟩ := Hir.out.at_ (j := j) (x := x) (by rw [List.getElem?_append_left (List.getElem?_eq_some_iff.1 hx).1]; exact hx)
          have hA' : Aq = some ⟨b, o, none⟩ := by injection hA
          clear hA hx
          subst hA'
          have z0 := hfz (o + j)
          clear hfz
          go_upto_region 7 with fail
          have hjs : j < q2.cs.length := by rw [Hn2.out]; exact hjl
          have hm5 := Hm.out.setInt Hp2.out rfl hjs (-1 - (k : Int))
          have hfb : FQ (.slice (some ⟨g, 0, none⟩) l.length c) l b := Hm.out.same.fq (.inr ⟨k, _, Hp2.out, rfl⟩)
          have hxb5 := Hm.out.blk hfb (Nat.le_refl _) Hxb.out (o + j) (.int .i64 (-1 - (k : Int)))
          have hj := Hj.out
          have hk2 : k < l2.length := (List.getElem?_eq_some_iff.1 Hp2.out).1
          go_wp2
          go_roundg (gk - 1)
          case measure => omega
          case rel => exact ⟨j + 1, _, by omega, by go_num, hm5, hxb5, fun i p hi hp => by
              rw [List.getElem?_set_ne (by omega)] at hp
              exact Hsp2.out i p hi hp, _, List.getElem?_set_self hk2, fun i x hi hx => by
              have hx : (q2.cs.set j (-1 - (k : Int)))[i]? = some x := hx
              by_cases hij : j = i
              · subst hij
                rw [List.getElem?_set_self hjs] at hx
                injection hx with hx
                exact hx.symm
              · rw [List.getElem?_set_ne hij] at hx
                exact Hcs2.out i x (by omega) hx⟩
        · have hji : ¬ (j : Int) < nk := by omega
          have hje : j = nk := by omega
          have Hje := Lib.hid hje
          clear hje hjl hjn Hj
          go_wp2
          have hk := Hk.out
          go_roundg (l.length - (k + 1))
          case measure => omega
          case rel => exact ⟨k + 1, l2, by omega, by go_num, Hm.out, Hxb.out, fun i p hi hp => by
            rcases Nat.lt_or_ge i k with h | h
            · exact Hsp2.out i p h hp
            · obtain rfl : i = k := by omega
              rw [Hp2.out] at hp
              injection hp with hp
              subst hp
              intro j' x hx
              exact Hcs2.out j' x (by have := (List.getElem?_eq_some_iff.1 hx).1; rw [Hje.out, ← Hn2.out]; exact this) hx⟩
    · have hki : ¬ (k : Int) < l.length := by omega
      have hke : k = l.length := by omega
      have hs0 : Sp l.length l1 := by rw [← hke]; exact hspk
      have hspn : ∀ p ∈ l1, p.2.2 = [] := fun p hp => by
        obtain ⟨i, hi, rfl⟩ := List.mem_iff_getElem.1 hp
        have hil : i < l.length := by rw [← hm.same.1]; exact hi
        have := (hm.same.2 i _ _ (List.getElem?_eq_getElem hil) (List.getElem?_eq_getElem hi)).2.2.2
        rw [this]
        exact Hsp.out _ (List.getElem_mem hil)
      have Hs0 := Lib.hid hs0
      have Hspn := Lib.hid hspn
      clear hk hm hxb hspk hke hkl hkn hs0 hspn Hk Hspk
      go_wp2
      go_loopg [3, 6] l.length (fun g vn vi wr => ∃ (k : Nat) (n : Int), g + k = l.length ∧ vn = .int .i64 n ∧ vi = .int .i64 (k : Nat) ∧ 0 ≤ n ∧ n ≤ (k : Int) * 17592186044480 ∧ MV w lo (.slice A l.length c) [] l l1 wr ∧ Blk wr w.heap.size 34 #[.slice A l.length c, .int .i64 at_, .bool fr])
      case atStart => exact ⟨0, 0, by omega, rfl, rfl, Int.le_refl _, by simp, Hm.out, Hxb.out⟩
      case round =>
        obtain ⟨k, n, hk, rfl, rfl, hn0, hn1, hm, hxb⟩ := hrel
        have hkn : k ≤ l.length := by omega
        have Hk := Lib.hid hk
        have Hm := Lib.hid hm
        have Hxb := Lib.hid hxb
        have x0 := hxb.cell 0
        simp at x0
        by_cases hkl : k < l.length
        · have hki : (k : Int) < l.length := by omega
          have hl1 : l1.length = l.length := hm.same.1
          obtain ⟨⟨q2, u2, sp2⟩, hp2⟩ : ∃ p, l1[k]? = some p := ⟨_, List.getElem?_eq_getElem (by omega)⟩
          have hsp2 : sp2 = [] := Hspn.out _ (List.mem_of_getElem? hp2)
          subst hsp2
          have hq8 : q2.cs.length * 8 ≤ 140737488351240 := by
            have := (hm.same.2 k _ _ (List.getElem?_eq_getElem hkl) hp2).2.2.1
            dsimp only at this
            rw [this]
            exact Hreach.out _ (List.getElem_mem hkl)
          obtain ⟨g, c', hA, _, q0, q1, q2', q3, hfz⟩ := hm.tq.at_ hp2
          have hA' : A = some ⟨g, 0, none⟩ := by injection hA
          clear hA
          subst hA'
          dsimp only at q3
          have hir : IR wr lo u2 q2.cs [] := hm.tq.own k _ hp2
          obtain ⟨Aq, cq, hu, hcq, hcqm⟩ := hir.shape
          subst hu
          have hcq2 : cq ≤ 9223372036854775807 := by unfold maxLen at hcqm; omega
          have hfl : ∀ b, FQ (.slice (some ⟨g, 0, none⟩) l.length c) l1 b → b < wr.heap.size := fun b hb => (hm.tq.lt hb).2
          have hs0 := hm.kp.size
          have Hp2 := Lib.hid hp2
          have Hir := Lib.hid hir
          have Hfl := Lib.hid hfl
          have hwk : IntKind.i64.wrap (-99 - (k : Int)) = -99 - k := by rw [IntKind.wrap_i64]; omega
          clear hk hm hxb hp2 hir q0 q1 q2' hfz hcqm hl1 hfl
          obtain ⟨s, hs⟩ : ∃ s, s = wr.heap.size := ⟨_, rfl⟩
          have Hs := Lib.hid hs
          have hsw : w.heap.size ≤ s := by omega
          clear hs
          go_wp2
          go_loopg [7, 8] 64 (fun g2 vl vj wx => ∃ (j : Nat) (ys : List Int) (A2 : Option Addr) (c2 : Nat), g2 + j = 64 ∧ vl = .slice A2 ys.length c2 ∧ vj = .int .i64 (j : Nat) ∧ ys.length = q2.cs.length + j ∧ IR wx lo (.slice A2 ys.length c2) ys [] ∧ AtV (.slice Aq q2.cs.length cq) q2.cs.length (.slice A2 ys.length c2) s ∧ MV w lo (.slice (some ⟨g, 0, none⟩) l.length c) [] l l1 wx ∧ Blk wx w.heap.size 34 #[.slice (some ⟨g, 0, none⟩) l.length c, .int .i64 at_, .bool fr] ∧ s ≤ wx.heap.size)
          case atStart => exact ⟨0, q2.cs, Aq, cq, by omega, rfl, rfl, rfl, Hir.out, Hir.out.atv _, Hm.out, Hxb.out, by rw [Hs.out]; exact Nat.le_refl _⟩
          case round =>
            obtain ⟨j, ys, A2, c2, hj, rfl, rfl, hys, hir2, hat2, hm, hxb, hsx⟩ := hrel
            have hjn : j ≤ 64 := by omega
            have Hj := Lib.hid hj
            have Hys := Lib.hid hys
            have Hir2 := Lib.hid hir2
            have Hat2 := Lib.hid hat2
            have Hm := Lib.hid hm
            have Hxb := Lib.hid hxb
            have hys8 : ys.length * 8 ≤ 140737488352000 := by omega
            clear hj hys hir2 hat2 hm hxb x0 q3
            by_cases hjl : j < 64
            · have hji : (j : Int) < 64 := by omega
              go_wp2_with (first
                | (at_builtin; refine wpList_append_ir _ rfl _ _ 30 rfl i0 (.int .i64 0) Try.underlying30 hi hz0 hz1 hz2 rfl (lo := lo) (v := .slice A2 ys.length c2) (xs := ys) rfl (Hir2.out.keep fun b hb => Below.heap_alloc wr _ b (Hir2.out.lt hb).2) (by simp; omega) ⟨wr.heap.size, 0, none⟩ 1 1 [-99 - (k : Int)] rfl rfl (World.news_of_block (heap_alloc_new _ _)) (by unfold maxLen; omega) (by omega) ?_; intro A6 c6 w6 hi6 hg6 hat6 ho6))
              have hbl := (Below.refl wr.heap.size wr).alloc (Nat.le_refl _) (.cells #[.int .i64 (-99 - (k : Int))] 3)
              have hm6 := (Hm.out.below hbl).grown Hp2.out rfl (Hir2.out.keep fun b hb => Below.heap_alloc wr _ b (Hir2.out.lt hb).2) rfl Hat2.out (by rw [Hs.out]; exact Hfl.out) hsw hg6 ho6
              have hx6 := (Hxb.out.alloc (.cells #[.int .i64 (-99 - (k : Int))] 3)).grownBy hg6 (Hir2.out.ne_blk Hxb.out (by decide))
              have hat7 := Hat2.out.more (w := wr.alloc (.cells #[.int .i64 (-99 - (k : Int))] 3)) (by simp; omega) hat6
              have hs6 := hg6.size
              rw [World.size_alloc] at hs6
              have hj := Hj.out
              have hys := Hys.out
              have hl7 : (ys ++ [-99 - (k : Int)]).length = ys.length + 1 := by simp
              rw [← hl7] at hi6 hat7
              go_roundg (gk - 1)
              case measure => omega
              case rel => exact ⟨j + 1, _, A6, c6, by omega, by rw [hl7], by go_num, by rw [hl7]; omega, hi6, hat7, hm6, hx6, by omega⟩
            · have hji : ¬ (j : Int) < 64 := by omega
              have hys := Hys.out
              have hwn : IntKind.i64.wrap (n + (ys.length : Int)) = n + ys.length := by rw [IntKind.wrap_i64]; omega
              have hb1 : n + (ys.length : Int) ≤ ((k : Int) + 1) * 17592186044480 := by omega
              have hb0 : 0 ≤ n + (ys.length : Int) := by omega
              clear hys hjl hjn Hj Hys hys8
              go_wp2
              have hk := Hk.out
              go_roundg (l.length - (k + 1))
              case measure => omega
              case rel => exact ⟨k + 1, _, by omega, rfl, by go_num, hb0, by push_cast; exact hb1, Hm.out, Hxb.out⟩
        · have hki : ¬ (k : Int) < l.length := by omega
          have hke : k = l.length := by omega
          have hn2 : n ≤ 17592186044480 * 64 := by omega
          clear hk hm hxb hke hkl hkn Hk hn1
          go_wp2
          have htq1 := Hm.out.tq
          have Htq1 := Lib.hid htq1
          have Hkp1 := Lib.hid Hm.out.kp
          have Hal1 := Lib.hid Hm.out.same
          clear htq1
          go_loopg [9] l.length (fun g vi wr => ∃ (k : Nat) (l3 : List QV), g + k = l.length ∧ vi = .int .i64 (k : Nat) ∧ TQ wr lo (.slice A l.length c) l3 [] ∧ l3.length = l.length ∧ (∀ i, k ≤ i → l3[i]? = l1[i]?) ∧ (∀ b, FQ (.slice A l.length c) l3 b → FQ (.slice A l.length c) l b) ∧ Kp (FQ (.slice A l.length c) l) w wr ∧ Blk wr w.heap.size 34 #[.slice A l.length c, .int .i64 at_, .bool fr])
          case atStart => exact ⟨0, l1, by omega, rfl, Htq1.out, Hal1.out.1, fun _ _ => rfl, fun b hb => Hal1.out.fq hb, Hkp1.out, Hxb.out⟩
          case round =>
            obtain ⟨k, l3, hk, rfl, htq, hl3, hsame, hfq, hkp, hxb⟩ := hrel
            have hkn : k ≤ l.length := by omega
            have Hk := Lib.hid hk
            have Htq := Lib.hid htq
            have Hl3 := Lib.hid hl3
            have Hsame := Lib.hid hsame
            have Hfq := Lib.hid hfq
            have Hkp := Lib.hid hkp
            have Hxb := Lib.hid hxb
            have x0 := hxb.cell 0
            simp at x0
            by_cases hkl : k < l.length
            · have hki : (k : Int) < l.length := by omega
              obtain ⟨⟨q2, u2, sp2⟩, hp2⟩ : ∃ p, l3[k]? = some p := ⟨_, List.getElem?_eq_getElem (by omega)⟩
              obtain ⟨g, c', hA, _, q0, q1, q2', q3, hfz⟩ := htq.at_ hp2
              have hA' : A = some ⟨g, 0, none⟩ := by injection hA
              clear hA
              subst hA'
              dsimp only at q0 q1 q2' q3
              have hir : IR wr lo u2 q2.cs sp2 := htq.own k _ hp2
              obtain ⟨Aq, cq, hu, hcq, hcqm⟩ := hir.shape
              subst hu
              have hcq2 : cq ≤ 9223372036854775807 := by unfold maxLen at hcqm; omega
              have hall : ∀ (j : Nat) (x : Int), q2.cs[j]? = some x → x = -1 - (k : Int) := by
                have := hsame k (Nat.le_refl _)
                rw [hp2] at this
                exact Hs0.out k _ hkl this.symm
              have hgw : g < w.heap.size := by
                have := hfq g (.inl rfl)
                exact (H.out.lt this).2
              have z0 := hfz (k * 4)
              have z1 := hfz (k * 4 + 1)
              have z2 := hfz (k * 4 + 2)
              have z3 := hfz (k * 4 + 3)
              have Hp2 := Lib.hid hp2
              have Hir := Lib.hid hir
              have Hall := Lib.hid hall
              have hwk : IntKind.i64.wrap (-1 - (k : Int)) = -1 - k := by rw [IntKind.wrap_i64]; omega
              clear hk htq hl3 hsame hfq hkp hxb hp2 hir hall hfz hcqm
              obtain ⟨nk, hnk⟩ : ∃ nk, nk = q2.cs.length := ⟨_, rfl⟩
              rw [← hnk] at q3 hcq
              have Hnk := Lib.hid hnk
              clear hnk
              go_wp2
              go_loopg [10] nk (fun g2 vj wx => ∃ (j : Nat), g2 + j = nk ∧ vj = .int .i64 (j : Nat) ∧ wr = wx)
              case atStart => exact ⟨0, by omega, rfl, rfl⟩
              case round =>
                obtain ⟨j, hj, rfl, rfl⟩ := hrel
                have hjn : j ≤ nk := by omega
                have Hj := Lib.hid hj
                clear hj
                by_cases hjl : j < nk
                · have hji : (j : Int) < nk := by omega
                  obtain ⟨x, hx⟩ : ∃ x, q2.cs[j]? = some x := ⟨_, List.getElem?_eq_getElem (by rw [← Hnk.out]; exact hjl)⟩
                  have hxe := Hall.out j x hx
                  obtain ⟨b, o, c2, hA, _, y0, _⟩ := Hir.out.at_ (j := j) (x := x) (by rw [List.getElem?_append_left (List.getElem?_eq_some_iff.1 hx).1]; exact hx)
                  have hA' : Aq = some ⟨b, o, none⟩ := by injection hA
                  clear hA hx
                  subst hA'
                  rw [hxe] at y0
                  clear hxe
                  go_wp2
                  have hj := Hj.out
                  go_roundg (gk - 1)
                  case measure => omega
                  case rel => exact ⟨j + 1, by omega, by go_num, rfl⟩
                · have hji : ¬ (j : Int) < nk := by omega
                  clear hjl hjn Hj
                  go_wp2
                  have hk := Hk.out
                  have hirn : IR wr lo (.slice none 0 0) [] [] := .inl ⟨rfl, rfl, rfl⟩
                  have htq7 := Htq.out.setAll Hp2.out rfl (q := ⟨-5, 0, 0, []⟩) (u := .slice none 0 0) (sp := []) hirn (fun b hb => by cases hb)
                  have ht7 : Touch g wr ((((wr.setCell ⟨g, k * 4, none⟩ (.int .i64 (-5))).setCell ⟨g, k * 4 + 1, none⟩ (.int .i64 0)).setCell ⟨g, k * 4 + 2, none⟩ (.int .i64 0)).setCell ⟨g, k * 4 + 3, none⟩ (.slice none 0 0)) := ((((Touch.refl _ _).set_ _ _).set_ _ _).set_ _ _).set_ _ _
                  have hkp7 : Kp (FQ (.slice (some ⟨g, 0, none⟩) l.length c) l) w ((((wr.setCell ⟨g, k * 4, none⟩ (.int .i64 (-5))).setCell ⟨g, k * 4 + 1, none⟩ (.int .i64 0)).setCell ⟨g, k * 4 + 2, none⟩ (.int .i64 0)).setCell ⟨g, k * 4 + 3, none⟩ (.slice none 0 0)) :=
                    ⟨ht7.os.trans Hkp.out.os, ht7.tape.trans Hkp.out.tape, ht7.output.trans Hkp.out.output, by rw [ht7.size]; exact Hkp.out.size, fun b hb hn => (ht7.block b fun e => hn (by rw [e]; exact .inl rfl)).trans (Hkp.out.block b hb hn)⟩
                  go_roundg (l.length - (k + 1))
                  case measure => omega
                  case rel => exact ⟨k + 1, _, by omega, by go_num, htq7, by rw [List.length_set]; exact Hl3.out, fun i hi => by rw [List.getElem?_set_ne (by omega)]; exact Hsame.out i (by omega), fun b hb => Hfq.out b (FQ.of_set Hp2.out (fun b hb => by cases hb) hb), hkp7, ht7.blk Hxb.out (by omega)⟩
            · have hki : ¬ (k : Int) < l.length := by omega
              have hows := htq.owns
              rw [hl3] at hows
              have Hows := Lib.hid hows
              clear hk htq hl3 hsame hfq hkp hxb hkl hkn hows Hk
              go_wp2
              go_loopg [11] 64 (fun g vj wr => ∃ (j : Nat) (A2 : Option Addr) (c2 : Nat) (zs : List Value), g + j = 64 ∧ vj = .int .i64 (j : Nat) ∧ Blk wr w.heap.size 34 #[.slice A2 (l.length + j) c2, .int .i64 at_, .bool fr] ∧ wr.ownsRow lo 51 4 (.slice A2 (l.length + j) c2) (l.length + j) zs ∧ (∀ b, (Value.slice A2 (l.length + j) c2).ownBlock = some b → FQ (.slice A l.length c) l b ∨ w.heap.size ≤ b) ∧ Kp (FQ (.slice A l.length c) l) w wr)
              case atStart => exact ⟨0, A, c, _, by omega, rfl, Hxb.out, Hows.out, fun b hb => .inl (.inl hb), Hkp.out⟩
              case round =>
                obtain ⟨j, A2, c2, zs, hj, rfl, hxb, hown, hat, hkp⟩ := hrel
                have hjn : j ≤ 64 := by omega
                obtain ⟨nn, hnn⟩ : ∃ nn, nn = l.length + j := ⟨_, rfl⟩
                rw [← hnn] at hxb hown hat
                have hnn2 : nn ≤ 128 := by omega
                have x0' := hxb.cell 0
                simp at x0'
                have f0 := hxb.frozen 0
                have hws := hkp.size
                have hxlt := hxb.lt
                have Hj := Lib.hid hj
                have Hxb2 := Lib.hid hxb
                have Hown := Lib.hid hown
                have Hat := Lib.hid hat
                have Hkp2 := Lib.hid hkp
                have Hnn := Lib.hid hnn
                clear hj hxb hown hat hkp hnn x0
                by_cases hjl : j < 64
                · have hji : (j : Int) < 64 := by omega
                  have hne9 : (Value.slice A2 nn c2).ownBlock ≠ some w.heap.size := fun e => by
                    rcases Hown.out.2 with ⟨e', _⟩ | ⟨g', cap', cur', e', _, hh', _⟩
                    · rw [e'] at e
                      cases e
                    · rw [e'] at e
                      injection e with e
                      exact Blk.ne (show Blk wr g' 51 cur' from hh') Hxb2.out (by decide) e
                  go_wp2_with (first
                    | (at_builtin; refine wpList_append_lies _ rfl _ _ 32 rfl lo 51 i1 (.agg #[.int .i64 0, .int .i64 0, .int .i64 0, .slice none 0 0]) 4 48 Try.underlying32 hi' hz0' hz1' hz2' rfl (by decide) (.slice A2 nn c2) nn zs rfl (World.ownsRow.alloc Hown.out _) ⟨wr.heap.size, 0, none⟩ 1 1 (flat [qmark (-6)]) rfl rfl (World.news_of_block (heap_alloc_new _ _)) (by simp [flat, qmark, Value.oneCell']) (by decide) (by unfold maxLen; omega) (by omega) (by simp; omega) _ rfl ?_; intro g9 cap9 w9 hown9 hgr9 hat9 hlt9; have hc9 := (Hxb2.out.alloc (.cells #[.int .i64 (-6), .int .i64 0, .int .i64 0, .slice none 0 0] 51)).grownBy hgr9 hne9; have y0 := hc9.cell 0; simp at y0; have yf := hc9.frozen 0; have Hc9 := Lib.hid hc9; have Hown9 := Lib.hid hown9; have Hgr9 := Lib.hid hgr9; have Hat9 := Lib.hid hat9; clear hc9 hown9 hgr9 hat9))
                  have hj := Hj.out
                  have hnn := Hnn.out
                  have hgr9 : (wr.alloc (.cells #[.int .i64 (-6), .int .i64 0, .int .i64 0, .slice none 0 0] 51)).grownBy w9 (Value.slice A2 nn c2).ownBlock := Hgr9.out
                  have hx9 := Hc9.out.set_ 0 (.slice (some ⟨g9, 0, none⟩) (nn + 1) cap9)
                  have hg9w : g9 ≠ w.heap.size := by
                    intro e
                    rcases Hat9.out with h1 | h1
                    · exact hne9 (by rw [h1, e])
                    · simp at h1
                      omega
                  have ho9 : (w9.setCell ⟨w.heap.size, 0, none⟩ (.slice (some ⟨g9, 0, none⟩) (nn + 1) cap9)).ownsRow lo 51 4 (.slice (some ⟨g9, 0, none⟩) (nn + 1) cap9) (nn + 1) (zs ++ flat [qmark (-6)]) :=
                    row_keep Hown9.out fun b hb => Below.heap_setCell w9 _ _ b (by
                      have e : some g9 = some b := hb
                      injection e with e
                      show b ≠ w.heap.size
                      rw [← e]
                      exact hg9w)
                  have hat9 : ∀ b, (Value.slice (some ⟨g9, 0, none⟩) (nn + 1) cap9).ownBlock = some b → FQ (.slice A l.length c) l b ∨ w.heap.size ≤ b := fun b hb => by
                    have e : some g9 = some b := hb
                    injection e with e
                    rcases Hat9.out with h1 | h1
                    · exact Hat.out b (by rw [h1, e])
                    · simp at h1
                      exact .inr (by omega)
                  have hkp9 : Kp (FQ (.slice A l.length c) l) w (w9.setCell ⟨w.heap.size, 0, none⟩ (.slice (some ⟨g9, 0, none⟩) (nn + 1) cap9)) := by
                    have k1 := Hkp2.out.trans (Kp.of_below (S := fun _ => False) ((Below.refl wr.heap.size wr).alloc (Nat.le_refl _) (.cells #[.int .i64 (-6), .int .i64 0, .int .i64 0, .slice none 0 0] 51))) (fun _ hf => hf.elim)
                    have k2 := k1.trans (Kp.of_grown hgr9) (fun b hb => Hat.out b hb)
                    exact k2.trans (Kp.set w9 ⟨w.heap.size, 0, none⟩ _) (fun b (hb : w.heap.size = b) => .inr (by omega))
                  have hn1 : nn + 1 = l.length + (j + 1) := by omega
                  rw [hn1] at hx9 ho9 hat9 hkp9 ⊢
                  go_roundg (gk - 1)
                  case measure => omega
                  case rel => exact ⟨j + 1, _, _, _, by omega, by go_num, by simpa using hx9, ho9, hat9, hkp9⟩
                · have hji : ¬ (j : Int) < 64 := by omega
                  have hwn : IntKind.i64.wrap (n + (nn : Int)) = n + nn := by rw [IntKind.wrap_i64]; omega
                  clear hjl hjn Hj
                  go_wp2
                  go_ret
                  exact ⟨⟨_, rfl, by omega⟩, Hkp2.out⟩
/-- The same, whatever lies behind the lists. -/
theorem spoilt_any (vq : Value) (l : List QV) (lo : Nat) (at_ : Int) (fr : Bool) (w : World) (h : TQ w lo vq l []) (hln : l.length ≤ 64) (hreach : ∀ p ∈ l, p.1.cs.length * 8 ≤ 140737488351240) (hlo : lo ≤ w.heap.size) :
    Calls Try.prog 16 #[.agg #[vq, .int .i64 at_, .bool fr]] w fun e w' => (∃ n : Int, e = .returned (.int .i64 n) ∧ 0 ≤ n) ∧ Kp (FQ vq l) w w' := by
  refine (spoilt_bare vq _ lo at_ fr w h.bare (fun p hp => ?_) (by rw [List.length_map]; exact hln) (fun p hp => ?_) hlo).mono ?_
  · obtain ⟨p0, _, rfl⟩ := List.mem_map.1 hp
    rfl
  · obtain ⟨p0, h0, rfl⟩ := List.mem_map.1 hp
    exact hreach p0 h0
  · rintro e w' ⟨h1, h2⟩
    exact ⟨h1, h2.os, h2.tape, h2.output, h2.size, fun k hk hn => h2.block k hk fun hf => hn (FQ.bare.1 hf)⟩
end Go.Proofs.Ytgbjhkgbjnobcaa
