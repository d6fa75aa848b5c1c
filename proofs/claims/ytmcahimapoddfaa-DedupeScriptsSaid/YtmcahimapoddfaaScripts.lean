/- The walk of 'DedupeScripts'. Conditions: the arguments are readable, the producers a little fewer than a slice bears. -/
import Derived.Test.YtmcahimapoddfaaStep
namespace Go.Proofs.Ytmcahimapoddfaa
open Go.RowKit Go.Maps

structure Sp where
  kind : Int
  pid : Int
  seq : Int
  off : Int
/-- v is a slice of the steps ss. -/
def SS (w : World) (v : Value) (ss : List Sp) : Prop := ∃ A c, v = .slice A ss.length c ∧ ss.length ≤ c ∧ c ≤ maxLen ∧
  (0 < ss.length → ∃ b o, A = some ⟨b, o, none⟩ ∧ b < w.heap.size ∧ ∀ i x, ss[i]? = some x → w.cell? ⟨b, o + i * 4, none⟩ = some (.int .i64 x.kind) ∧ w.cell? ⟨b, o + i * 4 + 1, none⟩ = some (.int .i64 x.pid) ∧
    w.cell? ⟨b, o + i * 4 + 2, none⟩ = some (.int .i64 x.seq) ∧ w.cell? ⟨b, o + i * 4 + 3, none⟩ = some (.int .i64 x.off))
theorem ST.kp {S : Nat → Prop} {B b m c : Nat} {v : Value} {l : List Pr} {W W' : World} (h : ST B W b m c v l) (hk : Kp S W W') (hS : ∀ j, S j → j < B) : ST B W' b m c v l :=
  ⟨h.tab.kept2 hk (fun e => by have := hS _ e; have := h.tab.lb; omega) (fun e => by have := hS _ e; have := h.tab.lm; omega), (hk.block c h.ref.lt (fun e => by have := hS _ e; have := h.hc; omega)).trans h.ref,
    h.own.kp2 hk (fun j hj e => by have := hS _ e; have := (h.own.lt hj).1; omega), h.ok, h.hc⟩

set_option maxRecDepth 100000 in
set_option maxHeartbeats 8000000 in
theorem scripts_any (v0 v1 : Value) (ps : List Pr) (ss : List Sp) (w : World) (h0 : PS w v0 ps) (h1 : SS w v1 ss) (hb : (ps.length + 2) * 24 ≤ 140737488355328) :
    Calls Try.prog 6 #[v0, v1] w fun e w' => e = .returned (.bool true) ∧ Below w.heap.size w w' := by
  have cR := roomy_any v0 ps w h0 hb
  have H0 := Lib.hid h0
  obtain ⟨A1, c1, rfl, x1, x2, x3⟩ := h1
  unfold maxLen at x2
  have X3 := Lib.hid x3
  clear h0 x3
  by_cases hN : NewOk ps
  rotate_left
  · have HN := Lib.hid hN
    clear hN
    go_enter Try.func6, Try.ntmps6
    go_wp2_with (first
      | (go_at_call 9; refine cR.mono ?_; rintro e w1 ⟨⟨g, cap, rfl, hR⟩, hb1⟩; have HR := Lib.hid hR; have Hb1 := Lib.hid hb1; clear hR hb1)
      | (go_at_call 23; refine (newS_no HR.out.toS HN.out).mono ?_; rintro e w2 ⟨rfl, hb2⟩; have Hb2 := Lib.hid hb2; clear hb2)
      | (go_at_call 24; refine (newRef_no v0 ps w2 (H0.out.below (Hb1.out.trans (Hb2.out.mono Hb1.out.size))) HN.out).mono ?_; rintro e w3 ⟨rfl, hb3⟩; have Hb3 := Lib.hid hb3; clear hb3)
      | (go_at_call 13; refine (kept_any g cap w.heap.size v0 ps w3 ((HR.out.keep (Hb2.out.block g HR.out.lt.2)).keep (Hb3.out.block g (Nat.lt_of_lt_of_le HR.out.lt.2 Hb2.out.size))) (H0.out.below (Hb1.out.trans ((Hb2.out.trans (Hb3.out.mono Hb2.out.size)).mono Hb1.out.size)))).mono ?_; rintro e w4 ⟨rfl, hb4⟩; have Hb4 := Lib.hid hb4; clear hb4))
    go_ret
    have b14 := Hb2.out.trans ((Hb3.out.trans (Hb4.out.mono Hb3.out.size)).mono Hb2.out.size)
    exact ⟨rfl, Hb1.out.trans (b14.mono Hb1.out.size)⟩
  · have h64 := hN.1
    have HN := Lib.hid hN
    clear hN
    go_enter Try.func6, Try.ntmps6
    go_upto_region 8 with (first
      | (go_at_call 9; refine cR.mono ?_; rintro e w1 ⟨⟨g, cap, rfl, hR⟩, hb1⟩; have HR := Lib.hid hR; have Hb1 := Lib.hid hb1; clear hR hb1)
      | (go_at_call 23; refine (newS_ok HR.out.toS HN.out).mono ?_; rintro e w2 ⟨rfl, ht2, hb2⟩; have Hb2 := Lib.hid hb2; have Ht2 := Lib.hid ht2; clear hb2 ht2)
      | (go_at_call 24; refine (newRef_ok v0 ps w2 (H0.out.below (Hb1.out.trans (Hb2.out.mono Hb1.out.size))) HN.out).mono ?_; rintro e w3 ⟨c3, v3, rfl, hcl, hc3, ho3, hb3⟩; have Hb3 := Lib.hid hb3; have Hcl := Lib.hid hcl; have Hc3 := Lib.hid hc3; have Ho3 := Lib.hid ho3; clear hb3 hcl hc3 ho3)
      | (go_at_call 13; refine (kept_any g cap w.heap.size v0 ps w3 ((HR.out.keep (Hb2.out.block g HR.out.lt.2)).keep (Hb3.out.block g (Nat.lt_of_lt_of_le HR.out.lt.2 Hb2.out.size))) (H0.out.below (Hb1.out.trans ((Hb2.out.trans (Hb3.out.mono Hb2.out.size)).mono Hb1.out.size)))).mono ?_; rintro e w4 ⟨rfl, hb4⟩; have Hb4 := Lib.hid hb4; clear hb4))
    have hst : ST w1.heap.size w3 (w1.heap.size + 1) w1.heap.size c3 v3 ps := ⟨Ht2.out.below Hb3.out (Nat.le_refl _), Hc3.out, Ho3.out.mono Hb2.out.size, HN.out, Nat.le_trans Hb2.out.size Hcl.out⟩
    have S4 := Lib.hid (hst.more Hb4.out)
    have hr4 : Room w4 w.heap.size g cap ps := ((HR.out.keep (Hb2.out.block g HR.out.lt.2)).keep (Hb3.out.block g (Nat.lt_of_lt_of_le HR.out.lt.2 Hb2.out.size))).keep (Hb4.out.block g (Nat.lt_of_lt_of_le HR.out.lt.2 (Nat.le_trans Hb2.out.size Hb3.out.size)))
    have b14 := Hb2.out.trans ((Hb3.out.trans (Hb4.out.mono Hb3.out.size)).mono Hb2.out.size)
    have B4 := Lib.hid (Hb1.out.trans (b14.mono Hb1.out.size))
    have cS := spoil_any _ w.heap.size _ _ w4 hr4.own h64 B4.out.size
    have Hg := Lib.hid HR.out.lt
    have Hw1 := Lib.hid Hb1.out.size
    clear hst hr4 b14 HR Hb1 Hb2 Ht2 Hb3 Hcl Hc3 Ho3 Hb4 cR
    go_upto_region 9 with (go_at_call 15; refine cS.mono ?_; rintro e w5 ⟨rfl, hk5⟩)
    have S5 := Lib.hid (S4.out.kp hk5 (fun j e => by have e' : some g = some j := e; injection e' with e'; have := Hg.out.2; omega))
    have B5 := Lib.hid (hk5.to_below B4.out B4.out.size (fun j e => by have e' : some g = some j := e; injection e' with e'; have := Hg.out.1; omega))
    clear hk5 cS S4 B4 h64
    generalize w1.heap.size = B1 at *
    go_wp2
    go_loopg [6, 8, 11] ss.length (fun g' t r i wr => ∃ (k b m c : Nat) (v : Value) (l : List Pr), g' + k = ss.length ∧ t = .pointer (some ⟨b, 0, none⟩) ∧ r = .pointer (some ⟨c, 0, none⟩) ∧ i = .int .i64 (k : Nat) ∧ ST B1 wr b m c v l ∧ Below w.heap.size w wr)
    case atStart => exact ⟨0, _, _, _, _, _, by omega, rfl, rfl, rfl, S5.out, B5.out⟩
    case round =>
      obtain ⟨k, b, m, c, v, l, hk, rfl, rfl, rfl, hS, hbw⟩ := hrel
      have Hk := Lib.hid hk
      have hkn : k ≤ ss.length := by omega
      have S := Lib.hid hS
      have Hbw := Lib.hid hbw
      by_cases hkl : k < ss.length
      · have hki : (k : Int) < ss.length := by omega
        obtain ⟨x, hx⟩ : ∃ x, ss[k]? = some x := ⟨_, List.getElem?_eq_getElem hkl⟩
        obtain ⟨sb, so, he, hsl, hc⟩ := X3.out (by omega)
        subst he
        obtain ⟨q0, q1, q2, q3⟩ := hc k x hx
        have Q0 := Lib.hid q0
        have Q1 := Lib.hid q1
        have Q2 := Lib.hid q2
        have Q3 := Lib.hid q3
        have z0 := (hbw.cell (p := ⟨sb, so + k * 4, none⟩) hsl).trans q0
        have Hsl := Lib.hid hsl
        clear q0 q1 q2 q3 hc hx hsl hS hbw hk
        by_cases h5 : x.kind = 5
        · have h5' : (x.kind == 5) = true := by simpa using h5
          have cC := clone_any B1 b m l wr S.out.tab S.out.ok.1
          clear h5
          go_upto_region 19 with (first
            | (go_at_call 22; refine cC.mono ?_; rintro e w6 ⟨rfl, ht6, hb6⟩; have S6 := Lib.hid (S.out.more hb6); have Ht6 := Lib.hid ht6; have Hb6 := Lib.hid hb6; clear hb6 ht6)
            | (go_at_call 25; refine (cloneRef_any c v l w6 S6.out.ref S6.out.own.toS S6.out.ok.1).mono ?_; rintro e w7 ⟨c7, v7, rfl, hcl, hc7, ho7, hb7⟩; have Hb7 := Lib.hid hb7; have Hcl := Lib.hid hcl; have Hc7 := Lib.hid hc7; have Ho7 := Lib.hid ho7; clear hb7 hcl hc7 ho7))
          have hB := S.out.hB
          have hst : ST B1 w7 (wr.heap.size + 1) wr.heap.size c7 v7 l := ⟨(Ht6.out.below Hb7.out (Nat.le_refl _)).mono hB, Hc7.out, Ho7.out.mono (Nat.le_trans hB Hb6.out.size), S.out.ok, Nat.le_trans hB (Nat.le_trans Hb6.out.size Hcl.out)⟩
          have T := Lib.hid hst
          have Hbt := Lib.hid (Hbw.out.trans ((Hb6.out.trans (Hb7.out.mono Hb6.out.size)).mono Hbw.out.size))
          clear hst hB cC S S6 Ht6 Hb6 Hb7 Hcl Hc7 Ho7 Hbw z0
          generalize wr.heap.size = mm at *
          have y0 := (Hbt.out.cell (p := ⟨sb, so + k * 4, none⟩) Hsl.out).trans Q0.out
          have y1 := (Hbt.out.cell (p := ⟨sb, so + k * 4 + 1, none⟩) Hsl.out).trans Q1.out
          have y2 := (Hbt.out.cell (p := ⟨sb, so + k * 4 + 2, none⟩) Hsl.out).trans Q2.out
          have y3 := (Hbt.out.cell (p := ⟨sb, so + k * 4 + 3, none⟩) Hsl.out).trans Q3.out
          have cT := step_any B1 (mm + 1) mm c7 v7 l w7 T.out x.kind x.pid x.seq x.off
          go_upto_region 20 with (go_at_call 26; refine cT.mono ?_; rintro e w8 ⟨rfl, v8, l8, hs8, hk8⟩)
          have S8 := Lib.hid hs8
          have B8 := Lib.hid (hk8.to_below Hbt.out Hbt.out.size (fun j e => Nat.le_trans Hw1.out e))
          have cL := list_any B1 _ _ l8 w8 hs8.tab hs8.ok.1
          clear hs8 hk8 cT T Hbt y0 y1 y2 y3
          go_wp2_with (first
            | (go_at_call 21; refine cL.mono ?_; rintro e w9 ⟨va, rfl, ha, hb9⟩; have S9 := Lib.hid (S8.out.more hb9); have Ha := Lib.hid ha; have Hb9 := Lib.hid hb9; clear hb9 ha)
            | (go_at_call 27; refine (listRef_any _ v8 l8 w9 S9.out.ref S9.out.own.toS S9.out.ok.1).mono ?_; rintro e w10 ⟨vw, rfl, hw10, hb10⟩; have S10 := Lib.hid (S9.out.more hb10); have Hw := Lib.hid hw10; have Ha10 := Lib.hid (Ha.out.below hb10 (Nat.le_refl _)); have Hb10 := Lib.hid hb10; clear hb10 hw10)
            | (go_at_call 12; refine (sameS Ha10.out.toS Hw.out.toS).mono ?_; rintro e w11 ⟨he, hb11⟩; rw [decide_eq_true rfl] at he; subst he; have S11 := Lib.hid (S10.out.more hb11); have Hb11 := Lib.hid hb11; clear hb11))
          have hk := Hk.out
          go_roundg (gk - 1)
          case measure => omega
          case rel => exact ⟨k + 1, _, _, _, v8, l8, by omega, rfl, rfl, by go_num, S11.out, B8.out.trans ((Hb9.out.trans ((Hb10.out.trans (Hb11.out.mono Hb10.out.size)).mono Hb9.out.size)).mono B8.out.size)⟩
        · have h5' : (x.kind == 5) = false := by simpa using h5
          have T := S
          have Hbt := Hbw
          clear h5
          go_upto_region 19 with fail
          clear z0
          have y0 := (Hbt.out.cell (p := ⟨sb, so + k * 4, none⟩) Hsl.out).trans Q0.out
          have y1 := (Hbt.out.cell (p := ⟨sb, so + k * 4 + 1, none⟩) Hsl.out).trans Q1.out
          have y2 := (Hbt.out.cell (p := ⟨sb, so + k * 4 + 2, none⟩) Hsl.out).trans Q2.out
          have y3 := (Hbt.out.cell (p := ⟨sb, so + k * 4 + 3, none⟩) Hsl.out).trans Q3.out
          have cT := step_any B1 b m c v l wr T.out x.kind x.pid x.seq x.off
          go_upto_region 20 with (go_at_call 26; refine cT.mono ?_; rintro e w8 ⟨rfl, v8, l8, hs8, hk8⟩)
          have S8 := Lib.hid hs8
          have B8 := Lib.hid (hk8.to_below Hbt.out Hbt.out.size (fun j e => Nat.le_trans Hw1.out e))
          have cL := list_any B1 _ _ l8 w8 hs8.tab hs8.ok.1
          clear hs8 hk8 cT T Hbt y0 y1 y2 y3
          go_wp2_with (first
            | (go_at_call 21; refine cL.mono ?_; rintro e w9 ⟨va, rfl, ha, hb9⟩; have S9 := Lib.hid (S8.out.more hb9); have Ha := Lib.hid ha; have Hb9 := Lib.hid hb9; clear hb9 ha)
            | (go_at_call 27; refine (listRef_any _ v8 l8 w9 S9.out.ref S9.out.own.toS S9.out.ok.1).mono ?_; rintro e w10 ⟨vw, rfl, hw10, hb10⟩; have S10 := Lib.hid (S9.out.more hb10); have Hw := Lib.hid hw10; have Ha10 := Lib.hid (Ha.out.below hb10 (Nat.le_refl _)); have Hb10 := Lib.hid hb10; clear hb10 hw10)
            | (go_at_call 12; refine (sameS Ha10.out.toS Hw.out.toS).mono ?_; rintro e w11 ⟨he, hb11⟩; rw [decide_eq_true rfl] at he; subst he; have S11 := Lib.hid (S10.out.more hb11); have Hb11 := Lib.hid hb11; clear hb11))
          have hk := Hk.out
          go_roundg (gk - 1)
          case measure => omega
          case rel => exact ⟨k + 1, _, _, _, v8, l8, by omega, rfl, rfl, by go_num, S11.out, B8.out.trans ((Hb9.out.trans ((Hb10.out.trans (Hb11.out.mono Hb10.out.size)).mono Hb9.out.size)).mono B8.out.size)⟩
      · have hki : ¬ (k : Int) < ss.length := by omega
        clear hk hS hbw hkl
        go_wp2
        go_ret
        exact ⟨rfl, Hbw.out⟩
end Go.Proofs.Ytmcahimapoddfaa
