/- The walk of 'StreamCuts'. Conditions: the list is readable, within reach. -/
import Derived.Test.YtkllgmhfjibajaaPlaced
namespace Go.Proofs.Ytkllgmhfjibajaa
open Go.RowKit Go.Sort

theorem fill2 {α : Type} (ys zs : List α) (i : Nat) (y : α) (hy : ys[i]? = some y) (hl : i < zs.length) : (ys.take i ++ zs.drop i).set i y = ys.take (i + 1) ++ zs.drop (i + 1) := by
  have hi := (List.getElem?_eq_some_iff.1 hy).1
  have hlen : (ys.take i).length = i := by rw [List.length_take]; omega
  have e1 : zs.drop i = zs[i] :: zs.drop (i + 1) := List.drop_eq_getElem_cons (by omega)
  have e2 : (zs.drop i).set 0 y = y :: zs.drop (i + 1) := by rw [e1]; rfl
  rw [List.set_append_right _ _ (by omega), hlen, Nat.sub_self, List.take_add_one, hy, e2]
  simp

set_option maxRecDepth 100000 in
set_option maxHeartbeats 4000000 in
theorem law_any (n : Int) (A : Option Addr) (c : Nat) (xs : List Int) (w : World) (B : Nat) (hB : B ≤ w.heap.size) (h : IntsAt w B A xs) (hx : ∀ x ∈ xs, -9223372036854775808 ≤ x ∧ x ≤ 9223372036854775807) (hn : n ≤ 9223372036854775807) (hl : xs.length * 8 ≤ 140737488351232) :
    Calls Try.prog 6 #[.int .i64 n, .slice A xs.length c] w fun e w' => e = .returned (.bool true) ∧ Below w.heap.size w w' := by
  have hmk := make_ints (xs.length + 1) (by omega)
  rw [show ((xs.length + 1 : Nat) : Int) = (xs.length : Int) + 1 by omega] at hmk
  have hw1 : IntKind.i64.wrap ((xs.length : Int) + 1) = (xs.length : Int) + 1 := by rw [IntKind.wrap_i64]; omega
  have Hh := Lib.hid h
  have Hx := Lib.hid hx
  clear h hx
  go_enter Try.func6, Try.ntmps6
  go_upto_region 2 with fail
  have hb1 := zeros_ib (Blk.new w 3 (Array.replicate (xs.length + 1) (.int .i64 0)))
  have hbe : Below w.heap.size w (w.alloc (.cells (Array.replicate (xs.length + 1) (.int .i64 0)) 3)) := (Below.refl _ _).alloc (Nat.le_refl _) _
  generalize hW : World.alloc _ _ = W
  rw [hW] at hb1 hbe
  clear hW hmk hw1
  have HB1 := Lib.hid hb1
  have HBE := Lib.hid hbe
  clear hb1 hbe
  go_wp2
  go_loopg [6] xs.length (fun g vi wr => ∃ i : Nat, g + i = xs.length ∧ vi = .int .i64 (i : Nat) ∧ IB wr w.heap.size (xs.take i ++ (List.replicate (xs.length + 1) 0).drop i) ∧ Below w.heap.size w wr)
  case atStart => exact ⟨0, by omega, rfl, HB1.out, HBE.out⟩
  case round =>
    obtain ⟨i, hi, rfl, hg, hbe⟩ := hrel
    clear HB1 HBE
    have hin : i ≤ xs.length := by omega
    have Hi := Lib.hid hi
    have hgl := Blk.lt hg
    clear hi
    by_cases hil : i < xs.length
    · have hii : (i : Int) < xs.length := by omega
      have hii2 : (i : Int) < (xs.length : Int) + 1 := by omega
      obtain ⟨b, o, x, rfl, hb, hx1, q0⟩ := (Hh.out.below (hbe.mono hB)).at_ hil
      have hold : ∃ z, (xs.take i ++ (List.replicate (xs.length + 1) (0 : Int)).drop i)[i]? = some z := ⟨_, List.getElem?_eq_getElem (by simp; omega)⟩
      obtain ⟨z, hz⟩ := hold
      have c1 := hg.cell hz
      have f1 := Blk.frozen hg i
      have hg2 := hg.set i x
      rw [fill2 xs (List.replicate (xs.length + 1) (0 : Int)) i _ hx1 (by simp; omega)] at hg2
      have hb2 := hbe.setCell (p := ⟨w.heap.size, i, none⟩) (Nat.le_refl _) (.int .i64 x)
      have Hg := Lib.hid hg2
      have Hbe := Lib.hid hb2
      clear hg hbe hx1 hz hg2 hb2
      go_wp2
      go_roundg (gk - 1)
      case measure => have := Hi.out; omega
      case rel => exact ⟨i + 1, by have := Hi.out; omega, by go_num, Hg.out, Hbe.out⟩
    · obtain rfl : i = xs.length := by omega
      have hii : ¬ ((xs.length : Nat) : Int) < xs.length := by omega
      have hii2 : ((xs.length : Nat) : Int) < (xs.length : Int) + 1 := by omega
      have hii3 : ((xs.length : Nat) : Int) ≤ (xs.length : Int) + 1 := by omega
      have hold : ∃ z, (xs.take xs.length ++ (List.replicate (xs.length + 1) (0 : Int)).drop xs.length)[xs.length]? = some z := ⟨_, List.getElem?_eq_getElem (by simp)⟩
      obtain ⟨z, hz⟩ := hold
      have c1 := hg.cell hz
      have f1 := Blk.frozen hg xs.length
      have hg2 := hg.set xs.length (-77)
      have e0 : (xs.take xs.length ++ (List.replicate (xs.length + 1) (0 : Int)).drop xs.length).set xs.length (-77) = xs ++ [-77] := by
        rw [List.take_length, List.drop_replicate, show xs.length + 1 - xs.length = 1 by omega, List.set_append_right _ _ (Nat.le_refl _), Nat.sub_self]
        rfl
      rw [e0] at hg2
      have hb2 := hbe.setCell (p := ⟨w.heap.size, xs.length, none⟩) (Nat.le_refl _) (.int .i64 (-77))
      clear hg hbe hz e0
      go_upto_region 7 with fail
      generalize hW1 : World.setCell wr _ _ = w1
      rw [hW1] at hg2 hb2
      clear hW1 c1 f1
      have hin1 : IntsAt w1 w1.heap.size (some ⟨w.heap.size, 0, none⟩) xs := fun _ => ⟨w.heap.size, 0, rfl, Blk.lt hg2, fun i x hxi => by
        rw [Nat.zero_add]
        exact hg2.cell (by rw [List.getElem?_append_left (List.getElem?_eq_some_iff.1 hxi).1]; exact hxi)⟩
      obtain ⟨vs, hvs⟩ : ∃ vs, vs = (if n < 0 then [] else Ct.cuts (xs.map (· % (n + 1)))) := ⟨_, rfl⟩
      have hcu : Calls Try.prog 31 #[.int .i64 n, .slice (some ⟨w.heap.size, 0, none⟩) xs.length (xs.length + 1)] w1 fun e w' => (∃ v, e = .returned v ∧ OwnInts w' w1.heap.size v vs) ∧ Below w1.heap.size w1 w' := by
        rw [hvs]
        exact cuts_any n _ _ xs w1 w1.heap.size (Nat.le_refl _) hin1 Hx.out hn (by omega)
      have hry : ∀ u, Below w1.heap.size w1 u → Calls Try.prog 32 #[.int .i64 n, .slice A xs.length c] u fun e w' => (∃ v, e = .returned v ∧ OwnInts w' u.heap.size v vs) ∧ Below u.heap.size u w' := fun u hb => by
        rw [hvs]
        exact refcuts_any n _ _ xs u B (by have := hb.size; have := hb2.size; omega) (Hh.out.below ((hb2.trans (hb.mono hb2.size)).mono hB)) Hx.out hn hl
      have hvL : vs.length ≤ xs.length := by
        rw [hvs]
        split
        · simp
        · have := Ct.cuts_len (xs.map (· % (n + 1))) []
          rw [List.length_map] at this
          simp only [List.length_nil] at this
          show (List.foldl _ [] _).length ≤ _
          omega
      have Hg := Lib.hid hg2
      have Hb := Lib.hid hb2
      have Hin1 := Lib.hid hin1
      clear hg2 hb2 hin1 hvs
      go_upto_region 9 with (first
        | (go_at_call 31; refine Calls.mono hcu ?_; rintro e w2 ⟨⟨v1, rfl, ho1⟩, hb1⟩; have Ho1 := Lib.hid ho1; have Hb1 := Lib.hid hb1; have hry2 := hry _ hb1; clear ho1 hb1 hcu hry)
        | (go_at_call 32; refine Calls.mono hry2 ?_; rintro e w3 ⟨⟨v2, rfl, ho2⟩, hb2⟩; have Ho2 := Lib.hid ho2; have Hb2 := Lib.hid hb2; clear ho2 hb2 hry2))
      have hb13 := Hb1.out.trans (Hb2.out.mono Hb1.out.size)
      have hg3 := Blk.below Hg.out hb13 (Blk.lt Hg.out)
      have hin3 := (Hin1.out.below hb13).mono hb13.size
      have hbw3 := Hb.out.trans (hb13.mono Hb.out.size)
      have hat3 := (Hh.out.below (hbw3.mono hB)).mono (B' := w3.heap.size) (by have := hbw3.size; omega)
      obtain ⟨A1, c1, rfl, _, _, i1⟩ := (Ho1.out.below Hb2.out (Nat.le_refl _)).read (Nat.le_refl _)
      obtain ⟨A2, c2, rfl, _, _, i2⟩ := Ho2.out.read (Nat.le_refl _)
      have q77 := IB.cell (show IB w3 w.heap.size (xs ++ [-77]) from hg3) (i := xs.length) (x := -77) (by rw [List.getElem?_append_right (Nat.le_refl _), Nat.sub_self]; rfl)
      have Hin3 := Lib.hid hin3
      have Hat3 := Lib.hid hat3
      have Hbw3 := Lib.hid hbw3
      have I1 := Lib.hid i1
      have I2 := Lib.hid i2
      clear hg3 hin3 hat3 hbw3 i1 i2 Ho1 Ho2 Hb1 Hb2 Hg Hb Hin1 hb13 Hi hin
      go_wp2
      clear q77
      go_loopg [9] vs.length (fun g vi wx => ∃ i : Nat, g + i = vs.length ∧ vi = .int .i64 (i : Nat) ∧ ∃ j, wx = w3.drewN j)
      case atStart => exact ⟨0, by omega, rfl, 0, rfl⟩
      case round =>
        obtain ⟨i, hi, rfl, j, rfl⟩ := hrel
        have hin : i ≤ vs.length := by omega
        have Hi := Lib.hid hi
        clear hi
        by_cases hil : i < vs.length
        · have hiv : (i : Int) < vs.length := by omega
          obtain ⟨b, o, x, rfl, hb, hxk, q0⟩ := I1.out.at_ hil
          obtain ⟨b', o', x', rfl, hb', hxk', q0'⟩ := I2.out.at_ hil
          rw [hxk] at hxk'
          injection hxk' with hxk'
          subst hxk'
          clear hxk
          go_wp2
          go_quiet (fail)
          go_wp2
          go_roundg (gk - 1)
          case measure => have := Hi.out; omega
          case rel => exact ⟨i + 1, by have := Hi.out; omega, by go_num, _, rfl⟩
        · have hiv : ¬ (i : Int) < vs.length := by omega
          go_wp2
          go_loopg [10] xs.length (fun g vi wx => ∃ i : Nat, g + i = xs.length ∧ vi = .int .i64 (i : Nat) ∧ ∃ j, wx = w3.drewN j)
          case atStart => exact ⟨0, by omega, rfl, _, rfl⟩
          case round =>
            obtain ⟨k, hk, rfl, j2, rfl⟩ := hrel
            have hkn : k ≤ xs.length := by omega
            have Hk := Lib.hid hk
            clear hk
            by_cases hkl : k < xs.length
            · have hki : (k : Int) < xs.length := by omega
              have hki2 : (k : Int) < (xs.length : Int) + 1 := by omega
              obtain ⟨b, o, x, e1, hb, hxk, q0⟩ := Hin3.out.at_ hkl
              injection e1 with e1
              injection e1 with e1 e2 _
              subst e1 e2
              rw [Nat.zero_add] at q0
              obtain ⟨b', o', x', rfl, hb', hxk', q0'⟩ := Hat3.out.at_ hkl
              rw [hxk] at hxk'
              injection hxk' with hxk'
              subst hxk'
              clear hxk
              go_wp2
              go_quiet (fail)
              go_wp2
              go_roundg (gk - 1)
              case measure => have := Hk.out; omega
              case rel => exact ⟨k + 1, by have := Hk.out; omega, by go_num, _, rfl⟩
            · have hki : ¬ (k : Int) < xs.length := by omega
              have hbd := below_drewN Hbw3.out j2
              have hpl := placed_any n A c xs (w3.drewN j2) B (by have := hbd.size; omega) (Hh.out.below (hbd.mono hB)) Hx.out hn hl
              have Hbd := Lib.hid hbd
              clear hbd
              go_wp2_with (go_at_call 33; refine Calls.mono hpl ?_; rintro e w4 ⟨rfl, hb4⟩)
              go_ret
              exact ⟨rfl, Hbd.out.trans (hb4.mono Hbd.out.size)⟩
end Go.Proofs.Ytkllgmhfjibajaa
