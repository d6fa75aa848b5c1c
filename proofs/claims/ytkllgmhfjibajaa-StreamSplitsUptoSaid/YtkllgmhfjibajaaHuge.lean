/- The walk of 'StreamHuge'. Conditions: none. -/
import Derived.Test.YtkllgmhfjibajaaChunks
import Derived.Test.YtkllgmhfjibajaaFramePlain
import Derived.Test.YtkllgmhfjibajaaAppRest
namespace Go.Proofs.Ytkllgmhfjibajaa
open Go.RowKit St
theorem behind_byt : Byt [98, 101, 104, 105, 110, 100] := fun x hx => by simp at hx; omega
attribute [local irreducible] Go.Calls in
set_option maxRecDepth 100000 in
set_option maxHeartbeats 4000000 in
theorem huge_any (n lim0 : Int) (A A1 : Option Addr) (bs xs1 : List Int) (c c1 : Nat) (w : World) (hc : bs.length ≤ c ∧ c ≤ maxLen) (hx : BytesAt w A bs) (hby : Byt bs)
    (h1 : IntsAt w w.heap.size A1 xs1) (h1x : ∀ x ∈ xs1, -9223372036854775808 ≤ x ∧ x ≤ 9223372036854775807) (h1l : xs1.length * 8 ≤ 140737488351232) :
    Calls Try.prog 7 #[.int .i64 n, .slice A bs.length c, .int .i64 lim0, .slice A1 xs1.length c1] w fun e w' => e = .returned (.bool true) ∧ Below w.heap.size w w' := by
  have hlim := bentI_range lim0
  have Hx := Lib.hid hx
  have H1 := Lib.hid h1
  have hcm := hc.2
  unfold maxLen at hcm
  have hcl := hc.1
  have Hby := Lib.hid hby
  clear hx h1 hby
  have hbn := bent_any lim0 w
  generalize bentI lim0 = lim at *
  have ht1 := Int.tmod_lt_of_pos n (b := 20000) (by decide)
  have ht2 := Int.lt_tmod_of_pos n (b := 20000) (by decide)
  go_enter Try.func7, Try.ntmps7
  go_upto_region 2 with (go_at_call 34; refine hbn.mono ?_; clear hbn; rintro e w ⟨rfl, rfl⟩)
  go_upto_region 3 with fail
  generalize Int.tmod n 20000 = y at *
  go_upto_if 26 with fail
  go_cut [9] (fun v wx => ∃ m : Nat, v = .int .i64 (m : Nat) ∧ m < 20000 ∧ w = wx)
  case first =>
    by_cases hy : y < 0
    · go_wp2
      go_meet
      case rel => exact ⟨(y + 20000).toNat, by congr 1; omega, by omega, rfl⟩
    · go_wp2
      go_meet
      case rel => exact ⟨y.toNat, by congr 1; omega, by omega, rfl⟩
  case rest =>
    obtain ⟨m, rfl, hm, rfl⟩ := hcut
    clear ht1 ht2
    go_upto_region 6 with fail
    obtain ⟨k0, hk0⟩ : ∃ k0 : Nat, (k0 : Int) = (m : Int) + lim - 8 := ⟨((m : Int) + lim - 8).toNat, by omega⟩
    rw [← hk0]
    have hk1 : 56 ≤ k0 ∧ k0 ≤ 24087 := by omega
    have hk2 : lim < 9 + (k0 : Int) := by omega
    clear hk0 hm
    go_upto_region 7 with fail
    have hb0 : Below w.heap.size w (w.alloc (.cells #[.int .u8 197, .int .u8 ((k0 : Int) / 16777216), .int .u8 ((k0 : Int) / 65536), .int .u8 ((k0 : Int) / 256), .int .u8 ((k0 : Int) % 256)] 5)) := (Below.refl w.heap.size w).alloc (Nat.le_refl _) _
    have e0 : [197, (k0 : Int) / 16777216, (k0 : Int) / 65536, (k0 : Int) / 256, (k0 : Int) % 256] = 197 :: b4 (k0 : Int) := by
      unfold b4
      rw [show (k0 : Int) / 16777216 % 256 = (k0 : Int) / 16777216 by omega, show (k0 : Int) / 65536 % 256 = (k0 : Int) / 65536 by omega, show (k0 : Int) / 256 % 256 = (k0 : Int) / 256 by omega]
    have ho0 : OwnB (w.alloc (.cells #[.int .u8 197, .int .u8 ((k0 : Int) / 16777216), .int .u8 ((k0 : Int) / 65536), .int .u8 ((k0 : Int) / 256), .int .u8 ((k0 : Int) % 256)] 5)) w.heap.size (.slice (some ⟨w.heap.size, 0, none⟩) 5 5) (197 :: b4 (k0 : Int)) := by
      rw [← e0]
      exact OwnB.of_blk (bs := [197, (k0 : Int) / 16777216, (k0 : Int) / 65536, (k0 : Int) / 256, (k0 : Int) % 256]) (Blk.new w 5 _) (Nat.le_refl _) rfl (by unfold maxLen; decide)
    have Hb0 := Lib.hid hb0
    have Ho0 := Lib.hid ho0
    clear hb0 ho0 e0
    go_wp2
    go_loopg [10, 11] (k0 + 4) (fun gg bv iv wx => ∃ k ys gb cap, gg + k = k0 + 4 ∧ iv = .int .i64 ((k : Nat) : Int) ∧ bv = .slice (some ⟨gb, 0, none⟩) (List.length ys) cap ∧ ys.length = k + 5 ∧ ys.take 5 = 197 :: b4 (k0 : Int) ∧ Byt ys ∧ OwnB wx w.heap.size (.slice (some ⟨gb, 0, none⟩) ys.length cap) ys ∧ Below w.heap.size w wx)
    case atStart => exact ⟨0, 197 :: b4 (k0 : Int), _, _, by omega, rfl, rfl, rfl, rfl, fun x hx => by rcases List.mem_cons.1 hx with rfl | hx; decide; exact b4_byt _ x hx, Ho0.out, Hb0.out⟩
    case round =>
      obtain ⟨k, ys, gb, cap, hk, rfl, rfl, hys, hy5, hyb, hown, hbe⟩ := hrel
      clear Hb0 Ho0
      have Hk := Lib.hid hk
      have Hys := Lib.hid hys
      have Hy5 := Lib.hid hy5
      have Hyb := Lib.hid hyb
      have Hown := Lib.hid hown
      have Hbe := Lib.hid hbe
      have hxr := Hx.out.below hbe
      clear hk hys hy5 hyb hown hbe
      by_cases hlt : k < k0 + 4
      · have hki : (k : Int) < (k0 : Int) + 4 := by omega
        have hnext : ∀ (x : Int), 0 ≤ x ∧ x < 256 → (ys ++ [x]).length = k + 1 + 5 ∧ (ys ++ [x]).take 5 = 197 :: b4 (k0 : Int) ∧ Byt (ys ++ [x]) := fun x hx => by
          have h1 := Hys.out
          refine ⟨by simp; omega, ?_, byt_app Hyb.out (fun y hy => by simp at hy; subst hy; exact hx)⟩
          rw [List.take_append_of_le_length (by omega)]
          exact Hy5.out
        have Hnext := Lib.hid hnext
        clear hnext
        have hbig : ys.length + 1 ≤ 140737488355328 := by have := Hys.out; have := hk1.2; omega
        by_cases h0 : 0 < bs.length
        · have h0i : (0 : Int) < bs.length := by omega
          have hm0 : ¬ (bs.length : Int) = 0 := by omega
          have hm1 : ((bs.length : Int) == 0) = false := by simp only [beq_eq_false_iff_ne, ne_eq]; omega
          have hm2 : Int.tmod (k : Int) (bs.length : Int) = ((k % bs.length : Nat) : Int) := by rw [Int.tmod_eq_emod_of_nonneg (by omega), Int.natCast_emod]
          have hm3 : k % bs.length < bs.length := Nat.mod_lt _ h0
          have hm4 : ((k % bs.length : Nat) : Int) < bs.length := by omega
          have hm5 : ¬ ((k % bs.length : Nat) : Int) < 0 := by omega
          obtain ⟨b, o, x, rfl, hbl, hxk, q0⟩ := hxr.at_ hm3
          have hxb := Hby.out x (List.mem_of_getElem? hxk)
          have Hxb := Lib.hid hxb
          clear hxr hxk hxb
          generalize k % bs.length = km at *
          go_upto_region 13 with fail
          have hxb : 0 ≤ x ∧ x < 256 := Hxb.out
          obtain ⟨hn1, hn2, hn3⟩ := Hnext.out (x) hxb
          have hb1 := (Below.refl wr.heap.size wr).alloc (Nat.le_refl _) (.cells #[.int .u8 (x)] 5)
          have ho1 := Hown.out.below hb1
          have hx1 : BytesAt (wr.alloc (.cells #[.int .u8 (x)] 5)) (some ⟨wr.heap.size, 0, none⟩) [x] := bytes_single (Blk.new wr 5 _)
          have hbs : w.heap.size ≤ (wr.alloc (.cells #[.int .u8 (x)] 5)).heap.size := Nat.le_trans Hbe.out.size hb1.size
          have hb2 : Below w.heap.size w (wr.alloc (.cells #[.int .u8 (x)] 5)) := Hbe.out.trans (hb1.mono Hbe.out.size)
          have Ho1 := Lib.hid ho1
          have Hx1 := Lib.hid hx1
          have Hbs := Lib.hid hbs
          have Hb2 := Lib.hid hb2
          have Hn1 := Lib.hid hn1
          have Hn2 := Lib.hid hn2
          have Hn3 := Lib.hid hn3
          clear hxb hb1 ho1 hx1 hbs hb2 hn1 hn2 hn3
          go_wp2_with (at_builtin; refine wpList_app5 rfl (.tmp 63) (.tmp 65) rfl (v := .slice (some ⟨gb, 0, none⟩) ys.length cap) (xs := ys) (by simp [Act.eval]) Ho1.out ⟨wr.heap.size, 0, none⟩ 1 1 [x] (by simp [Act.eval]) rfl Hx1.out (by decide) hbig Hbs.out ?_; rintro g2 cap2 w2 hown2 hgr hat hlt2)
          have hbe2 : Below w.heap.size w w2 := Hb2.out.grown hgr Hbs.out (fun j hj => (Hown.out.lt hj).1)
          go_roundg (gk - 1)
          case measure => have := Hk.out; omega
          case rel => exact ⟨k + 1, ys ++ [x], g2, cap2, by have := Hk.out; omega, by go_num, by simp, Hn1.out, Hn2.out, Hn3.out, by simpa using hown2, hbe2⟩
        · have h0i : ¬ (0 : Int) < bs.length := by omega
          clear hxr
          go_upto_region 13 with fail
          have hxb : 0 ≤ (k : Int) % 256 ∧ (k : Int) % 256 < 256 := ⟨by omega, by omega⟩
          obtain ⟨hn1, hn2, hn3⟩ := Hnext.out ((k : Int) % 256) hxb
          have hb1 := (Below.refl wr.heap.size wr).alloc (Nat.le_refl _) (.cells #[.int .u8 ((k : Int) % 256)] 5)
          have ho1 := Hown.out.below hb1
          have hx1 : BytesAt (wr.alloc (.cells #[.int .u8 ((k : Int) % 256)] 5)) (some ⟨wr.heap.size, 0, none⟩) [(k : Int) % 256] := bytes_single (Blk.new wr 5 _)
          have hbs : w.heap.size ≤ (wr.alloc (.cells #[.int .u8 ((k : Int) % 256)] 5)).heap.size := Nat.le_trans Hbe.out.size hb1.size
          have hb2 : Below w.heap.size w (wr.alloc (.cells #[.int .u8 ((k : Int) % 256)] 5)) := Hbe.out.trans (hb1.mono Hbe.out.size)
          have Ho1 := Lib.hid ho1
          have Hx1 := Lib.hid hx1
          have Hbs := Lib.hid hbs
          have Hb2 := Lib.hid hb2
          have Hn1 := Lib.hid hn1
          have Hn2 := Lib.hid hn2
          have Hn3 := Lib.hid hn3
          clear hxb hb1 ho1 hx1 hbs hb2 hn1 hn2 hn3
          go_wp2_with (at_builtin; refine wpList_app5 rfl (.tmp 63) (.tmp 65) rfl (v := .slice (some ⟨gb, 0, none⟩) ys.length cap) (xs := ys) (by simp [Act.eval]) Ho1.out ⟨wr.heap.size, 0, none⟩ 1 1 [(k : Int) % 256] (by simp [Act.eval]) rfl Hx1.out (by decide) hbig Hbs.out ?_; rintro g2 cap2 w2 hown2 hgr hat hlt2)
          have hbe2 : Below w.heap.size w w2 := Hb2.out.grown hgr Hbs.out (fun j hj => (Hown.out.lt hj).1)
          go_roundg (gk - 1)
          case measure => have := Hk.out; omega
          case rel => exact ⟨k + 1, ys ++ [(k : Int) % 256], g2, cap2, by have := Hk.out; omega, by go_num, by simp, Hn1.out, Hn2.out, Hn3.out, by simpa using hown2, hbe2⟩
      · have hki : ¬ (k : Int) < (k0 : Int) + 4 := by omega
        obtain rfl : k = k0 + 4 := by have := Hk.out; omega
        clear hxr hlt Hk Hx
        have hbs1 : ys.length = k0 + 9 := by have := Hys.out; omega
        clear Hys
        have hkc : ys.length ≤ cap ∧ cap ≤ maxLen := by
          obtain ⟨A', c', e, h1, h2, _⟩ := Hown.out.read
          injection e with _ _ e
          subst e
          exact ⟨h1, h2⟩
        have hkm := hkc.2
        unfold maxLen at hkm
        have hgb := Hown.out.lt (b := gb) rfl
        have hy4 : ys.take 4 = 197 :: x3 (k0 : Int) := by
          have h := congrArg (List.take 4) Hy5.out
          rw [List.take_take] at h
          exact h
        have hy1 : (ys.drop 4).take 1 = [(k0 : Int) % 256] := by
          have h := congrArg (List.drop 4) Hy5.out
          rw [List.drop_take] at h
          exact h
        have hcv := conv22
        have hb0 := (Below.refl wr.heap.size wr).alloc (Nat.le_refl _) (.cells #[.int .u8 98, .int .u8 101, .int .u8 104, .int .u8 105, .int .u8 110, .int .u8 100] 5 (6, 7))
        have hfr := frame_any (some ⟨wr.heap.size, 0, none⟩) [98, 101, 104, 105, 110, 100] 6 (wr.alloc (.cells #[.int .u8 98, .int .u8 101, .int .u8 104, .int .u8 105, .int .u8 110, .int .u8 100] 5 (6, 7))) ⟨by decide, by unfold maxLen; decide⟩ (bytes_of_obj (t := 5) (fr := (6, 7)) (heap_alloc_new wr _)) behind_byt (by decide) (by decide)
        have Hb0 := Lib.hid hb0
        have Hy4 := Lib.hid hy4
        have Hy1 := Lib.hid hy1
        have Hkc := Lib.hid hkc
        have Hgb := Lib.hid hgb
        have Hbs1 := Lib.hid hbs1
        have hy65 : 65 ≤ ys.length ∧ ys.length ≤ 24096 := by omega
        clear hb0 hy4 hy1 hkc hgb hbs1
        obtain ⟨fr, hfr0⟩ : ∃ fr, fr = frameOf [98, 101, 104, 105, 110, 100] := ⟨_, rfl⟩
        rw [← hfr0] at hfr
        have hfl : fr.length = 15 := by rw [hfr0, frameOf_len]; rfl
        have Hfr0 := Lib.hid hfr0
        have Hfl := Lib.hid hfl
        clear hfr0 hfl
        go_upto_region 15 with (go_at_call 35; refine hfr.mono ?_; clear hfr; rintro e w1 ⟨hb1, fv, rfl, hof⟩)
        obtain ⟨Af, cf, rfl, kf1, kf2, kfx, kfA⟩ := hof.read
        obtain ⟨fb, fo, rfl, _, _⟩ := kfx (by have := Hfl.out; omega)
        have hb01 : Below wr.heap.size wr w1 := Hb0.out.trans (hb1.mono Hb0.out.size)
        have hfa : ∀ a, (some ⟨fb, fo, none⟩ : Option Addr) = some a → wr.heap.size ≤ a.block ∧ a.block < w1.heap.size := fun a e => ⟨Nat.le_trans Hb0.out.size (hof.lt (kfA a e)).1, (hof.lt (kfA a e)).2⟩
        have Hb01 := Lib.hid hb01
        have Hfa := Lib.hid hfa
        have Hfx := Lib.hid kfx
        clear hb01 hfa kfx kfA hof hb1 Hb0 hcv
        go_upto_region 18 with (go_at_call 20; refine (new_good lim _ hlim).mono ?_; rintro e w2 ⟨rfl, hb2, hr2⟩)
        have hs01 := Hb01.out.size
        have hb02 : Below wr.heap.size wr w2 := Hb01.out.trans (hb2.mono hs01)
        have ho2 := Hown.out.below hb02
        have hfx2 := Hfx.out.below hb2
        have hs12 := hr2.blk.lt
        generalize hg : w1.heap.size = g at *
        have hgb := Hgb.out
        have hkl := Hkc.out.1
        have hf1 := feed_any g g (.slice none 0 0) (fresh lim) w2 (some ⟨gb, 0, none⟩) (197 :: x3 (k0 : Int)) cap hr2 (fresh_ok hlim) (Nat.le_of_lt hs12) (by rw [show (197 :: x3 (k0 : Int)).length = 4 from rfl]; exact ⟨by omega, Hkc.out.2⟩) (by rw [show (197 :: x3 (k0 : Int)).length = 4 from rfl]; decide) (by
          obtain ⟨A', c', e', _, _, hx', _⟩ := ho2.read
          injection e' with e' _ _
          subst e'
          have := hx'.sub 0 4
          rw [List.drop_zero, Hy4.out] at this
          exact this) (fun a e => by
          injection e with e
          subst e
          exact ⟨by simp only; omega, by simp only; omega, fun e => by cases e⟩) (fun x hx => Hyb.out x (List.mem_of_mem_take (i := 4) (by rw [Hy4.out]; exact hx)))
        rw [huge_four] at hf1
        rw [show (197 :: x3 (k0 : Int)).length = 4 from rfl] at hf1
        have Hb02 := Lib.hid hb02
        have Ho2 := Lib.hid ho2
        have Hfx2 := Lib.hid hfx2
        have Hr2 := Lib.hid hr2
        have Hb2 := Lib.hid hb2
        have Hg := Lib.hid hg
        have Hs12 := Lib.hid hs12
        have hc4 : ¬ cap = 4 := by omega
        have hc5 : ¬ cap = 5 := by omega
        clear hb02 ho2 hfx2 hr2 hb2 hg hs12
        go_upto_region 19 with (go_at_call 21; refine hf1.mono ?_; clear hf1; rintro e w3 ⟨tv1, rfl, v1, l1, hT1, hn1⟩)
        have hl1 : l1 = [] := List.map_eq_nil_iff.1 hT1.ps
        subst hl1
        have e1 := hn1 rfl
        subst e1
        clear hn1
        have hgs := Hb01.out.size
        have hnil : ∀ j, (j = g ∨ (Value.slice none 0 0).ownBlock = some j) → j = g := fun j h => h.elim id (fun e => by cases e)
        have ho3 := Ho2.out.kp hT1.kp (fun b hb h => by injection hb with hb; have := hnil _ h; simp only at hb; omega)
        have hfx3 := Hfx2.out.kp hT1.kp (fun a e h => by have := hnil _ h; have := (Hfa.out a e).2; omega)
        have hb03 : Below wr.heap.size wr w3 := Kp.to_below Hb02.out hT1.kp Hb02.out.size (fun j hj => by have := hnil _ hj; omega)
        have hv1 : ∀ j, v1.ownBlock = some j → w2.heap.size ≤ j ∧ j < w3.heap.size := fun j hj => by
          refine ⟨?_, (hT1.rd.own.lt hj).2⟩
          rcases hT1.at_ with h | h
          · rw [h] at hj; cases hj
          · exact h j hj
        have hs23 := hT1.kp.size
        have hf1 := feed_any g g v1 ⟨1, lim, 197 :: x3 (k0 : Int), 0, 0⟩ w3 (some ⟨gb, 4, none⟩) [(k0 : Int) % 256] (cap - 4) hT1.rd (by
          have := feed_ok (xs := 197 :: x3 (k0 : Int)) (fresh_ok hlim) (fun x hx => Hyb.out x (List.mem_of_mem_take (i := 4) (by rw [Hy4.out]; exact hx)))
          rw [huge_four] at this
          exact this) (by have := Hs12.out; omega) ⟨by simp only [List.length_singleton]; omega, by unfold maxLen; omega⟩ (by simp) (by
          obtain ⟨A', c', e', _, _, hx', _⟩ := ho3.read
          injection e' with e' _ _
          subst e'
          have := hx'.sub 4 1
          rw [Hy1.out] at this
          exact this) (fun a e => by
          injection e with e
          subst e
          exact ⟨by simp only; have := Hs12.out; omega, by simp only; omega, fun e => by have := hv1 _ e; have := Hs12.out; simp only at *; omega⟩) (fun x hx => by simp at hx; omega)
        rw [huge_five hk2 (by omega)] at hf1
        rw [show [(k0 : Int) % 256].length = 1 from rfl] at hf1
        have Ho3 := Lib.hid ho3
        have Hfx3 := Lib.hid hfx3
        have Hb03 := Lib.hid hb03
        have Hv1 := Lib.hid hv1
        have Hs23 := Lib.hid hs23
        clear ho3 hfx3 hb03 hv1 hs23 hT1 Ho2 Hfx2 Hb02 Hr2 Hb2
        go_upto_region 20 with (go_at_call 21; refine hf1.mono ?_; clear hf1; rintro e w4 ⟨tv2, rfl, v2, l2, hT2, _⟩)
        obtain ⟨pv, rfl⟩ := map_one hT2.ps
        have hfar : ∀ b, b < w2.heap.size ∧ b ≠ g → ¬ (b = g ∨ v1.ownBlock = some b) := fun b hb h => by
          rcases h with h | h
          · exact hb.2 h
          · have := Hv1.out b h
            omega
        have hs34 := hT2.kp.size
        have ho4 := Ho3.out.kp hT2.kp (fun b hb => by injection hb with hb; subst hb; exact hfar _ (by have := Hs12.out; simp only; omega))
        have hfx4 := Hfx3.out.kp hT2.kp (fun a e => hfar _ (by have := (Hfa.out a e).2; have := Hs12.out; omega))
        have hb04 : Below wr.heap.size wr w4 := Kp.to_below Hb03.out hT2.kp Hb03.out.size (fun j hj => by
          rcases hj with h | h
          · omega
          · have := Hv1.out j h; have := Hs12.out; omega)
        have hv2 : ∀ j, v2.ownBlock = some j → w2.heap.size ≤ j ∧ j < w4.heap.size := fun j hj => by
          refine ⟨?_, (hT2.rd.own.lt hj).2⟩
          have := Hs23.out
          rcases hT2.at_ with h | h
          · rw [h] at hj; exact (Hv1.out j hj).1
          · have := h j hj; omega
        have hs24 : w2.heap.size ≤ w4.heap.size := Nat.le_trans Hs23.out hs34
        obtain ⟨g2, c2, rfl, hg2, hg2', q0, q1, q2, q3, hf⟩ := hT2.pl.at_ (k := 0) rfl
        have hwt : Calls Try.prog 23 #[.pointer (some ⟨g, 0, none⟩)] w4 fun e w' => e = .returned (.int .i64 0) ∧ w' = w4 := waiting_any _ _ _ _ _ hT2.rd
        have hen : Calls Try.prog 27 #[.pointer (some ⟨g, 0, none⟩)] w4 fun e w' => e = .returned (.int .i64 10) ∧ w' = w4 := end_any _ _ _ _ _ hT2.rd
        have hr4 := hT2.rd
        have hok4 : Ok ⟨3, lim, [], (k0 : Int) + 4, 9 + (k0 : Int)⟩ := by
          have h1 := feed_ok (xs := ys.take 5) (fresh_ok hlim) (fun x hx => Hyb.out x (List.mem_of_mem_take hx))
          have h2 := feed_append (197 :: x3 (k0 : Int)) [(k0 : Int) % 256] (fresh lim)
          rw [huge_four] at h2
          simp only at h2
          rw [huge_five hk2 (by omega)] at h2
          rw [Hy5.out, b4_x3] at h1
          rw [show 197 :: (x3 (k0 : Int) ++ [(k0 : Int) % 256]) = (197 :: x3 (k0 : Int)) ++ [(k0 : Int) % 256] from rfl, h2] at h1
          exact h1
        simp only [Nat.zero_mul, Nat.zero_add] at q0 q1 q2 q3
        have Ho4 := Lib.hid ho4
        have Hfx4 := Lib.hid hfx4
        have Hb04 := Lib.hid hb04
        have Hv2 := Lib.hid hv2
        have Hs24 := Lib.hid hs24
        have Hr4 := Lib.hid hr4
        have Hok4 := Lib.hid hok4
        have Hs23 := Lib.hid Hs23.out
        clear ho4 hfx4 hb04 hv2 hs24 hr4 hok4 hT2 hfar hs34 Ho3 Hfx3 Hb03 Hv1 hf hg2 hg2' q1
        go_upto_region 22 with (first | (go_at_call 23; refine hwt.mono ?_; clear hwt; rintro e w' ⟨rfl, rfl⟩) | (go_at_call 27; refine hen.mono ?_; clear hen; rintro e w' ⟨rfl, rfl⟩))
        clear q0 q2 q3
        go_upto_region 24 with (at_builtin; refine wpList_app_rest rfl (.tmp 137) (.tmp 138) rfl (k := 5) Ho4.out (by omega) (by simp [Act.eval]) _ fr.length cf fr (by simp [Act.eval]) rfl Hfx4.out (by have := Hfl.out; omega) (by have := Hfl.out; omega) ?_; intro A' c' w5 hx5 hl5 hm5 hkp5 hA5)
        have hs45 := hkp5.size
        obtain ⟨zs, hzs⟩ : ∃ zs, zs = ys.drop 5 ++ fr := ⟨_, rfl⟩
        have hzl : zs.length = ys.length - 5 + fr.length := by rw [hzs, List.length_append, List.length_drop]
        have hzb : Byt zs := by
          rw [hzs, Hfr0.out]
          exact byt_app (fun x hx => Hyb.out x (List.mem_of_mem_drop hx)) (frameOf_byt behind_byt)
        rw [← hzs] at hx5
        have hfeed : ∃ E F, feed ⟨3, lim, [], (k0 : Int) + 4, 9 + (k0 : Int)⟩ zs = (⟨1, lim, [], E, F⟩, [⟨0, [98, 101, 104, 105, 110, 100], (k0 : Int) + 9, 0⟩]) := by
          rw [hzs, Hfr0.out, Int.add_comm 9 (k0 : Int)]
          have h := huge_rest (n := (k0 : Int)) (lim := lim) (xs := ys.drop 5) (cs := [98, 101, 104, 105, 110, 100]) (by rw [List.length_drop]; have := Hbs1.out; omega) (by omega) (by decide) (by have := hlim.1; simp only [List.length_cons, List.length_nil]; omega) hlim.2
          rw [Int.add_comm 9 (k0 : Int)] at h
          exact ⟨_, _, h⟩
        obtain ⟨E, F, hfeed⟩ := hfeed
        have hr5 := Hr4.out.kp hkp5 (by omega) (fun b hb h => by have := (Hv2.out b hb).1; have := Hs12.out; omega)
        have hb05 : Below w.heap.size w w5 := Kp.to_below (Hbe.out.trans (Hb04.out.mono Hbe.out.size)) hkp5 (Nat.le_trans Hbe.out.size Hb04.out.size) (fun j hj => by omega)
        have hcut := cuts_any ((ys.length - 5 + fr.length : Nat) : Int) A1 c1 xs1 w5 w.heap.size hb05.size (H1.out.below hb05) h1x (by have := Hfl.out; omega) h1l
        have hlen : ys.length - 5 + fr.length ≤ 24106 := by have := Hfl.out; omega
        have hw0 := Hs24.out
        have Hr5 := Lib.hid hr5
        have Hb05 := Lib.hid hb05
        have Hx5 := Lib.hid hx5
        have HA5 := Lib.hid hA5
        have Hfeed := Lib.hid hfeed
        have Hzl := Lib.hid hzl
        have Hzb := Lib.hid hzb
        have Hl5 := Lib.hid hl5
        clear hzs hr5 hb05 hx5 hA5 hfeed hzl hzb hl5 hkp5 Hr4 Ho4 Hfx4 Hb04 Hown Hbe
        go_upto_region 25 with (first
          | (go_at_call 31; refine hcut.mono ?_; clear hcut; rintro e w6 ⟨⟨v5, rfl, hts⟩, hb6⟩; have hs56 := hb6.size
             have htold := told_gen g g v2 _ w6 A' zs c' v5 w5.heap.size _ (Hr5.out.below hb6) Hok4.out (by have := Hs12.out; omega) (by rw [Hzl.out]; exact ⟨Hl5.out, hm5⟩) (fun e => by
               obtain ⟨b, o, e', _⟩ := Hx5.out (by rw [Hzl.out]; omega)
               rw [e] at e'; cases e') (by rw [Hzl.out]; omega) (Hx5.out.below hb6) (fun h0 a e => by
               have h1 := Hx5.out.lt h0 e
               have := Hs12.out
               refine ⟨by omega, ?_, fun e2 => ?_⟩
               · rcases HA5.out a e with h | h <;> omega
               · have := Hv2.out _ e2
                 rcases HA5.out a e with h | h <;> omega) Hzb.out hts (fun j hj => by
               have h1 := (hts.lt hj).1
               have := Hs12.out
               exact ⟨by omega, fun e => by have := Hv2.out _ e; omega⟩)
             rw [Hfeed.out, Hzl.out] at htold)
          | (go_at_call 36; refine htold.mono ?_; clear htold; rintro e w7 ⟨tv3, rfl, v3, l3, hT3⟩))
        obtain ⟨pv3, rfl⟩ := map_one hT3.ps
        have hb07 : Below w.heap.size w w7 := Kp.to_below (Hb05.out.trans (hb6.mono Hb05.out.size)) hT3.kp (by have := Hb05.out.size; have := hb6.size; omega) (fun j hj => by
          have := Hs12.out
          rcases hj with h | h
          · omega
          · have := (Hv2.out j h).1; omega)
        obtain ⟨g3, c3, rfl, hg3, hg3', q0, q1, q2, q3, hf⟩ := hT3.pl.at_ (k := 0) rfl
        obtain ⟨B3, cb, eB, d1, d2, dx, dA⟩ := (hT3.pl.own 0 _ rfl).read
        simp only [Nat.zero_mul, Nat.zero_add] at q0 q1 q2 q3 eB
        subst eB
        have hcv := conv22
        have hbs := (Below.refl w7.heap.size w7).alloc (Nat.le_refl _) (.cells #[.int .u8 98, .int .u8 101, .int .u8 104, .int .u8 105, .int .u8 110, .int .u8 100] 5 (6, 7))
        have hs := samebytes_yes B3 (some ⟨w7.heap.size, 0, none⟩) cb 6 [98, 101, 104, 105, 110, 100] (w7.alloc (.cells #[.int .u8 98, .int .u8 101, .int .u8 104, .int .u8 105, .int .u8 110, .int .u8 100] 5 (6, 7))) (dx.below hbs) (bytes_of_obj (t := 5) (fr := (6, 7)) (heap_alloc_new w7 _)) (by decide)
        have hr7 := hT3.rd.below hbs
        have hen : ∀ n, Calls Try.prog 27 #[.pointer (some ⟨g, 0, none⟩)] ((w7.alloc (.cells #[.int .u8 98, .int .u8 101, .int .u8 104, .int .u8 105, .int .u8 110, .int .u8 100] 5 (6, 7))).drewN n) fun e w' => e = .returned (.int .i64 0) ∧ w' = (w7.alloc (.cells #[.int .u8 98, .int .u8 101, .int .u8 104, .int .u8 105, .int .u8 110, .int .u8 100] 5 (6, 7))).drewN n := fun n => end_any _ _ _ _ _ (hr7.drewN n)
        have Hb07 := Lib.hid hb07
        have Hbs := Lib.hid hbs
        clear hb07 hbs hr7 hT3 dx dA d1 d2 hf hg3 hg3' hb6 hts
        simp only [List.length_cons, List.length_nil, Nat.zero_add] at q1 hs
        go_wp2_with (first | (go_at_call 37; refine hs.mono ?_; clear hs; rintro e w8 ⟨rfl, n8, rfl⟩) | (go_at_call 27; refine (hen _).mono ?_; clear hen; rintro e w' ⟨rfl, rfl⟩))
        go_ret
        exact ⟨rfl, below_drewN (Hb07.out.trans (Hbs.out.mono Hb07.out.size)) _⟩
end Go.Proofs.Ytkllgmhfjibajaa
