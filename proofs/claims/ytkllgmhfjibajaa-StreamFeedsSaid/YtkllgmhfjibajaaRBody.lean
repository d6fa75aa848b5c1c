/- The walks of the reference's Head, same, Body. Conditions: the bytes are readable. -/
import Derived.Test.YtkllgmhfjibajaaRFrame
import Derived.Test.YtkllgmhfjibajaaSpoiltPlain
namespace Go.Proofs.Ytkllgmhfjibajaa
open Go.RowKit St
theorem four {ys : List Int} (h : ys.length = 4) : ∃ a b c d, ys = [a, b, c, d] := by
  match ys, h with
  | [a, b, c, d], _ => exact ⟨a, b, c, d, rfl⟩
set_option maxRecDepth 100000 in
set_option maxHeartbeats 4000000 in
theorem rhead_any (A : Option Addr) (xs : List Int) (c : Nat) (w : World) (hc : xs.length ≤ c ∧ c ≤ maxLen) (hx : BytesAt w A xs) (hby : Byt xs) :
    Calls Try.prog 56 #[.slice A xs.length c] w fun e w' => e = .returned (.tuple #[.int .i64 (headP xs).1, .int .i64 (headP xs).2]) ∧ w' = w := by
  have hcm := hc.2
  unfold maxLen at hcm
  have hlc := hc.1
  obtain ⟨n, hn1⟩ : ∃ n, n = hn xs := ⟨_, rfl⟩
  have hr0 : 0 ≤ n := by rw [hn1]; exact (hn_range xs).1
  have hr1 : n < 4294967296 := by rw [hn1]; exact (hn_range xs).2
  obtain ⟨r, hr⟩ : ∃ r, r = headP xs := ⟨_, rfl⟩
  have hrr := hr
  rw [headP, ← hn1] at hrr
  rw [← hr]
  have Hr := Lib.hid hrr
  clear hr hrr
  by_cases h0 : 0 < xs.length
  · obtain ⟨b, o, x, rfl, hbl, hx0, q0⟩ := hx.at_ h0
    have hg := getD_some hx0
    have h0i : (0 : Int) < xs.length := by omega
    have q1 : w.cell? ⟨b, o, none⟩ = some (.int .u8 x) := q0
    clear q0
    by_cases hm : x = 197
    · have Hm := Lib.hid hm
      by_cases h5 : xs.length < 5
      · have h5i : (xs.length : Int) < 5 := by omega
        have e : r = (0, 10) := by rw [Hr.out, hg, if_neg (by simp [hm]), if_pos h5]
        subst e
        clear hx0 hg hn1
        subst hm
        go_enter Try.func56, Try.ntmps56
        go_wp2
        go_ret2
        exact ⟨rfl, rfl⟩
      · have h5i : ¬ (xs.length : Int) < 5 := by omega
        have e : r = if n = 0 then (0, 160) else if n > 4087 then (9 + n, 163) else (9 + n, 0) := by rw [Hr.out, hg, if_neg (by simp [hm]), if_neg h5]
        have He := Lib.hid e
        obtain ⟨y0, y1, y2, y3, hys⟩ := four (ys := (xs.drop 1).take 4) (by rw [List.length_take, List.length_drop]; omega)
        have hb4 := hby.sub 1 4
        have hs4 := hx.sub 1 4
        rw [hys] at hb4 hs4
        have b0 := hb4 y0 (by simp)
        have b1 := hb4 y1 (by simp)
        have b2 := hb4 y2 (by simp)
        have b3 := hb4 y3 (by simp)
        have hn2 : n = ((y0 * 256 + y1) * 256 + y2) * 256 + y3 := by
          rw [hn1]
          unfold hn
          rw [hys, be4 b0 b1 b2 b3, wrap32 (by omega)]
        obtain ⟨b', o', e', _, hcc⟩ := hs4 (by simp)
        injection e' with e'
        have eb : b = b' := congrArg Addr.block e'
        have eo : o + 1 = o' := congrArg Addr.off e'
        rw [← eb, ← eo] at hcc
        have c0 : w.cell? ⟨b, o + 1, none⟩ = some (.int .u8 y0) := hcc 0 y0 rfl
        have c1 : w.cell? ⟨b, o + 2, none⟩ = some (.int .u8 y1) := by have := hcc 1 y1 rfl; rwa [Nat.add_assoc] at this
        have c2 : w.cell? ⟨b, o + 3, none⟩ = some (.int .u8 y2) := by have := hcc 2 y2 rfl; rwa [Nat.add_assoc] at this
        have c3 : w.cell? ⟨b, o + 4, none⟩ = some (.int .u8 y3) := by have := hcc 3 y3 rfl; rwa [Nat.add_assoc] at this
        have Hn2 := Lib.hid hn2
        clear hcc eb eo e' hs4 hb4 hys hx0 hg hn1 Hr e hn2
        subst hm
        have i1 : (1 : Int) < xs.length := by omega
        have i2 : (2 : Int) < xs.length := by omega
        have i3 : (3 : Int) < xs.length := by omega
        have i4 : (4 : Int) < xs.length := by omega
        go_enter Try.func56, Try.ntmps56
        go_wp2
        go_loopg [4, 5] 4 (fun gg nv iv wx => ∃ k : Nat, gg + k = 4 ∧ iv = .int .i64 ((k + 1 : Nat) : Int) ∧ nv = .int .i64 (match k with | 0 => 0 | 1 => y0 | 2 => y0 * 256 + y1 | 3 => (y0 * 256 + y1) * 256 + y2 | _ => n) ∧ w = wx)
        case atStart => exact ⟨0, rfl, rfl, rfl, rfl⟩
        case round =>
          obtain ⟨k, hk, rfl, rfl, rfl⟩ := hrel
          have Hk := Lib.hid hk
          have h5 : k = 0 ∨ k = 1 ∨ k = 2 ∨ k = 3 ∨ k = 4 := by omega
          clear hk
          rcases h5 with rfl | rfl | rfl | rfl | rfl
          · go_wp2
            go_roundg (gk - 1)
            case measure => have := Hk.out; omega
            case rel => exact ⟨1, by have := Hk.out; omega, rfl, by simp, rfl⟩
          · go_wp2
            go_roundg (gk - 1)
            case measure => have := Hk.out; omega
            case rel => exact ⟨2, by have := Hk.out; omega, rfl, rfl, rfl⟩
          · go_wp2
            go_roundg (gk - 1)
            case measure => have := Hk.out; omega
            case rel => exact ⟨3, by have := Hk.out; omega, rfl, rfl, rfl⟩
          · go_wp2
            go_roundg (gk - 1)
            case measure => have := Hk.out; omega
            case rel => exact ⟨4, by have := Hk.out; omega, rfl, congrArg (Value.int .i64) Hn2.out.symm, rfl⟩
          · by_cases hn0 : n = 0
            · have e : r = (0, 160) := by rw [He.out, if_pos hn0]
              have hnb : (n == 0) = true := by simp [hn0]
              subst e
              clear hn0
              go_wp2
              go_ret2
              exact ⟨rfl, rfl⟩
            · have hnb : (n == 0) = false := by simp [hn0]
              by_cases hb : n > 4087
              · have e : r = (9 + n, 163) := by rw [He.out, if_neg hn0, if_pos hb]
                have hn9 : n + 9 < 9223372036854775808 := by omega
                have hb2 : n + 9 > 4096 := by omega
                subst e
                go_wp2
                go_ret2
                exact ⟨by simp [Int.add_comm], rfl⟩
              · have e : r = (9 + n, 0) := by rw [He.out, if_neg hn0, if_neg hb]
                have hb2 : ¬ n + 9 > 4096 := by omega
                subst e
                go_wp2
                go_ret2
                exact ⟨by simp [Int.add_comm], rfl⟩
    · have e : r = (0, 160) := by rw [Hr.out, hg, if_pos ⟨h0, hm⟩]
      subst e
      clear hx0 hg hn1
      go_enter Try.func56, Try.ntmps56
      go_wp2
      go_ret2
      exact ⟨rfl, rfl⟩
  · have e : r = (0, 10) := by rw [Hr.out, if_neg (fun h => h0 h.1), if_pos (by omega)]
    subst e
    have h00 : xs.length = 0 := by omega
    rw [h00]
    clear hn1 h00 Hr hx hby hc hcm hlc h0
    go_enter Try.func56, Try.ntmps56
    go_wp2
    go_ret2
    exact ⟨rfl, rfl⟩
set_option maxRecDepth 100000 in
set_option maxHeartbeats 4000000 in
theorem rsame_any (A A' : Option Addr) (c c' : Nat) (xs ys : List Int) (w : World) (h : BytesAt w A xs) (h' : BytesAt w A' ys) (hl : xs.length ≤ 9223372036854775807) :
    Calls Try.prog 64 #[.slice A xs.length c, .slice A' ys.length c'] w fun e w' => e = .returned (.bool (decide (xs = ys))) ∧ ∃ n, w' = w.drewN n := by
  by_cases hlen : xs.length = ys.length
  · have hle : ((xs.length : Int) == ys.length) = true := by simp only [beq_iff_eq]; omega
    rw [← hlen]
    have Hlen := Lib.hid hlen
    have Hh := Lib.hid h
    have Hh' := Lib.hid h'
    clear hlen h h' hle
    go_enter Try.func64, Try.ntmps64
    go_wp2
    go_loopg [5] xs.length (fun g vi wr => ∃ k : Nat, g + k = xs.length ∧ vi = .int .i64 (k : Nat) ∧ xs.take k = ys.take k ∧ ∃ j, wr = w.drewN j)
    case atStart => exact ⟨0, by omega, rfl, rfl, 0, rfl⟩
    case round =>
      obtain ⟨k, hk, rfl, htk, j, rfl⟩ := hrel
      have Hk := Lib.hid hk
      have Htk := Lib.hid htk
      clear hk htk
      by_cases hlt : k < xs.length
      · have hki : (k : Int) < xs.length := by omega
        obtain ⟨b, o, x, rfl, _, hxk, q0⟩ := Hh.out.at_ hlt
        obtain ⟨b', o', y, rfl, _, hyk, q0'⟩ := Hh'.out.at_ (show k < ys.length by rw [← Hlen.out]; exact hlt)
        have Hxk := Lib.hid hxk
        have Hyk := Lib.hid hyk
        clear hxk hyk
        by_cases hxy : x = y
        · have hb : (x == y) = true := by simp [hxy]
          have hn : xs.take (k + 1) = ys.take (k + 1) := by
            rw [List.take_add_one, List.take_add_one, Htk.out, Hxk.out, Hyk.out, hxy]
          have Hn := Lib.hid hn
          clear hn hxy
          go_upto_region 6 with fail
          go_quiet (fail)
          go_wp2
          go_roundg (gk - 1)
          case measure => have := Hk.out; omega
          case rel => exact ⟨k + 1, by have := Hk.out; omega, by go_num, Hn.out, _, rfl⟩
        · have hb : (x == y) = false := by simp [hxy]
          have hne : xs ≠ ys := fun e => by
            have h1 := Hxk.out
            rw [e, Hyk.out] at h1
            exact hxy (Option.some.inj h1).symm
          have Hne := Lib.hid hne
          clear hne hxy
          go_upto_region 6 with fail
          go_quiet (fail)
          go_wp2
          go_ret
          exact ⟨by rw [decide_eq_false Hne.out]; rfl, _, by rw [World.drewN_drewN]⟩
      · have hki : ¬ (k : Int) < xs.length := by omega
        have he : xs = ys := by
          have h1 := Htk.out
          have hk2 : k = xs.length := by have := Hk.out; omega
          rw [hk2, List.take_length, Hlen.out, List.take_length] at h1
          exact h1
        have He := Lib.hid he
        clear he
        go_wp2
        go_ret
        exact ⟨by rw [decide_eq_true He.out]; rfl, _, rfl⟩
  · have hle : ((xs.length : Int) == ys.length) = false := by simp only [beq_eq_false_iff_ne, ne_eq]; omega
    have hne : xs ≠ ys := fun e => hlen (by rw [e])
    have Hne := Lib.hid hne
    clear hne h h'
    go_enter Try.func64, Try.ntmps64
    go_wp2
    go_ret
    exact ⟨by rw [decide_eq_false Hne.out]; rfl, 0, rfl⟩
/-- The reference's body of a frame. -/
def bodyR (xs : List Int) : List Int × Int := if frameOf (xs.drop 9) = xs then (xs.drop 9, 0) else ([], 160)
set_option maxRecDepth 100000 in
set_option maxHeartbeats 4000000 in
theorem rbody_any (A : Option Addr) (xs : List Int) (c : Nat) (w : World) (hc : xs.length ≤ c ∧ c ≤ maxLen) (hx : BytesAt w A xs) (hby : Byt xs) (hl : 10 ≤ xs.length ∧ xs.length ≤ 4096) :
    Calls Try.prog 57 #[.slice A xs.length c] w fun e w' => Below w.heap.size w w' ∧ ∃ v, e = .returned (.tuple #[v, .int .i64 (bodyR xs).2]) ∧ OwnB w' w.heap.size v (bodyR xs).1 := by
  have hcm := hc.2
  unfold maxLen at hcm
  have hlc := hc.1
  obtain ⟨b, o, rfl, hbl, _⟩ := hx (by omega)
  have hsub := hx.sub 9 (xs.length - 9)
  have hsl : ((xs.drop 9).take (xs.length - 9)) = xs.drop 9 := List.take_of_length_le (by rw [List.length_drop]; exact Nat.le_refl _)
  rw [hsl] at hsub
  have hyb : Byt (xs.drop 9) := fun x hx => hby x (List.mem_of_mem_drop hx)
  have hyl : (xs.drop 9).length = xs.length - 9 := List.length_drop
  have hdef : bodyR xs = if frameOf (xs.drop 9) = xs then (xs.drop 9, 0) else ([], 160) := rfl
  generalize hr : bodyR xs = r at *
  generalize hys : xs.drop 9 = ys at *
  have Hx := Lib.hid hx
  have Hdef := Lib.hid hdef
  have Hyl := Lib.hid hyl
  have hb1 := (Below.refl w.heap.size w).alloc (Nat.le_refl _) (.cells #[] 5)
  have ho1 : OwnB (w.alloc (.cells #[] 5)) w.heap.size (.slice (some ⟨w.heap.size, 0, none⟩) 0 0) [] := OwnB.of_blk (bs := []) (Blk.new w 5 #[]) (Nat.le_refl _) rfl (Nat.zero_le _)
  have hx1 := hsub.below hb1
  have Ho1 := Lib.hid ho1
  have Hx1 := Lib.hid hx1
  have Hb1 := Lib.hid hb1
  have hs1 := hb1.size
  have hc9 : ¬ c = 9 := by omega
  clear hx hdef hyl hb1 ho1 hx1 hsub hsl hys hr hby
  go_enter Try.func57, Try.ntmps57
  go_upto_region 4 with (at_builtin; refine wpList_app5 rfl _ _ rfl (v := .slice (some ⟨w.heap.size, 0, none⟩) 0 0) rfl Ho1.out ⟨b, o + 9, none⟩ (xs.length - 9) (c - 9) ys (by simp [Act.eval]) Hyl.out.symm Hx1.out (by omega) (by simp; omega) hs1 ?_; rintro g2 cap w1 hown hgr hat hlt)
  simp only [List.nil_append, List.length_nil, Nat.zero_add] at hown
  obtain ⟨A1, c1, e1, k1, k2, kx, _⟩ := (show OwnB w1 w.heap.size (.slice (some ⟨g2, 0, none⟩) (xs.length - 9) cap) ys from hown).read
  rw [Hyl.out] at e1 k1
  obtain ⟨rfl, -, rfl⟩ := Value.slice.inj e1
  have hb12 : Below w.heap.size w w1 := Hb1.out.grown hgr hs1 (fun j hj => by injection hj with hj; simp only at hj; omega)
  have hfr := rframe_any (some ⟨g2, 0, none⟩) ys cap w1 (by rw [Hyl.out]; exact ⟨k1, k2⟩) kx hyb (by rw [Hyl.out]; omega) (by rw [Hyl.out]; omega)
  rw [Hyl.out] at hfr
  have hx2 := Hx.out.below hb12
  have hlt2 := hb12.size
  have Hb12 := Lib.hid hb12
  have Hown := Lib.hid hown
  have Hx2 := Lib.hid hx2
  clear hb12 hown hx2 hgr hat kx e1
  go_upto_region 5 with (go_at_call 63; refine hfr.mono ?_; clear hfr; rintro e w2 ⟨hb2, fv, rfl, hof⟩)
  obtain ⟨Af, cf, rfl, kf1, kf2, kfx, kfA⟩ := hof.read
  have hfl : (frameOf ys).length = xs.length := by rw [frameOf_len, Hyl.out]; omega
  rw [hfl]
  have hsm := rsame_any Af (some ⟨b, o, none⟩) cf c (frameOf ys) xs w2 kfx (Hx2.out.below hb2) (by rw [hfl]; omega)
  rw [hfl] at hsm
  have hb22 : Below w.heap.size w w2 := Hb12.out.trans (hb2.mono hlt2)
  have hown2 := Hown.out.below hb2
  have Hb22 := Lib.hid hb22
  have Hown2 := Lib.hid hown2
  clear kfx kfA hof hb2 hb22 hown2 hfl kf1 kf2
  by_cases he : frameOf ys = xs
  · rw [decide_eq_true he] at hsm
    have e : r = (ys, 0) := by rw [Hdef.out, if_pos he]
    subst e
    have He := Lib.hid he
    clear he Hdef
    go_wp2_with (go_at_call 64; refine hsm.mono ?_; clear hsm; rintro e w3 ⟨rfl, n3, rfl⟩)
    go_ret2
    exact ⟨below_drewN Hb22.out _, _, rfl, Hown2.out.below (below_drewN (Below.refl _ _) _)⟩
  · rw [decide_eq_false he] at hsm
    have e : r = ([], 160) := by rw [Hdef.out, if_neg he]
    subst e
    clear he Hdef
    go_wp2_with (go_at_call 64; refine hsm.mono ?_; clear hsm; rintro e w3 ⟨rfl, n3, rfl⟩)
    go_ret2
    exact ⟨below_drewN Hb22.out _, _, rfl, OwnB.nil _ _⟩
theorem b4_be {a b c d : Int} (ha : 0 ≤ a ∧ a < 256) (hb : 0 ≤ b ∧ b < 256) (hc : 0 ≤ c ∧ c < 256) (hd : 0 ≤ d ∧ d < 256) : b4 (((a * 256 + b) * 256 + c) * 256 + d) = [a, b, c, d] := by
  unfold b4
  simp only [List.cons.injEq, and_true]
  omega
/-- Where the head is right the two bodies are one. -/
theorem bodyR_eq {xs : List Int} (hby : Byt xs) (h : headOk xs) : bodyR xs = bodyP xs := by
  obtain ⟨hl1, hl2⟩ := headOk_len h
  have hq := h.2
  have he := h.1
  have h0 : xs.getD 0 0 = 197 ∧ ¬ xs.length < 5 ∧ 9 + Go.Proofs.Ytkllgmhfjibajaa.hn xs = xs.length := by
    unfold headP at hq he
    split at he
    · cases he
    · rename_i a
      rw [if_neg a] at hq
      split at he
      · omega
      · rename_i b
        rw [if_neg b] at hq
        split at he
        · cases he
        · rename_i d
          rw [if_neg d] at hq
          split at he
          · cases he
          · rename_i f
            rw [if_neg f] at hq
            exact ⟨Decidable.byContradiction fun e => a ⟨by omega, e⟩, by omega, hq⟩
  obtain ⟨h197, _, hlen⟩ := h0
  match xs, hl1 with
  | x0 :: y0 :: y1 :: y2 :: y3 :: s0 :: s1 :: s2 :: s3 :: cs, _ =>
    have e0 : x0 = 197 := h197
    subst e0
    have r0 := hby y0 (by simp)
    have r1 := hby y1 (by simp)
    have r2 := hby y2 (by simp)
    have r3 := hby y3 (by simp)
    have t0 := hby s0 (by simp)
    have t1 := hby s1 (by simp)
    have t2 := hby s2 (by simp)
    have t3 := hby s3 (by simp)
    have hnx : Go.Proofs.Ytkllgmhfjibajaa.hn (197 :: y0 :: y1 :: y2 :: y3 :: s0 :: s1 :: s2 :: s3 :: cs) = ((y0 * 256 + y1) * 256 + y2) * 256 + y3 := by
      unfold Go.Proofs.Ytkllgmhfjibajaa.hn
      show IntKind.wrap .u32 (be [y0, y1, y2, y3]) = _
      rw [be4 r0 r1 r2 r3, wrap32 (by omega)]
    rw [hnx] at hlen
    simp only [List.length_cons] at hlen
    have hcl : ((y0 * 256 + y1) * 256 + y2) * 256 + y3 = (cs.length : Int) := by omega
    have hb4 : b4 (cs.length : Int) = [y0, y1, y2, y3] := by rw [← hcl]; exact b4_be r0 r1 r2 r3
    have hbo : bodyOf (197 :: y0 :: y1 :: y2 :: y3 :: s0 :: s1 :: s2 :: s3 :: cs) = cs := by
      unfold bodyOf
      simp
    have hdr : (197 :: y0 :: y1 :: y2 :: y3 :: s0 :: s1 :: s2 :: s3 :: cs).drop 9 = cs := rfl
    have hfo : frameOf cs = 197 :: y0 :: y1 :: y2 :: y3 :: (b4 (sumOf cs) ++ cs) := by rw [frameOf_eq, hb4]; rfl
    have hso : sumOk (197 :: y0 :: y1 :: y2 :: y3 :: s0 :: s1 :: s2 :: s3 :: cs) ↔ ((s0 * 256 + s1) * 256 + s2) * 256 + s3 = sumOf cs := by
      unfold sumOk
      rw [hbo]
      show IntKind.wrap .u32 (be [s0, s1, s2, s3]) = extP (extP 0 [y0, y1, y2, y3]) cs ↔ _
      rw [be4 t0 t1 t2 t3, wrap32 (by omega)]
      unfold sumOf
      rw [hb4]
    have hsr := sumOf_range cs
    unfold bodyR bodyP
    rw [if_pos h, hdr, hbo]
    by_cases hs : ((s0 * 256 + s1) * 256 + s2) * 256 + s3 = sumOf cs
    · rw [if_pos (hso.2 hs), if_pos]
      rw [hfo, ← hs, b4_be t0 t1 t2 t3]
      rfl
    · rw [if_neg (fun e => hs (hso.1 e)), if_neg]
      intro e
      rw [hfo] at e
      simp only [List.cons.injEq, true_and] at e
      have h4 : b4 (sumOf cs) = [s0, s1, s2, s3] := by
        have := congrArg (List.take 4) e
        simpa [b4] using this
      have := congrArg be h4
      rw [be_b4 hsr, be4 t0 t1 t2 t3] at this
      exact hs this.symm
end Go.Proofs.Ytkllgmhfjibajaa
