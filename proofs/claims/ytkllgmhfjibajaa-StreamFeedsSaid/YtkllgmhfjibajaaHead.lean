/- The walks of wire's Head and Body. Conditions: the bytes are readable. -/
import Derived.Test.YtkllgmhfjibajaaRd
import Derived.Test.YtkllgmhfjibajaaExtend
namespace Go.Proofs.Ytkllgmhfjibajaa
open Go.RowKit

/-- The number that the bytes 1 to 4 are. -/
def hn (xs : List Int) : Int := IntKind.wrap .u32 (be ((xs.drop 1).take 4))
theorem hn_range (xs : List Int) : 0 ≤ hn xs ∧ hn xs < 4294967296 := by
  unfold hn
  rw [IntKind.wrap_u32]
  omega
/-- A frame's length by its first bytes, and the error. -/
def headP (xs : List Int) : Int × Int :=
  if 0 < xs.length ∧ xs.getD 0 0 ≠ 197 then (0, 160) else if xs.length < 5 then (0, 10) else if hn xs = 0 then (0, 160) else if hn xs > 4087 then (9 + hn xs, 163) else (9 + hn xs, 0)
theorem getD_some {xs : List Int} {x : Int} (h : xs[0]? = some x) : xs.getD 0 0 = x := by
  simp [List.getD_eq_getElem?_getD, h]
theorem BytesAt.sub {w : World} {b o : Nat} {xs : List Int} (h : BytesAt w (some ⟨b, o, none⟩) xs) (i n : Nat) : BytesAt w (some ⟨b, o + i, none⟩) ((xs.drop i).take n) := fun h0 => by
  rw [List.length_take, List.length_drop] at h0
  obtain ⟨b', o', e, h1, h2⟩ := h (by omega)
  injection e with e
  injection e with e e2 _
  subst e e2
  refine ⟨b, o + i, rfl, h1, fun j x hj => ?_⟩
  rw [List.getElem?_take] at hj
  split at hj
  · rw [List.getElem?_drop] at hj
    rw [Nat.add_assoc]
    exact h2 _ _ hj
  · cases hj
theorem Byt.sub {xs : List Int} (h : Byt xs) (i n : Nat) : Byt ((xs.drop i).take n) := fun x hx => h x (List.mem_of_mem_drop (List.mem_of_mem_take hx))
set_option maxRecDepth 100000 in
set_option maxHeartbeats 4000000 in
theorem head_any (A : Option Addr) (xs : List Int) (c : Nat) (w : World) (hc : xs.length ≤ c ∧ c ≤ maxLen) (hx : BytesAt w A xs) (hby : Byt xs) :
    Calls Try.prog 61 #[.slice A xs.length c] w fun e w' => Below w.heap.size w w' ∧ e = .returned (.tuple #[.int .i64 (headP xs).1, .int .i64 (headP xs).2]) := by
  have hcm := hc.2
  unfold maxLen at hcm
  have hlc := hc.1
  obtain ⟨n, hn1⟩ : ∃ n, n = hn xs := ⟨_, rfl⟩
  have hr0 : 0 ≤ n := by rw [hn1]; exact (hn_range xs).1
  have hr1 : n < 4294967296 := by rw [hn1]; exact (hn_range xs).2
  obtain ⟨r, hr⟩ : ∃ r, r = headP xs := ⟨_, rfl⟩
  have hrr := hr
  rw [headP, ← hn1] at hrr
  rw [← hr]
  have Hr := Lib.hid hrr
  clear hr hrr
  by_cases h0 : 0 < xs.length
  · obtain ⟨b, o, x, rfl, hbl, hx0, q0⟩ := hx.at_ h0
    have hg := getD_some hx0
    have h0i : (0 : Int) < xs.length := by omega
    have q1 : w.cell? ⟨b, o, none⟩ = some (.int .u8 x) := q0
    clear q0
    by_cases hm : x = 197
    · have Hm := Lib.hid hm
      by_cases h5 : xs.length < 5
      · have h5i : (xs.length : Int) < 5 := by omega
        have e : r = (0, 10) := by rw [Hr.out, hg, if_neg (by simp [hm]), if_pos h5]
        subst e
        clear hx0 hg hn1
        subst hm
        go_enter Try.func61, Try.ntmps61
        go_wp2
        go_ret2
        exact ⟨Below.refl _ _, rfl⟩
      · have h5i : ¬ (xs.length : Int) < 5 := by omega
        have e : r = if n = 0 then (0, 160) else if n > 4087 then (9 + n, 163) else (9 + n, 0) := by rw [Hr.out, hg, if_neg (by simp [hm]), if_neg h5]
        have He := Lib.hid e
        have hs4 := hx.sub 1 4
        have hb4 := hby.sub 1 4
        have hl4 : ((xs.drop 1).take 4).length = 4 := by rw [List.length_take, List.length_drop]; omega
        obtain ⟨ys, hys⟩ : ∃ ys, ys = (xs.drop 1).take 4 := ⟨_, rfl⟩
        have hn2 : n = IntKind.wrap .u32 (be ys) := by rw [hn1, hys]; rfl
        rw [← hys] at hs4 hb4 hl4
        have hy4 : (ys.drop 0).take 4 = ys := by rw [List.drop_zero, List.take_of_length_le (by omega)]
        clear hx0 hg hn1 hys Hr e
        subst hm
        have Hl := Lib.hid hl4
        have Hy4 := Lib.hid hy4
        have Hn2 := Lib.hid hn2
        have hnr := newReader_any (some ⟨b, o + 1, none⟩) ys (c - 1) w (by unfold maxLen; omega) (by omega) hs4 (by omega)
        rw [hl4] at hnr
        clear hl4 hn2 hy4 hs4
        go_enter Try.func61, Try.ntmps61
        go_upto_region 5 with fail
        go_cut [4] (fun v wx => v = .int .i64 n ∧ Below w.heap.size w wx)
        case first =>
          go_wp2_with (first
            | (go_at_call 77; refine hnr.mono ?_; clear hnr; rintro e w1 ⟨hbe, v, g, rfl, hrd, hov, hne, hg⟩; have hu := rU32_any g v 0 ys _ w1 hrd hov (by have := Hl.out; omega) hne hb4; rw [Hy4.out, ← Hn2.out] at hu)
            | (go_at_call 78; refine hu.mono ?_; clear hu; rintro e w2 ⟨hk, _, rfl⟩))
          go_meet
          case rel => exact ⟨by first | rfl | (go_num), Kp.to_below hbe hk hbe.size (fun j hj => by subst hj; exact hg)⟩
        case rest =>
          obtain ⟨rfl, hbe⟩ := hcut
          by_cases hn0 : n = 0
          · have e : r = (0, 160) := by rw [He.out, if_pos hn0]
            subst e hn0
            go_wp2
            go_ret2
            exact ⟨hbe, rfl⟩
          · by_cases hb : n > 4087
            · have e : r = (9 + n, 163) := by rw [He.out, if_neg hn0, if_pos hb]
              have hn9 : 9 + n < 9223372036854775808 := by omega
              subst e
              go_wp2
              go_ret2
              exact ⟨hbe, rfl⟩
            · have e : r = (9 + n, 0) := by rw [He.out, if_neg hn0, if_neg hb]
              subst e
              go_wp2
              go_ret2
              exact ⟨hbe, rfl⟩
    · have e : r = (0, 160) := by rw [Hr.out, hg, if_pos ⟨h0, hm⟩]
      subst e
      clear hx0 hg hn1
      go_enter Try.func61, Try.ntmps61
      go_wp2
      go_ret2
      exact ⟨Below.refl _ _, rfl⟩
  · have e : r = (0, 10) := by rw [Hr.out, if_neg (fun h => h0 h.1), if_pos (by omega)]
    subst e
    have h00 : xs.length = 0 := by omega
    rw [h00]
    clear hn1 h00 Hr hx hby hc hcm hlc h0
    go_enter Try.func61, Try.ntmps61
    go_wp2
    go_ret2
    exact ⟨Below.refl _ _, rfl⟩
end Go.Proofs.Ytkllgmhfjibajaa
