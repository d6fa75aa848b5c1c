/- The walks of the reference's sums: M, through, Extend, Sum. Conditions: the bytes are readable. -/
import Derived.Test.YtkllgmhfjibajaaSumPlain
namespace Go.Proofs.Ytkllgmhfjibajaa
open Go.RowKit
namespace Cr
theorem M_any (x : Nat) (w : World) (hx : x < 4294967296) : Calls Try.prog 102 #[.int .u32 (x : Int)] w fun e w' => e = .returned (.int .u32 (sN x : Int)) ∧ w' = w := by
  have hs : sN x = if x % 2 = 1 then (x / 2) ^^^ 2197175160 else x / 2 := rfl
  by_cases h : x % 2 = 1
  · have h1 : ((x : Int) % 2 == 1) = true := by simp only [beq_iff_eq]; omega
    have h2 := bits_xor (a := x / 2) (b := 2197175160) (by omega) (by decide)
    have e : ((x / 2 : Nat) : Int) = (x : Int) / 2 := by omega
    rw [if_pos h] at hs
    rw [e] at h2
    have h3 : bits .xor .u32 ((x : Int) / 2) 2197175160 = (sN x : Int) := by rw [hs]; exact h2
    have h4 : (x : Int).tmod 2 = (x : Int) % 2 := Int.tmod_eq_emod_of_nonneg (by omega)
    have h5 : (x : Int) % 2 = 1 := by omega
    clear hs h2 e h
    generalize (sN x : Int) = y at *
    go_enter Try.func102, Try.ntmps102
    go_wp2
    go_ret
    exact ⟨rfl, rfl⟩
  · have h1 : ((x : Int) % 2 == 1) = false := by simp only [beq_eq_false_iff_ne, ne_eq]; omega
    rw [if_neg h] at hs
    have h3 : (x : Int) / 2 = (sN x : Int) := by rw [hs]; omega
    have h4 : (x : Int).tmod 2 = (x : Int) % 2 := Int.tmod_eq_emod_of_nonneg (by omega)
    have h5 : (x : Int) % 2 = 0 := by omega
    clear hs h
    generalize (sN x : Int) = y at *
    have H3 := Lib.hid h3
    clear h3
    go_enter Try.func102, Try.ntmps102
    go_wp2
    go_ret
    exact ⟨by rw [← H3.out]; rfl, rfl⟩
theorem through_any (x c : Nat) (w : World) (hx : x < 4294967296) (hc : c < 256) : Calls Try.prog 99 #[.int .u32 (x : Int), .int .u8 (c : Int)] w fun e w' => e = .returned (.int .u32 (tN x c : Int)) ∧ w' = w := by
  have h2 := bits_xor (a := x) (b := c) hx (by omega)
  have hl := xor_lt hx (show c < 4294967296 by omega)
  have ht : tN x c = itN 8 (x ^^^ c) := rfl
  have hci : (c : Int) < 256 := by omega
  rw [ht]
  clear ht
  go_enter Try.func99, Try.ntmps99
  go_wp2
  clear h2
  generalize hz0 : x ^^^ c = z at *
  have Hz0 := Lib.hid hz0
  clear hz0
  go_loopg [0, 5] 8 (fun gg xv iv wx => ∃ k : Nat, gg + k = 8 ∧ iv = .int .i64 ((k : Nat) : Int) ∧ xv = .int .u32 (itN k z : Int) ∧ w = wx)
  case atStart => exact ⟨0, by omega, rfl, rfl, rfl⟩
  case round =>
    obtain ⟨k, hk, rfl, rfl, rfl⟩ := hrel
    have Hk := Lib.hid hk
    by_cases hlt : k < 8
    · have hki : (k : Int) < 8 := by omega
      have hM := M_any (itN k z) w (itN_lt k hl)
      have hn : sN (itN k z) = itN (k + 1) z := rfl
      rw [hn] at hM
      clear hk hn
      generalize itN k z = y at *
      generalize hz : itN (k + 1) z = y' at *
      have Hz := Lib.hid hz
      clear hz
      go_wp2_with (go_at_call 102; refine hM.mono ?_; clear hM; rintro e w' ⟨rfl, rfl⟩)
      go_roundg (gk - 1)
      case measure => have := Hk.out; omega
      case rel => exact ⟨k + 1, by have := Hk.out; omega, by go_num, by rw [Hz.out], rfl⟩
    · have hki : ¬ (k : Int) < 8 := by omega
      obtain rfl : k = 8 := by omega
      clear hk
      generalize hy : itN 8 z = y at *
      have Hy := Lib.hid hy
      clear hy
      go_wp2
      go_ret
      exact ⟨by rw [Hz0.out, Hy.out]; rfl, rfl⟩
theorem rextend_any (s : Nat) (A : Option Addr) (xs : List Int) (c : Nat) (w : World) (hs : s < 4294967296) (hc : xs.length ≤ c ∧ c ≤ maxLen) (hx : BytesAt w A xs) (hb : Byt xs) :
    Calls Try.prog 90 #[.int .u32 (s : Int), .slice A xs.length c] w fun e w' => e = .returned (.int .u32 (exN s xs : Int)) ∧ w' = w := by
  have hcm := hc.2
  unfold maxLen at hcm
  have hlc := hc.1
  have hnt := nt_eq hs
  unfold nt at hnt
  have hex : exN s xs = nN (foN (nN s) xs) := rfl
  have hnl := nN_lt hs
  have hlast : nt ((foN (nN s) xs : Nat) : Int) = (nN (foN (nN s) xs) : Int) := nt_eq (foN_lt hnl hb)
  unfold nt at hlast
  rw [← hex] at hlast
  clear hex
  generalize hE : exN s xs = E at *
  go_enter Try.func90, Try.ntmps90
  go_wp2
  clear hnt
  generalize nN s = n0 at *
  have Hl := Lib.hid hlast
  clear hlast
  go_loopg [5, 6] xs.length (fun gg x i wx => ∃ k : Nat, gg + k = xs.length ∧ i = .int .i64 (k : Nat) ∧ x = .int .u32 ((foN n0 (xs.take k) : Nat) : Int) ∧ w = wx)
  case atStart => exact ⟨0, by omega, rfl, rfl, rfl⟩
  case round =>
    obtain ⟨k, hk, rfl, rfl, rfl⟩ := hrel
    have Hk := Lib.hid hk
    by_cases hkl : k < xs.length
    · have hki : (k : Int) < xs.length := by omega
      obtain ⟨b, o, x, rfl, hbl, hxk, q0⟩ := hx.at_ hkl
      have hxr := hb x (List.mem_of_getElem? hxk)
      obtain ⟨d, rfl⟩ : ∃ d : Nat, x = (d : Int) := ⟨x.toNat, by omega⟩
      have hnext : foN n0 (xs.take (k + 1)) = tN (foN n0 (xs.take k)) d := by
        unfold foN
        rw [List.take_add_one, hxk, List.foldl_append]
        rfl
      have hyl := foN_lt hnl (cs := xs.take k) (fun c hc => hb c (List.mem_of_mem_take hc))
      have hth := through_any (foN n0 (xs.take k)) d w hyl (by omega)
      rw [← hnext] at hth
      have hdn : ¬ (d : Int) < 0 := by omega
      clear hnext hyl hxk hk hxr
      generalize foN n0 (xs.take k) = y at *
      generalize hz : foN n0 (xs.take (k + 1)) = y' at *
      have Hz := Lib.hid hz
      clear hz
      go_wp2_with (go_at_call 99; refine hth.mono ?_; clear hth; rintro e w' ⟨rfl, rfl⟩)
      go_roundg (gk - 1)
      case measure => have := Hk.out; omega
      case rel => exact ⟨k + 1, by have := Hk.out; omega, by go_num, by rw [Hz.out], rfl⟩
    · have hki : ¬ (k : Int) < xs.length := by omega
      obtain rfl : k = xs.length := by omega
      rw [List.take_length]
      clear hk
      generalize foN n0 xs = y at *
      go_wp2
      go_ret
      exact ⟨by rw [← Hl.out]; rfl, rfl⟩
theorem rsum_any (A : Option Addr) (xs : List Int) (c : Nat) (w : World) (hc : xs.length ≤ c ∧ c ≤ maxLen) (hx : BytesAt w A xs) (hb : Byt xs) :
    Calls Try.prog 91 #[.slice A xs.length c] w fun e w' => e = .returned (.int .u32 (exN 0 xs : Int)) ∧ w' = w := by
  have ht := rextend_any 0 A xs c w (by decide) hc hx hb
  generalize exN 0 xs = y at *
  go_enter Try.func91, Try.ntmps91
  go_wp2_with (go_at_call 90; refine ht.mono ?_; rintro e w1 ⟨rfl, rfl⟩)
  go_ret
  exact ⟨rfl, rfl⟩
end Cr
end Go.Proofs.Ytkllgmhfjibajaa
