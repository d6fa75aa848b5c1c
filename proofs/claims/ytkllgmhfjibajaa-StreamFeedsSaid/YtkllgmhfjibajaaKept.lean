/- The walk of the law's kept. Conditions: the bytes fit. -/
import Derived.Test.YtkllgmhfjibajaaSpare
namespace Go.Proofs.Ytkllgmhfjibajaa
open Go.RowKit St
set_option maxRecDepth 100000 in
set_option maxHeartbeats 4000000 in
theorem kept_any (A B : Option Addr) (cs ms : List Int) (c d : Nat) (w : World) (hm : ∀ x ∈ ms, x = 197) (hbig : cs.length + ms.length ≤ 4294967296) (hx : BytesAt w B (cs ++ ms)) (hy : BytesAt w A cs) :
    Calls Try.prog 16 #[.slice B (cs.length + ms.length) d, .slice A cs.length c] w fun e w' => e = .returned (.bool true) ∧ ∃ n, w' = w.drewN n := by
  have hl : (cs ++ ms).length = cs.length + ms.length := List.length_append
  have Hx := Lib.hid hx
  have Hy := Lib.hid hy
  have Hm := Lib.hid hm
  have Hl := Lib.hid hl
  clear hx hy hm hl
  generalize hn : cs.length + ms.length = n at *
  have Hn := Lib.hid hn
  clear hn
  go_enter Try.func16, Try.ntmps16
  go_wp2
  go_loopg [5] n (fun gg iv wx => ∃ k : Nat, gg + k = n ∧ iv = .int .i64 ((k : Nat) : Int) ∧ ∃ j, wx = w.drewN j)
  case atStart => exact ⟨0, by omega, rfl, 0, rfl⟩
  case round =>
    obtain ⟨k, hk, rfl, j, rfl⟩ := hrel
    have Hk := Lib.hid hk
    by_cases hlt : k < n
    · have hki : (k : Int) < n := by omega
      have hkn : ¬ (k : Int) < 0 := by omega
      obtain ⟨b, o, x, rfl, _, hxk, q0⟩ := Hx.out.at_ (show k < (cs ++ ms).length by rw [Hl.out]; exact hlt)
      clear hk
      by_cases hkc : k < cs.length
      · have hci : (k : Int) < cs.length := by omega
        have hd1 : decide (k < cs.length) = true := by simp only [decide_eq_true_eq]; exact hkc
        have hd2 : decide (cs.length ≤ k) = false := by simp only [decide_eq_false_iff_not]; omega
        obtain ⟨b', o', y, rfl, _, hyk, q1⟩ := Hy.out.at_ hkc
        rw [List.getElem?_append_left hkc, hyk] at hxk
        obtain rfl := Option.some.inj hxk
        clear hxk hyk
        go_upto_region 4 with fail
        go_quiet (fail)
        go_wp2
        go_roundg (gk - 1)
        case measure => have := Hk.out; omega
        case rel => exact ⟨k + 1, by have := Hk.out; omega, by go_num, _, rfl⟩
      · have hci : ¬ (k : Int) < cs.length := by omega
        have hd1 : decide (k < cs.length) = false := by simp only [decide_eq_false_iff_not]; exact hkc
        have hd2 : decide (cs.length ≤ k) = true := by simp only [decide_eq_true_eq]; omega
        rw [List.getElem?_append_right (by omega)] at hxk
        obtain rfl := Hm.out x (List.mem_of_getElem? hxk)
        clear hxk
        go_upto_region 4 with fail
        go_quiet (fail)
        go_wp2
        go_roundg (gk - 1)
        case measure => have := Hk.out; omega
        case rel => exact ⟨k + 1, by have := Hk.out; omega, by go_num, _, rfl⟩
    · have hki : ¬ (k : Int) < n := by omega
      go_wp2
      go_ret
      exact ⟨rfl, _, rfl⟩
end Go.Proofs.Ytkllgmhfjibajaa
