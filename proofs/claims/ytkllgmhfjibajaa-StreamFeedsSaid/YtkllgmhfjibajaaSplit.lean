/- The walk of stream's Split. Conditions: none. -/
import Derived.Test.YtkllgmhfjibajaaSame
namespace Go.Proofs.Ytkllgmhfjibajaa
open Go.RowKit St
theorem split_bad (lim : Int) (ch : Value) (w : World) (h : lim < 64 ∨ 4096 < lim) : Calls Try.prog 12 #[ch, .int .i64 lim] w fun e w' => e = .returned (.tuple #[.slice none 0 0, .int .i64 0]) ∧ w' = w := by
  have hn := new_bad lim w h
  go_enter Try.func12, Try.ntmps12
  go_wp2_with (go_at_call 20; refine hn.mono ?_; rintro e w' ⟨rfl, rfl⟩)
  go_ret2
  exact ⟨rfl, rfl⟩
set_option maxRecDepth 100000 in
set_option maxHeartbeats 4000000 in
theorem split_any (lim : Int) (A : Option Addr) (cs : List Int) (c : Nat) (w : World) (hlim : 64 ≤ lim ∧ lim ≤ 4096) (hc : cs.length ≤ c ∧ c ≤ maxLen) (hbig : cs.length ≤ 2147483648) (hx : BytesAt w A cs)
    (hoff : ∀ a, A = some a → a.block < w.heap.size) (hby : Byt cs) :
    Calls Try.prog 12 #[.slice A cs.length c, .int .i64 lim] w fun e w' => Below w.heap.size w w' ∧ ∃ tv l, e = .returned (.tuple #[tv, .int .i64 (feed (fresh lim) cs).1.buf.length]) ∧ PL w' w.heap.size tv l ∧ l.map (·.1) = (feed (fresh lim) cs).2 := by
  have hn := new_good lim w hlim
  have Hx := Lib.hid hx
  clear hx
  go_enter Try.func12, Try.ntmps12
  go_upto_region 4 with (go_at_call 20; refine hn.mono ?_; clear hn; rintro e w1 ⟨rfl, hb1, hr1⟩)
  have hf := feed_any w.heap.size w.heap.size _ _ w1 A cs c hr1 (fresh_ok hlim) hb1.size hc hbig (Hx.out.below hb1) (fun a e => by
    have := hoff a e
    have := hb1.size
    exact ⟨by omega, by omega, fun e => by cases e⟩) hby
  have Hb1 := Lib.hid hb1
  clear hr1 hb1
  go_upto_region 5 with (go_at_call 21; refine hf.mono ?_; clear hf; rintro e w2 ⟨tv, rfl, v', l, hT, _⟩)
  have hwt := waiting_any _ _ _ _ w2 hT.rd
  have HT := Lib.hid hT
  clear hT
  go_wp2_with (go_at_call 23; refine hwt.mono ?_; clear hwt; rintro e w3 ⟨rfl, rfl⟩)
  go_ret2
  have hb := Hb1.out
  exact ⟨Kp.to_below hb HT.out.kp hb.size (fun j hj => hj.elim (fun h => by omega) (fun h => by cases h)), tv, l, rfl, HT.out.pl.mono hb.size, HT.out.ps⟩
theorem feed_hi : feed (fresh 64) (frameOf [104, 105]) = (⟨1, 64, [], 11, 11⟩, [⟨0, [104, 105], 0, 0⟩]) := by kernel_rfl
theorem feed_zero : feed (fresh 64) [0] = (⟨0, 64, [], 0, 0⟩, [⟨2, [], 0, 160⟩]) := by kernel_rfl
end Go.Proofs.Ytkllgmhfjibajaa
