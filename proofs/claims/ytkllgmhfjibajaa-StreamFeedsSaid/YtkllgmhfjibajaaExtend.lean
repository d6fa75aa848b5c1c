/- The walks of octet's Extend and Sum. Conditions: the bytes are readable. -/
import Derived.Test.YtkllgmhfjibajaaSums
import Derived.Test.YtkllgmhfjibajaaBytes
namespace Go.Proofs.Ytkllgmhfjibajaa
open Go.RowKit

/-- An entry of the table. -/
def tv (i : Int) : Int := (tabI 16).getD i.toNat 0
/-- Half a byte through the register. -/
def nib (x : Int) : Int := bits .xor .u32 (tv (bits .and .u32 x 15)) (x / 16)
/-- A byte through the register. -/
def thr (x c : Int) : Int := nib (nib (bits .xor .u32 x c))
def nt (x : Int) : Int := bits BinOp.xor IntKind.u32 (if IntKind.u32.signed = true then -1 else IntKind.u32.max) x
theorem and15 (x : Int) : ∃ n : Nat, n < 16 ∧ bits .and .u32 x 15 = (n : Int) := by
  refine ⟨(BitVec.ofInt 32 x &&& BitVec.ofInt 32 15).toNat, ?_, ?_⟩
  · rw [BitVec.toNat_and]
    have : (BitVec.ofInt 32 15).toNat = 15 := by decide
    rw [this]
    have := @Nat.and_le_right (BitVec.ofInt 32 x).toNat 15
    omega
  · show IntKind.u32.wrap ((BitVec.ofInt 32 x &&& BitVec.ofInt 32 15).toNat : Int) = _
    have := (BitVec.ofInt 32 x &&& BitVec.ofInt 32 15).isLt
    rw [IntKind.wrap_u32]
    omega
theorem tab16 : tabAt 16 = #[.int .u32 0, .int .u32 274646895, .int .u32 549293790, .int .u32 820201905, .int .u32 1098587580, .int .u32 1361435347, .int .u32 1640403810, .int .u32 1905808397, .int .u32 2197175160, .int .u32 2460548119, .int .u32 2722870694, .int .u32 2987750089, .int .u32 3280807620, .int .u32 3553878443, .int .u32 3811616794, .int .u32 4084100981] := rfl
theorem tvAt (n : Nat) (h : n < 16) : some (Value.int .u32 (tv n)) = (tabAt 16)[n]? := by
  have hl : n < (tabI 16).length := by rw [tabI_length]; exact h
  simp [tabAt, tv, List.getElem?_eq_getElem hl]
theorem sums_lit (w : World) : Calls Try.prog 60 #[] w fun e w' => e = .returned (.agg #[.int .u32 0, .int .u32 274646895, .int .u32 549293790, .int .u32 820201905, .int .u32 1098587580, .int .u32 1361435347, .int .u32 1640403810, .int .u32 1905808397, .int .u32 2197175160, .int .u32 2460548119, .int .u32 2722870694, .int .u32 2987750089, .int .u32 3280807620, .int .u32 3553878443, .int .u32 3811616794, .int .u32 4084100981]) ∧ Below w.heap.size w w' := by
  rw [← tab16]
  exact sums_any w
set_option maxRecDepth 100000 in
set_option maxHeartbeats 4000000 in
theorem extend_any (s : Int) (A : Option Addr) (xs : List Int) (c : Nat) (w : World) (hc : xs.length ≤ c ∧ c ≤ maxLen) (hx : BytesAt w A xs) (hb : Byt xs) :
    Calls Try.prog 50 #[.int .u32 s, .slice A xs.length c] w fun e w' => Below w.heap.size w w' ∧ e = .returned (.int .u32 (nt (xs.foldl thr (nt s)))) := by
  have hcm := hc.2
  unfold maxLen at hcm
  have hlc := hc.1
  go_enter Try.func50, Try.ntmps50
  go_upto_region 2 with fail
  go_cut [6] (fun v wx => ∃ g, v = .pointer (some ⟨g, 0, none⟩) ∧ w.heap.size ≤ g ∧ Blk wx g 94 (tabAt 16) ∧ Below w.heap.size w wx)
  case first =>
    go_wp2_with (go_at_call 60; refine (sums_lit _).mono ?_; rintro e w1 ⟨rfl, hb1⟩)
    go_meet
    case rel =>
      exact ⟨_, rfl, hb1.size, by rw [tab16]; exact Blk.new w1 94 _, hb1.alloc hb1.size _⟩
  case rest =>
    obtain ⟨g, rfl, hg, hT, hbe⟩ := hcut
    have hxc : BytesAt wc A xs := hx.below hbe
    clear hx
    have hnt : nt s = bits BinOp.xor IntKind.u32 (if IntKind.u32.signed = true then -1 else IntKind.u32.max) s := rfl
    rw [← hnt]
    clear hnt
    obtain ⟨n0, hn0⟩ : ∃ n0, n0 = nt s := ⟨_, rfl⟩
    rw [← hn0]
    have Hn0 := Lib.hid hn0
    clear hn0
    go_wp2
    go_loopg [5, 14] xs.length (fun gg x i wx => ∃ k : Nat, gg + k = xs.length ∧ i = .int .i64 (k : Nat) ∧ x = .int .u32 ((xs.take k).foldl thr n0) ∧ wc = wx)
    case atStart => exact ⟨0, by omega, rfl, rfl, rfl⟩
    case round =>
      obtain ⟨k, hk, rfl, rfl, rfl⟩ := hrel
      have Hk := Lib.hid hk
      by_cases hkl : k < xs.length
      · have hki : (k : Int) < xs.length := by omega
        obtain ⟨b, o, x, rfl, hbl, hxk, q0⟩ := hxc.at_ hkl
        have hxr := hb x (List.mem_of_getElem? hxk)
        have hxr0 : ¬ x < 0 := by omega
        have hxr1 := hxr.2
        obtain ⟨y, hy⟩ : ∃ y, y = (xs.take k).foldl thr n0 := ⟨_, rfl⟩
        have hnext : (xs.take (k + 1)).foldl thr n0 = thr y x := by
          rw [List.take_add_one, hxk, hy, List.foldl_append]
          rfl
        rw [← hy]
        have Hn := Lib.hid hnext
        obtain ⟨n1, hn1, en1⟩ := and15 (bits .xor .u32 y x)
        obtain ⟨n2, hn2, en2⟩ := and15 (nib (bits .xor .u32 y x))
        have hc1 : wc.cell? ⟨g, n1, none⟩ = some (.int .u32 (tv n1)) := by
          rw [hT.cell n1, ← tvAt n1 hn1]
        have hc2 : wc.cell? ⟨g, n2, none⟩ = some (.int .u32 (tv n2)) := by
          rw [hT.cell n2, ← tvAt n2 hn2]
        have hthr : thr y x = bits .xor .u32 (tv n2) (bits .xor .u32 (tv n1) (bits .xor .u32 y x / 16) / 16) := by
          show nib (nib (bits .xor .u32 y x)) = _
          have e1 : nib (bits .xor .u32 y x) = bits .xor .u32 (tv n1) (bits .xor .u32 y x / 16) := by
            unfold nib
            rw [en1]
          rw [e1] at en2 ⊢
          unfold nib
          rw [en2]
        have e1 : nib (bits .xor .u32 y x) = bits .xor .u32 (tv n1) (bits .xor .u32 y x / 16) := by
          unfold nib
          rw [en1]
        rw [e1] at en2
        have hn1i : (n1 : Int) < 16 := by omega
        have hn2i : (n2 : Int) < 16 := by omega
        have Ht := Lib.hid hthr
        clear hthr e1 hnext hy hxk hk hxr
        go_wp2
        go_roundg (gk - 1)
        case measure => have := Hk.out; omega
        case rel => exact ⟨k + 1, by have := Hk.out; omega, by go_num, by rw [Hn.out, Ht.out], rfl⟩
      · have hki : ¬ (k : Int) < xs.length := by omega
        obtain rfl : k = xs.length := by omega
        rw [List.take_length]
        obtain ⟨y, hy⟩ : ∃ y, y = xs.foldl thr n0 := ⟨_, rfl⟩
        rw [← hy]
        have Hy := Lib.hid hy
        clear hy hk
        go_wp2
        go_ret
        exact ⟨hbe, by rw [← Hn0.out, ← Hy.out]; rfl⟩
theorem sum_any (A : Option Addr) (xs : List Int) (c : Nat) (w : World) (hc : xs.length ≤ c ∧ c ≤ maxLen) (hx : BytesAt w A xs) (hb : Byt xs) :
    Calls Try.prog 51 #[.slice A xs.length c] w fun e w' => Below w.heap.size w w' ∧ e = .returned (.int .u32 (nt (xs.foldl thr (nt 0)))) := by
  obtain ⟨y, hy⟩ : ∃ y, y = nt (xs.foldl thr (nt 0)) := ⟨_, rfl⟩
  have ht := extend_any 0 A xs c w hc hx hb
  rw [← hy] at ht ⊢
  clear hy
  go_enter Try.func51, Try.ntmps51
  go_wp2_with (go_at_call 50; refine ht.mono ?_; rintro e w1 ⟨h1, rfl⟩)
  go_ret
  exact ⟨h1, rfl⟩
end Go.Proofs.Ytkllgmhfjibajaa
