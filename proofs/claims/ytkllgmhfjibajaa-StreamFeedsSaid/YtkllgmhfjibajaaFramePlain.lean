/- A frame that is fed is told, in plain Lean. Conditions: the frame is within the limit. -/
import Derived.Test.YtkllgmhfjibajaaWriter
namespace Go.Proofs.Ytkllgmhfjibajaa
open St
theorem shl8_eq {v c : Int} (hv : 0 ≤ v ∧ v < 72057594037927936) (hc : 0 ≤ c ∧ c < 256) : shl8 v c = v * 256 + c := by
  unfold shl8
  have e1 : IntKind.wrap .u64 (v * 256) = v * 256 := by rw [IntKind.wrap_u64]; omega
  rw [e1]
  show IntKind.u64.wrap (((BitVec.ofInt 64 (v * 256) ||| BitVec.ofInt 64 c).toNat : Nat) : Int) = _
  obtain ⟨a, rfl⟩ : ∃ a : Nat, v = (a : Int) := ⟨v.toNat, by omega⟩
  obtain ⟨b, rfl⟩ : ∃ b : Nat, c = (b : Int) := ⟨c.toNat, by omega⟩
  have h1 : (BitVec.ofInt 64 ((a : Int) * 256)).toNat = a * 256 := by
    rw [BitVec.toNat_ofInt]
    omega
  have h2 : (BitVec.ofInt 64 (b : Int)).toNat = b := by
    rw [BitVec.toNat_ofInt]
    omega
  rw [BitVec.toNat_or, h1, h2]
  have h3 : a * 256 ||| b = a * 256 + b := by
    have := Nat.two_pow_add_eq_or_of_lt (i := 8) (b := b) (by omega) a
    rw [Nat.mul_comm]
    exact this.symm
  rw [h3, IntKind.wrap_u64]
  omega
theorem be_b4 {x : Int} (h : 0 ≤ x ∧ x < 4294967296) : be (b4 x) = x := by
  unfold be b4
  simp only [List.foldl_cons, List.foldl_nil]
  have e1 : shl8 0 (x / 16777216 % 256) = x / 16777216 % 256 := by rw [shl8_eq (by omega) (by omega)]; omega
  have e2 : shl8 (x / 16777216 % 256) (x / 65536 % 256) = x / 65536 := by rw [shl8_eq (by omega) (by omega)]; omega
  have e3 : shl8 (x / 65536) (x / 256 % 256) = x / 256 := by rw [shl8_eq (by omega) (by omega)]; omega
  rw [e1, e2, e3, shl8_eq (by omega) (by omega)]
  omega
theorem nt_range (x : Int) : 0 ≤ nt x ∧ nt x < 4294967296 := by
  unfold nt
  show 0 ≤ IntKind.u32.wrap _ ∧ IntKind.u32.wrap _ < 4294967296
  rw [IntKind.wrap_u32]
  omega
theorem wrap32 {x : Int} (h : 0 ≤ x ∧ x < 4294967296) : IntKind.wrap .u32 x = x := by
  rw [IntKind.wrap_u32]
  omega
theorem b4_len (x : Int) : (b4 x).length = 4 := rfl
/-- The first five bytes tell the length. -/
theorem head_start {n : Int} (h0 : 0 ≤ n ∧ n < 4294967296) (ys : List Int) : hn (197 :: (b4 n ++ ys)) = n := by
  unfold hn
  have e : ((197 :: (b4 n ++ ys)).drop 1).take 4 = b4 n := by simp [b4]
  rw [e, be_b4 h0, wrap32 h0]
theorem headP_start {n : Int} (h0 : 0 < n ∧ n < 4294967296) (ys : List Int) : headP (197 :: (b4 n ++ ys)) = if n > 4087 then (9 + n, 163) else (9 + n, 0) := by
  unfold headP
  rw [if_neg (by simp), if_neg (by simp [b4]), head_start ⟨by omega, h0.2⟩, if_neg (by omega)]
theorem headP_short (x : Int) {xs : List Int} (h : xs.length < 4) (h1 : x = 197) : headP (x :: xs) = (0, 10) := by
  unfold headP
  rw [if_neg (by subst h1; simp), if_pos (by simp only [List.length_cons]; omega)]
/-- Bytes of a length are gathered. -/
theorem feed_short (lim l fr : Int) : ∀ (ys xs : List Int), xs.length + ys.length < 4 → feed ⟨1, lim, 197 :: xs, l, fr⟩ ys = (⟨1, lim, 197 :: (xs ++ ys), l, fr⟩, [])
  | [], xs, _ => by simp [feed]
  | y :: ys, xs, h => by
    simp only [List.length_cons] at h
    have e : St.step ⟨1, lim, 197 :: xs, l, fr⟩ y = (⟨1, lim, 197 :: (xs ++ [y]), l, fr⟩, []) := by
      unfold St.step
      rw [if_pos rfl]
      unfold St.measure
      have hh : headP ((197 :: xs) ++ [y]) = (0, 10) := headP_short 197 (xs := xs ++ [y]) (by simp only [List.length_append, List.length_singleton]; omega) rfl
      simp only [hh, if_true]
      rfl
    rw [feed, e, feed_short lim l fr ys (xs ++ [y]) (by simp only [List.length_append, List.length_singleton]; omega)]
    simp
theorem feed_first (lim l fr : Int) (ys : List Int) (h : ys.length < 4) : feed ⟨1, lim, [], l, fr⟩ (197 :: ys) = (⟨1, lim, 197 :: ys, l, fr⟩, []) := by
  have e : St.step ⟨1, lim, [], l, fr⟩ 197 = (⟨1, lim, [197], l, fr⟩, []) := by
    unfold St.step
    rw [if_pos rfl]
    unfold St.measure
    have hh : headP ([] ++ [197]) = (0, 10) := headP_short 197 (xs := []) (by decide) rfl
    simp only [hh, if_true]
    rfl
  rw [feed, e, feed_short lim l fr ys [] (by simpa using h)]
  simp
/-- A frame's bytes: the first five, then the others. -/
def x3 (n : Int) : List Int := [n / 16777216 % 256, n / 65536 % 256, n / 256 % 256]
theorem b4_x3 (n : Int) : b4 n = x3 n ++ [n % 256] := rfl
/-- At the fifth byte a length is known. -/
theorem step_five {n : Int} (h0 : 0 < n ∧ n < 4294967296) (lim l fr : Int) : St.step ⟨1, lim, 197 :: x3 n, l, fr⟩ (n % 256) =
    if 9 + n > lim then (⟨3, lim, [], 9 + n - 5, IntKind.wrap .i64 (fr + (9 + n))⟩, [⟨1, [], fr, 163⟩]) else whole ⟨2, lim, 197 :: b4 n, 9 + n, fr⟩ := by
  have hh := headP_start h0 []
  rw [List.append_nil] at hh
  unfold St.step
  rw [if_pos rfl]
  unfold St.measure
  have e : (197 :: x3 n) ++ [n % 256] = 197 :: b4 n := rfl
  simp only [e]
  have h1 : (headP (197 :: b4 n)).2 ≠ 10 ∧ (headP (197 :: b4 n)).2 ≠ 160 := by rw [hh]; split <;> simp
  have h2 : (headP (197 :: b4 n)).1 = 9 + n := by rw [hh]; split <;> rfl
  rw [if_neg h1.1, if_neg h1.2, h2]
  have hl : ((197 :: x3 n).length : Int) + 1 = 5 := rfl
  by_cases hgt : 9 + n > lim
  · rw [if_pos hgt, if_pos hgt, hl]
  · rw [if_neg hgt, if_neg hgt]
/-- A frame that has room is told. -/
theorem feed_frame {cs : List Int} (h0 : 0 < cs.length) {lim : Int} (hlim : ((cs.length + 9 : Nat) : Int) ≤ lim) (hl2 : lim ≤ 4096) (l fr : Int) :
    feed ⟨1, lim, [], l, fr⟩ (frameOf cs) = (⟨1, lim, [], ((cs.length + 9 : Nat) : Int), IntKind.wrap .i64 (fr + ((cs.length + 9 : Nat) : Int))⟩, [⟨0, cs, fr, 0⟩]) := by
  obtain ⟨n, hn⟩ : ∃ n : Int, n = (cs.length : Int) := ⟨_, rfl⟩
  obtain ⟨s, hs⟩ : ∃ s, s = extP (extP 0 (b4 n)) cs := ⟨_, rfl⟩
  have hsr : 0 ≤ s ∧ s < 4294967296 := by rw [hs]; exact nt_range _
  have hf : frameOf cs = (197 :: x3 n) ++ (n % 256 :: (b4 s ++ cs)) := by
    rw [hs, hn]
    simp [frameOf, b4, x3]
  have hf2 : frameOf cs = 197 :: (b4 n ++ (b4 s ++ cs)) := by
    rw [hs, hn]
    simp [frameOf]
  have hlen : (frameOf cs).length = cs.length + 9 := frameOf_len cs
  have hn1 : 0 < n ∧ n < 4294967296 := by omega
  have hw : whole ⟨2, lim, 197 :: b4 n, 9 + n, fr⟩ = (⟨2, lim, 197 :: b4 n, 9 + n, fr⟩, []) := by
    unfold whole
    rw [if_pos (by simp only [List.length_cons, b4_len]; omega)]
  have e5 := step_five hn1 lim l fr
  rw [if_neg (by omega), hw] at e5
  rw [hf, feed_append, feed_first lim l fr (x3 n) (by simp [x3]), feed, e5]
  simp only [List.nil_append]
  have hrest : (b4 s ++ cs).length = cs.length + 4 := by simp [b4_len]; omega
  rw [feed_gathers (b4 s ++ cs) ⟨2, lim, 197 :: b4 n, 9 + n, fr⟩ rfl (by simp only [List.length_cons, b4_len]; omega) (by omega) (by rw [hrest]; simp only [List.length_cons, b4_len]; omega)]
  have hbuf : (197 :: b4 n) ++ (b4 s ++ cs) = frameOf cs := by rw [hf2]; rfl
  unfold gathers
  simp only [hbuf]
  unfold whole
  simp only [hlen]
  rw [if_neg (by omega)]
  have hhd : headP (frameOf cs) = (9 + n, 0) := by
    rw [hf2, headP_start hn1, if_neg (by omega)]
  have hbo : bodyOf (frameOf cs) = cs := by
    unfold bodyOf
    rw [hlen, hf2]
    simp [b4]
  have hok : headOk (frameOf cs) := ⟨by rw [hhd], by rw [hhd, hlen]; simp only; omega⟩
  have hsum : sumOk (frameOf cs) := by
    unfold sumOk
    rw [hbo]
    have e1 : ((frameOf cs).drop 5).take 4 = b4 s := by rw [hf2]; simp [b4]
    have e2 : ((frameOf cs).drop 1).take 4 = b4 n := by rw [hf2]; simp [b4]
    rw [e1, e2, be_b4 hsr, wrap32 hsr, hs]
  have hbp : bodyP (frameOf cs) = (cs, 0) := by
    unfold bodyP
    rw [if_pos hok, if_pos hsum, hbo]
  rw [hbp]
  simp only [if_true]
  have e9 : 9 + n = ((cs.length + 9 : Nat) : Int) := by omega
  rw [e9]
/-- A frame that is too long: its first four bytes, its fifth, the others and the frame behind it. -/
theorem huge_four (n lim : Int) : feed (fresh lim) (197 :: x3 n) = (⟨1, lim, 197 :: x3 n, 0, 0⟩, []) := feed_first lim 0 0 (x3 n) (by simp [x3])
theorem huge_five {n lim : Int} (h : lim < 9 + n) (h0 : 0 < n ∧ n < 4294967296) : feed ⟨1, lim, 197 :: x3 n, 0, 0⟩ [n % 256] = (⟨3, lim, [], n + 4, 9 + n⟩, [⟨1, [], 0, 163⟩]) := by
  have e5 := step_five h0 lim 0 0
  rw [if_pos (by omega)] at e5
  have e1 : IntKind.wrap .i64 (0 + (9 + n)) = 9 + n := by rw [IntKind.wrap_i64]; omega
  have e2 : 9 + n - 5 = n + 4 := by omega
  rw [e1, e2] at e5
  rw [feed, e5]
  simp [feed]
theorem huge_rest {n lim : Int} {xs cs : List Int} (hx : (xs.length : Int) = n + 4) (h0 : 0 < n ∧ n < 4294967296) (hc : 0 < cs.length) (hl : ((cs.length + 9 : Nat) : Int) ≤ lim) (hl2 : lim ≤ 4096) :
    feed ⟨3, lim, [], n + 4, 9 + n⟩ (xs ++ frameOf cs) = (⟨1, lim, [], ((cs.length + 9 : Nat) : Int), IntKind.wrap .i64 (9 + n + ((cs.length + 9 : Nat) : Int))⟩, [⟨0, cs, 9 + n, 0⟩]) := by
  rw [feed_append, feed_passes xs ⟨3, lim, [], n + 4, 9 + n⟩ rfl (by omega) (by simp only; omega)]
  unfold passes
  simp only [hx, Int.sub_self, if_true, List.nil_append]
  rw [feed_frame hc hl hl2]
end Go.Proofs.Ytkllgmhfjibajaa
