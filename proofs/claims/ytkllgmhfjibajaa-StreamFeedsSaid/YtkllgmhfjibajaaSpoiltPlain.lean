/- A frame of which one byte of the sum or of the body is another is told to be bad: in plain Lean. Conditions: it is within the limit. -/
import Derived.Test.YtkllgmhfjibajaaSentPlain
namespace Go.Proofs.Ytkllgmhfjibajaa
namespace St
/-- A frame whatever its sum and its body are. -/
theorem feed_rest {n : Nat} {t : List Int} (h0 : 0 < n) (ht : t.length = n + 4) {lim : Int} (hlim : ((n + 9 : Nat) : Int) ≤ lim) (hl2 : lim ≤ 4096) (l fr : Int) :
    feed ⟨1, lim, [], l, fr⟩ (197 :: (b4 (n : Int) ++ t)) = (⟨1, lim, [], ((n + 9 : Nat) : Int), IntKind.wrap .i64 (fr + ((n + 9 : Nat) : Int))⟩,
      [if (bodyP (197 :: (b4 (n : Int) ++ t))).2 = 0 then ⟨0, (bodyP (197 :: (b4 (n : Int) ++ t))).1, fr, 0⟩ else ⟨1, [], fr, 160⟩]) := by
  have hn1 : 0 < (n : Int) ∧ (n : Int) < 4294967296 := by omega
  have hw : whole ⟨2, lim, 197 :: b4 (n : Int), 9 + (n : Int), fr⟩ = (⟨2, lim, 197 :: b4 (n : Int), 9 + (n : Int), fr⟩, []) := by
    unfold whole
    rw [if_pos (by simp only [List.length_cons, b4_len]; omega)]
  have e5 := step_five hn1 lim l fr
  rw [if_neg (by omega), hw] at e5
  have hf : 197 :: (b4 (n : Int) ++ t) = (197 :: x3 (n : Int)) ++ ((n : Int) % 256 :: t) := by simp [b4, x3]
  rw [hf, feed_append, feed_first lim l fr (x3 (n : Int)) (by simp [x3]), feed, e5]
  simp only [List.nil_append]
  rw [feed_gathers t ⟨2, lim, 197 :: b4 (n : Int), 9 + (n : Int), fr⟩ rfl (by simp only [List.length_cons, b4_len]; omega) (by omega) (by rw [ht]; simp only [List.length_cons, b4_len]; omega)]
  have hbuf : (197 :: b4 (n : Int)) ++ t = (197 :: x3 (n : Int)) ++ ((n : Int) % 256 :: t) := by simp [b4, x3]
  have hlen : ((197 :: x3 (n : Int)) ++ ((n : Int) % 256 :: t)).length = n + 9 := by simp [x3]; omega
  unfold gathers
  simp only [hbuf]
  unfold whole
  simp only [hlen]
  rw [if_neg (by omega)]
  have e9 : 9 + (n : Int) = ((n + 9 : Nat) : Int) := by omega
  rw [e9]
theorem be4 {a b c d : Int} (ha : 0 ≤ a ∧ a < 256) (hb : 0 ≤ b ∧ b < 256) (hc : 0 ≤ c ∧ c < 256) (hd : 0 ≤ d ∧ d < 256) : be [a, b, c, d] = ((a * 256 + b) * 256 + c) * 256 + d := by
  unfold be
  simp only [List.foldl_cons, List.foldl_nil]
  have e1 : shl8 0 a = a := by rw [shl8_eq (by omega) ha]; omega
  rw [e1, shl8_eq (v := a) (by omega) hb, shl8_eq (by omega) hc, shl8_eq (by omega) hd]
/-- A sum of which a byte is another. -/
theorem be_set {s : Int} (hs : 0 ≤ s ∧ s < 4294967296) {k : Nat} (hk : k < 4) {x : Int} (hx : 0 ≤ x ∧ x < 256) (hne : (b4 s)[k]? ≠ some x) : IntKind.wrap .u32 (be ((b4 s).set k x)) ≠ s := by
  have h4 : k = 0 ∨ k = 1 ∨ k = 2 ∨ k = 3 := by omega
  have r1 : 0 ≤ s / 16777216 % 256 ∧ s / 16777216 % 256 < 256 := by omega
  have r2 : 0 ≤ s / 65536 % 256 ∧ s / 65536 % 256 < 256 := by omega
  have r3 : 0 ≤ s / 256 % 256 ∧ s / 256 % 256 < 256 := by omega
  have r4 : 0 ≤ s % 256 ∧ s % 256 < 256 := by omega
  rcases h4 with rfl | rfl | rfl | rfl
  · have e : (b4 s).set 0 x = [x, s / 65536 % 256, s / 256 % 256, s % 256] := rfl
    have n : s / 16777216 % 256 ≠ x := fun h => hne (by simp [b4, h])
    rw [e, be4 hx r2 r3 r4, wrap32 (by omega)]
    omega
  · have e : (b4 s).set 1 x = [s / 16777216 % 256, x, s / 256 % 256, s % 256] := rfl
    have n : s / 65536 % 256 ≠ x := fun h => hne (by simp [b4, h])
    rw [e, be4 r1 hx r3 r4, wrap32 (by omega)]
    omega
  · have e : (b4 s).set 2 x = [s / 16777216 % 256, s / 65536 % 256, x, s % 256] := rfl
    have n : s / 256 % 256 ≠ x := fun h => hne (by simp [b4, h])
    rw [e, be4 r1 r2 hx r4, wrap32 (by omega)]
    omega
  · have e : (b4 s).set 3 x = [s / 16777216 % 256, s / 65536 % 256, s / 256 % 256, x] := rfl
    have n : s % 256 ≠ x := fun h => hne (by simp [b4, h])
    rw [e, be4 r1 r2 r3 hx, wrap32 (by omega)]
    omega
/-- A body of which a byte is another. -/
theorem ext_set {u : Int} (hu : 0 ≤ u ∧ u < 4294967296) {c : List Int} (hc : Byt c) {k : Nat} (hk : k < c.length) {x : Int} (hx : 0 ≤ x ∧ x < 256) (hne : c[k]? ≠ some x) : extP u (c.set k x) ≠ extP u c := by
  intro h
  obtain ⟨v, rfl⟩ : ∃ v : Nat, u = (v : Int) := ⟨u.toNat, by omega⟩
  have hd : c.set k x = c.take k ++ x :: c.drop (k + 1) := List.set_eq_take_append_cons_drop (l := c) (i := k) (a := x) |>.trans (by rw [if_pos hk])
  have hc' : c = c.take k ++ c[k] :: c.drop (k + 1) := by rw [List.getElem_cons_drop, List.take_append_drop]
  have hb1 : Byt (c.take k) := fun y hy => hc y (List.mem_of_mem_take hy)
  have hb2 : Byt (c.drop (k + 1)) := fun y hy => hc y (List.mem_of_mem_drop hy)
  have hck := hc c[k] (List.getElem_mem hk)
  have hbs : Byt (c.take k ++ x :: c.drop (k + 1)) := byt_app hb1 (fun y hy => by
    rcases List.mem_cons.1 hy with rfl | hy
    · exact hx
    · exact hb2 y hy)
  have hv : v < 4294967296 := by omega
  unfold extP at h
  rw [hd, Cr.ext_eq hv hbs, Cr.ext_eq hv hc] at h
  have h1 : Cr.exN v (c.take k ++ x :: c.drop (k + 1)) = Cr.exN v (c.take k ++ c[k] :: c.drop (k + 1)) := by rw [← hc']; exact Int.ofNat.inj h
  have h2 := Cr.foN_spoilt (Cr.nN_lt hv) hb1 hb2 hx hck (Cr.nN_inj h1)
  exact hne (by rw [List.getElem?_eq_getElem hk, h2])
/-- The sum of a frame that has one. -/
def sumOf (c : List Int) : Int := extP (extP 0 (b4 (c.length : Int))) c
theorem frameOf_eq (c : List Int) : frameOf c = 197 :: (b4 (c.length : Int) ++ (b4 (sumOf c) ++ c)) := by simp [frameOf, sumOf]
theorem sumOf_range (c : List Int) : 0 ≤ sumOf c ∧ sumOf c < 4294967296 := nt_range _
theorem bad_body {n : Nat} {s c : List Int} (hs : s.length = 4) (hc : c.length = n) (h : IntKind.wrap .u32 (be s) ≠ extP (extP 0 (b4 (n : Int))) c) : (bodyP (197 :: (b4 (n : Int) ++ (s ++ c)))).2 = 160 := by
  have hb : bodyOf (197 :: (b4 (n : Int) ++ (s ++ c))) = c := by
    unfold bodyOf
    have e1 : (197 :: (b4 (n : Int) ++ (s ++ c))).length - 9 = n := by simp [b4_len]; omega
    have e2 : (197 :: (b4 (n : Int) ++ (s ++ c))).drop 5 = s ++ c := by simp [b4]
    rw [e1, e2, List.drop_append_of_le_length (by omega), List.drop_of_length_le (by omega), List.nil_append, ← hc, List.take_length]
  have hn : ¬ sumOk (197 :: (b4 (n : Int) ++ (s ++ c))) := by
    unfold sumOk
    rw [hb]
    have e1 : ((197 :: (b4 (n : Int) ++ (s ++ c))).drop 5).take 4 = s := by
      have e2 : (197 :: (b4 (n : Int) ++ (s ++ c))).drop 5 = s ++ c := by simp [b4]
      rw [e2, List.take_append_of_le_length (by omega), ← hs, List.take_length]
    have e2 : ((197 :: (b4 (n : Int) ++ (s ++ c))).drop 1).take 4 = b4 (n : Int) := by simp [b4]
    rw [e1, e2]
    exact h
  unfold bodyP
  rw [if_neg hn]
  split <;> rfl
/-- A frame that is spoilt is told to be bad. -/
theorem feed_spoilt {c : List Int} (hby : Byt c) {lim : Int} (hf : Fit lim c) (hl2 : lim ≤ 4096) {k : Nat} (hk : k < c.length + 4) {x : Int} (hx : 0 ≤ x ∧ x < 256) (hne : (frameOf c)[5 + k]? ≠ some x) (l fr : Int) :
    feed ⟨1, lim, [], l, fr⟩ ((frameOf c).set (5 + k) x) = (⟨1, lim, [], ((c.length + 9 : Nat) : Int), IntKind.wrap .i64 (fr + ((c.length + 9 : Nat) : Int))⟩, [⟨1, [], fr, 160⟩]) := by
  have hset : (frameOf c).set (5 + k) x = 197 :: (b4 (c.length : Int) ++ (b4 (sumOf c) ++ c).set k x) := by
    rw [frameOf_eq, show 5 + k = (4 + k) + 1 by omega, List.set_cons_succ, List.set_append_right (h := by rw [b4_len]; omega), b4_len, show 4 + k - 4 = k by omega]
  have hget : (frameOf c)[5 + k]? = (b4 (sumOf c) ++ c)[k]? := by
    rw [frameOf_eq, show 5 + k = (4 + k) + 1 by omega, List.getElem?_cons_succ, List.getElem?_append_right (by rw [b4_len]; omega), b4_len, show 4 + k - 4 = k by omega]
  rw [hget] at hne
  rw [hset, feed_rest hf.1 (by rw [List.length_set, List.length_append, b4_len]; omega) hf.2 hl2]
  have hbad : (bodyP (197 :: (b4 (c.length : Int) ++ (b4 (sumOf c) ++ c).set k x))).2 = 160 := by
    by_cases h4 : k < 4
    · rw [List.set_append_left (h := by rw [b4_len]; omega)]
      rw [List.getElem?_append_left (by rw [b4_len]; omega)] at hne
      exact bad_body (by rw [List.length_set, b4_len]) rfl (be_set (sumOf_range c) h4 hx hne)
    · rw [List.set_append_right (h := by rw [b4_len]; omega), b4_len]
      rw [List.getElem?_append_right (by rw [b4_len]; omega), b4_len] at hne
      refine bad_body (b4_len _) (List.length_set ..) ?_
      rw [be_b4 (sumOf_range c), wrap32 (sumOf_range c)]
      exact fun h => ext_set (nt_range _) hby (by omega) hx hne h.symm
  rw [hbad, if_neg (by decide)]
/-- All that was sent, one spoilt. -/
theorem feed_sent {lim : Int} (hl2 : lim ≤ 4096) (pre post : List (List Int)) (c : List Int) (hfit : ∀ d ∈ pre ++ c :: post, Fit lim d) (hby : Byt c) (htot : tot (pre ++ c :: post) < 4611686018427387904) {k : Nat} (hk : k < c.length + 4) {x : Int} (hx : 0 ≤ x ∧ x < 256)
    (hne : (frames (pre ++ c :: post))[tot pre + 5 + k]? ≠ some x) :
    ∃ len', feed (fresh lim) ((frames (pre ++ c :: post)).set (tot pre + 5 + k) x) = (⟨1, lim, [], len', (tot (pre ++ c :: post) : Int)⟩, tells (pre.length : Int) 0 0 (pre ++ c :: post)) := by
  have hfl : (frameOf c).length = c.length + 9 := frameOf_len c
  have hfr : frames (pre ++ c :: post) = frames pre ++ (frameOf c ++ frames post) := by
    unfold frames
    rw [List.flatMap_append, List.flatMap_cons]
  have hpl := frames_len pre
  have hset : (frames (pre ++ c :: post)).set (tot pre + 5 + k) x = frames pre ++ ((frameOf c).set (5 + k) x ++ frames post) := by
    rw [hfr, List.set_append_right (h := by rw [hpl]; omega), hpl, show tot pre + 5 + k - tot pre = 5 + k by omega, List.set_append_left (h := by rw [hfl]; omega)]
  have hget : (frames (pre ++ c :: post))[tot pre + 5 + k]? = (frameOf c)[5 + k]? := by
    rw [hfr, List.getElem?_append_right (by rw [hpl]; omega), hpl, show tot pre + 5 + k - tot pre = 5 + k by omega, List.getElem?_append_left (by rw [hfl]; omega)]
  rw [hget] at hne
  have htp : tot (pre ++ c :: post) = tot pre + (c.length + 9 + tot post) := tot_app pre (c :: post)
  obtain ⟨l1, h1⟩ := feed_frames (sp := (pre.length : Int)) hl2 pre 0 0 0 (fun d hd => hfit d (List.mem_append_left _ hd)) (by omega) (by omega) (fun j hj => by omega)
  have h2 := feed_spoilt hby (hfit c (by simp)) hl2 hk hx hne l1 (0 + (tot pre : Int))
  rw [wrap64_id ⟨by omega, by omega⟩] at h2
  obtain ⟨l3, h3⟩ := feed_frames (sp := (pre.length : Int)) hl2 post (pre.length + 1) ((c.length + 9 : Nat) : Int) (0 + (tot pre : Int) + ((c.length + 9 : Nat) : Int)) (fun d hd => hfit d (by simp [hd])) (by omega) (by omega) (fun j hj => by omega)
  refine ⟨l3, ?_⟩
  have h0 : feed (fresh lim) (frames pre) = (⟨1, lim, [], l1, 0 + (tot pre : Int)⟩, tells (pre.length : Int) 0 0 pre) := h1
  rw [hset, feed_append, h0, feed_append, h2, h3, tells_app]
  have e1 : 0 + (tot pre : Int) + ((c.length + 9 : Nat) : Int) + (tot post : Int) = ((tot (pre ++ c :: post) : Nat) : Int) := by rw [htp]; omega
  rw [e1]
  simp [tells]
end St
end Go.Proofs.Ytkllgmhfjibajaa
