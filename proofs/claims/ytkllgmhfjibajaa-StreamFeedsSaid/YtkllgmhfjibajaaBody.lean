/- The walk of wire's Body. Conditions: the bytes are readable. -/
import Derived.Test.YtkllgmhfjibajaaHead
namespace Go.Proofs.Ytkllgmhfjibajaa
open Go.RowKit

/-- A sum that goes on. -/
def extP (s : Int) (xs : List Int) : Int := nt (xs.foldl thr (nt s))
def bodyOf (xs : List Int) : List Int := ((xs.drop 5).drop 4).take (xs.length - 9)
def sumOk (xs : List Int) : Prop := IntKind.wrap .u32 (be ((xs.drop 5).take 4)) = extP (extP 0 ((xs.drop 1).take 4)) (bodyOf xs)
instance (xs : List Int) : Decidable (sumOk xs) := by unfold sumOk; infer_instance
def headOk (xs : List Int) : Prop := (headP xs).2 = 0 ∧ (headP xs).1 = xs.length
instance (xs : List Int) : Decidable (headOk xs) := by unfold headOk; infer_instance
/-- A frame's body, and the error. -/
def bodyP (xs : List Int) : List Int × Int := if headOk xs then if sumOk xs then (bodyOf xs, 0) else ([], 160) else ([], 160)
theorem headOk_len {xs : List Int} (h : headOk xs) : 10 ≤ xs.length ∧ xs.length ≤ 4096 := by
  obtain ⟨h1, h2⟩ := h
  unfold headP at h1 h2
  have := hn_range xs
  split at h1
  · cases h1
  · split at h1
    · cases h1
    · split at h1
      · cases h1
      · split at h1
        · cases h1
        · rename_i a b c d
          rw [if_neg a, if_neg b, if_neg c, if_neg d] at h2
          simp only at h2
          omega
theorem headP_err (xs : List Int) : (headP xs).2 = 0 ∨ (headP xs).2 = 10 ∨ (headP xs).2 = 160 ∨ (headP xs).2 = 163 := by
  unfold headP
  split
  · exact .inr (.inr (.inl rfl))
  · split
    · exact .inr (.inl rfl)
    · split
      · exact .inr (.inr (.inl rfl))
      · split
        · exact .inr (.inr (.inr rfl))
        · exact .inl rfl
theorem headP_len (xs : List Int) : 0 ≤ (headP xs).1 ∧ (headP xs).1 < 4294967305 := by
  have := hn_range xs
  unfold headP
  split
  · simp
  · split
    · simp
    · split
      · simp
      · split
        · simp only; omega
        · simp only; omega
set_option maxRecDepth 100000 in
set_option maxHeartbeats 4000000 in
theorem body_any (A : Option Addr) (xs : List Int) (c : Nat) (w : World) (hc : xs.length ≤ c ∧ c ≤ maxLen) (hx : BytesAt w A xs) (hby : Byt xs) :
    Calls Try.prog 79 #[.slice A xs.length c] w fun e w' => Below w.heap.size w w' ∧ ∃ v, e = .returned (.tuple #[v, .int .i64 (bodyP xs).2]) ∧ OwnB w' w.heap.size v (bodyP xs).1 := by
  have hh := head_any A xs c w hc hx hby
  have hcm := hc.2
  unfold maxLen at hcm
  have hlc := hc.1
  obtain ⟨p, hp⟩ : ∃ p, p = headP xs := ⟨_, rfl⟩
  have hp1 := headP_err xs
  have hp2 := headP_len xs
  obtain ⟨r, hr⟩ : ∃ r, r = bodyP xs := ⟨_, rfl⟩
  have hrr := hr
  rw [bodyP] at hrr
  rw [← hr]
  by_cases hok : headOk xs
  · have hlen := headOk_len hok
    rw [if_pos hok] at hrr
    have e1 := hok.1
    have e2 := hok.2
    rw [e1, e2] at hh
    have h10 : 10 ≤ xs.length := hlen.1
    have h4096 : xs.length ≤ 4096 := hlen.2
    obtain ⟨b, o, rfl, hbl, _⟩ := hx (by omega)
    have Hx := Lib.hid hx
    have Hby := Lib.hid hby
    have Hrr := Lib.hid hrr
    have hl5 : (xs.drop 5).length = xs.length - 5 := List.length_drop
    have Hl5 := Lib.hid hl5
    have hi9 : (xs.length : Int) - 9 = ((xs.length - 9 : Nat) : Int) := by omega
    have Hi9 := Lib.hid hi9
    clear hrr hr e1 e2 hp hp1 hp2 hok hlen hx hby hl5 hi9
    go_enter Try.func79, Try.ntmps79
    go_upto_region 4 with (go_at_call 61; refine hh.mono ?_; clear hh; rintro e w1 ⟨hb1, rfl⟩)
    have hx1 := Hx.out.below hb1
    have hy5 : BytesAt w1 (some ⟨b, o + 5, none⟩) (xs.drop 5) := by
      have := hx1.sub 5 (xs.length - 5)
      rwa [List.take_of_length_le (by rw [Hl5.out]; exact Nat.le_refl _)] at this
    have hnr := newReader_any (some ⟨b, o + 5, none⟩) (xs.drop 5) (c - 5) w1 (by rw [Hl5.out]; unfold maxLen; omega) (by rw [Hl5.out]; omega) hy5 (by rw [Hl5.out]; omega)
    rw [Hl5.out] at hnr
    have Hx1 := Lib.hid hx1
    have hbs : Byt (xs.drop 5) := fun x hx => Hby.out x (List.mem_of_mem_drop hx)
    clear hx1 hy5 Hx
    have hb1s := hb1.size
    have Hb1 := Lib.hid hb1
    clear hb1
    obtain ⟨sm, hsm⟩ : ∃ sm, sm = IntKind.wrap .u32 (be (((xs.drop 5).drop 0).take 4)) := ⟨_, rfl⟩
    obtain ⟨bo, hbo⟩ : ∃ bo, bo = bodyOf xs := ⟨_, rfl⟩
    have Hsm := Lib.hid hsm
    have Hbo := Lib.hid hbo
    clear hsm hbo
    go_upto_region 7 with (first
      | (go_at_call 77; refine hnr.mono ?_; clear hnr; rintro e w2 ⟨hb2, v, g, rfl, hrd, hov, hne, hg⟩; have hu := rU32_any g v 0 _ _ w2 hrd hov (by rw [Hl5.out]; omega) hne hbs; rw [← Hsm.out] at hu; have hb2s := hb2.size)
      | (go_at_call 78; refine hu.mono ?_; clear hu; rintro e w3 ⟨hk3, hrd3, rfl⟩; have hov3 := hov.kp hk3 (fun j hj e => hne (by rw [hj, e])); have hk3s := hk3.size; have hw := rRaw_any g v 4 (xs.length - 9) _ _ w3 hrd3 hov3 (by rw [Hl5.out]; omega) (by omega) hne (by omega); rw [← Hi9.out] at hw)
      | (go_at_call 88; refine hw.mono ?_; clear hw; rintro e w4 ⟨hk4, u, hou, rfl⟩))
    have hou2 : OwnB w4 w3.heap.size u bo := by rw [Hbo.out]; exact hou
    clear hou
    have hk4s := hk4.size
    have hb4 : Below w1.heap.size w1 w4 := Kp.to_below (Kp.to_below hb2 hk3 hb2s (fun j hj => by subst hj; exact hg)) hk4 (by omega) (fun j hj => by subst hj; exact hg)
    have hx4 := (Hx1.out.below hb4).sub 1 4
    have hbs4 := Hby.out.sub 1 4
    have hl4 : ((xs.drop 1).take 4).length = 4 := by rw [List.length_take, List.length_drop]; omega
    have hbyb : Byt bo := by rw [Hbo.out]; exact fun x hx => hbs x (List.mem_of_mem_drop (List.mem_of_mem_take hx))
    have hs5 := sum_any (some ⟨b, o + 1, none⟩) _ (c - 1) w4 (by rw [hl4]; unfold maxLen; omega) hx4 hbs4
    rw [hl4] at hs5
    obtain ⟨s1, hs1⟩ : ∃ s1, s1 = extP 0 ((xs.drop 1).take 4) := ⟨_, rfl⟩
    have hs5' : Calls Try.prog 51 #[.slice (some ⟨b, o + 1, none⟩) 4 (c - 1)] w4 fun e w' => Below w4.heap.size w4 w' ∧ e = .returned (.int .u32 s1) := by rw [hs1]; exact hs5
    clear hs5
    obtain ⟨Au, cu, rfl, hcu1, hcu2⟩ := hou2.shape
    obtain ⟨s2, hs2⟩ : ∃ s2, s2 = extP s1 bo := ⟨_, rfl⟩
    have hs6 : ∀ w', Below w4.heap.size w4 w' → Calls Try.prog 50 #[.int .u32 s1, .slice Au bo.length cu] w' fun e w'' => Below w'.heap.size w' w'' ∧ e = .returned (.int .u32 s2) := fun w' hb => by
      rw [hs2]
      obtain ⟨A2, c2, e2, _, _, hx2, _⟩ := (hou2.below hb).read
      injection e2 with e2 _ e3
      subst e2 e3
      exact extend_any s1 _ bo _ w' ⟨hcu1, hcu2⟩ hx2 hbyb
    have hsok : sumOk xs ↔ sm = s2 := by
      unfold sumOk
      rw [hs2, hs1, Hsm.out, Hbo.out, List.drop_zero]
    have Hsok := Lib.hid hsok
    have Hou2 := Lib.hid hou2
    have Hhx4 := Lib.hid hx4
    clear hsok hs2 hs1 hl4 hou2 hx4 hbs4 hbyb
    have Hb4 := Lib.hid hb4
    have Hk3 := Lib.hid hk3
    have Hk4 := Lib.hid hk4
    have Hb2 := Lib.hid hb2
    have Hhov := Lib.hid hov
    clear hb4 hk3 hk4 hb2 hov hov3 hrd hrd3 hbs
    by_cases hss : sm = s2
    · have er : r = (bo, 0) := by rw [Hrr.out, if_pos (Hsok.out.2 hss), Hbo.out]
      clear Hsok Hrr
      subst er hss
      go_wp2_with (first
        | (go_at_call 51; refine hs5'.mono ?_; clear hs5'; rintro e w5 ⟨hb5, rfl⟩; have hs7 := hs6 w5 hb5; clear hs6)
        | (go_at_call 50; refine hs7.mono ?_; clear hs7; rintro e w6 ⟨hb6, rfl⟩))
      go_ret2
      have hb46 := hb5.trans (hb6.mono hb5.size)
      exact ⟨Hb1.out.trans ((Hb4.out.trans (hb46.mono (by omega))).mono hb1s), _, rfl, (Hou2.out.below hb46).mono (by omega)⟩
    · have er : r = ([], 160) := by rw [Hrr.out, if_neg (fun h => hss (Hsok.out.1 h))]
      clear Hsok Hrr
      subst er
      go_wp2_with (first
        | (go_at_call 51; refine hs5'.mono ?_; clear hs5'; rintro e w5 ⟨hb5, rfl⟩; have hs7 := hs6 w5 hb5; clear hs6)
        | (go_at_call 50; refine hs7.mono ?_; clear hs7; rintro e w6 ⟨hb6, rfl⟩))
      go_ret2
      have hb46 := hb5.trans (hb6.mono hb5.size)
      exact ⟨Hb1.out.trans ((Hb4.out.trans (hb46.mono (by omega))).mono hb1s), _, rfl, OwnB.nil _ _⟩
  · rw [if_neg hok] at hrr
    subst hrr
    rw [← hp] at hh hp1 hp2
    unfold headOk at hok
    rw [← hp] at hok
    have hp20 := hp2.1
    have hp21 := hp2.2
    clear hx hby hp hp2 hr
    by_cases he : p.2 = 0
    · have hne : ¬ p.1 = (xs.length : Int) := fun h => hok ⟨he, h⟩
      rw [he] at hh
      obtain ⟨n, hn⟩ : ∃ n, n = p.1 := ⟨_, rfl⟩
      rw [← hn] at hh hne hp20 hp21
      clear he hn hok hp1
      go_enter Try.func79, Try.ntmps79
      go_wp2_with (go_at_call 61; refine hh.mono ?_; clear hh; rintro e w1 ⟨hb1, rfl⟩)
      go_ret2
      exact ⟨hb1, _, rfl, OwnB.nil _ _⟩
    · obtain ⟨n, hn⟩ : ∃ n, n = p.1 := ⟨_, rfl⟩
      obtain ⟨m, hm⟩ : ∃ m, m = p.2 := ⟨_, rfl⟩
      rw [← hn, ← hm] at hh
      rw [← hm] at he
      clear hn hm hok hp1 hp20 hp21
      go_enter Try.func79, Try.ntmps79
      go_wp2_with (go_at_call 61; refine hh.mono ?_; clear hh; rintro e w1 ⟨hb1, rfl⟩)
      go_ret2
      exact ⟨hb1, _, rfl, OwnB.nil _ _⟩
end Go.Proofs.Ytkllgmhfjibajaa
