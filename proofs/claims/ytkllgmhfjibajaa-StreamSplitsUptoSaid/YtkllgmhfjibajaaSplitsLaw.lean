/- The walk of 'StreamSplits'. Conditions: the bytes fit. -/
import Derived.Test.YtkllgmhfjibajaaSplits
namespace Go.Proofs.Ytkllgmhfjibajaa
open Go.RowKit St
theorem bodyP_le (xs : List Int) : (bodyP xs).1.length ≤ xs.length := by
  unfold bodyP
  split
  · split
    · unfold bodyOf
      simp only [List.length_take, List.length_drop]
      omega
    · simp
  · simp
theorem whole_body (r : R) : (∀ p ∈ (whole r).2, p.body.length ≤ r.buf.length) ∧ (whole r).1.buf.length ≤ r.buf.length := by
  unfold whole
  split
  · exact ⟨fun p hp => (by cases hp), Nat.le_refl _⟩
  · refine ⟨fun p hp => ?_, Nat.zero_le _⟩
    simp only [List.mem_singleton] at hp
    subst hp
    split
    · exact bodyP_le r.buf
    · simp
theorem step_body (r : R) (c : Int) : (∀ p ∈ (St.step r c).2, p.body.length ≤ r.buf.length + 1) ∧ (St.step r c).1.buf.length ≤ r.buf.length + 1 := by
  unfold St.step
  split
  · unfold St.measure
    split
    · exact ⟨fun p hp => (by cases hp), by simp⟩
    · split
      · exact ⟨fun p hp => by simp at hp; subst hp; simp, by simp⟩
      · split
        · exact ⟨fun p hp => by simp at hp; subst hp; simp, by simp⟩
        · have h := whole_body ⟨2, r.lim, r.buf ++ [c], (headP (r.buf ++ [c])).1, r.fr⟩
          simpa using h
  · split
    · have h := whole_body ⟨r.st, r.lim, r.buf ++ [c], r.len, r.fr⟩
      unfold gathers
      simpa using h
    · split
      · unfold passes
        exact ⟨fun p hp => (by cases hp), by simp⟩
      · exact ⟨fun p hp => (by cases hp), by simp⟩
theorem feed_body : ∀ (xs : List Int) (r : R), ∀ p ∈ (feed r xs).2, p.body.length ≤ r.buf.length + xs.length
  | [], _, p, h => by cases h
  | c :: xs, r, p, h => by
    have hs := step_body r c
    rcases List.mem_append.1 (show p ∈ (St.step r c).2 ++ (feed (St.step r c).1 xs).2 from h) with h | h
    · have := hs.1 p h
      simp only [List.length_cons]
      omega
    · have := feed_body xs _ p h
      have := hs.2
      simp only [List.length_cons]
      omega
theorem spl_body (lim : Int) (cs : List Int) : ∀ p ∈ (spl lim cs).1, p.body.length ≤ cs.length := fun p hp => by
  unfold spl at hp
  split at hp
  · have := feed_body cs (fresh lim) p hp
    simpa [fresh] using this
  · cases hp
theorem spl_len (lim : Int) (cs : List Int) : (spl lim cs).1.length ≤ cs.length := by
  unfold spl
  split
  · exact feed_len cs (fresh lim)
  · exact Nat.zero_le _
attribute [local irreducible] Go.Calls in
set_option maxRecDepth 100000 in
set_option maxHeartbeats 4000000 in
theorem splits_any (lim : Int) (A : Option Addr) (cs : List Int) (c : Nat) (w : World) (hc : cs.length ≤ c ∧ c ≤ maxLen) (hA : A = none → c = 0) (hbig : cs.length ≤ 1073741824) (hx : BytesAt w A cs) (hby : Byt cs) :
    Calls Try.prog 3 #[.slice A cs.length c, .int .i64 lim] w fun e w' => e = .returned (.bool true) ∧ Below w.heap.size w w' := by
  have hcm := hc.2
  unfold maxLen at hcm
  have hlc : cs.length + 64 ≤ maxLen := by unfold maxLen; omega
  have Hx := Lib.hid hx
  have Hby := Lib.hid hby
  have hsr := spare_any A cs c w hc (by omega) hx
  clear hx hby
  go_enter Try.func3, Try.ntmps3
  go_upto_region 2 with (go_at_call 10; refine hsr.mono ?_; clear hsr; rintro e w1 ⟨rfl, hb1, hg1⟩)
  have hgl := hg1.lt
  have hrs := rsplitp_all lim A cs c w1 hc hA (by omega) (Hx.out.below hb1) Hby.out
  have Hb1 := Lib.hid hb1
  have Hg1 := Lib.hid hg1
  clear hb1 hg1
  go_upto_region 3 with (go_at_call 11; refine hrs.mono ?_; clear hrs; rintro e w2 ⟨hb2, tvW, lW, rfl, hprW, hpsW⟩)
  have hs2 := hb2.size
  have hg2 := Hg1.out.below hb2 hgl
  have hsp := splitp_all lim (some ⟨w.heap.size, 0, none⟩) cs (cs.length + 64) w2 ⟨by omega, hlc⟩ (by omega) (bytes_of_blk hg2).pre Hby.out
  have hbe2 : Below w.heap.size w w2 := Hb1.out.trans (hb2.mono Hb1.out.size)
  have Hbe2 := Lib.hid hbe2
  have Hg2 := Lib.hid hg2
  have HprW := Lib.hid hprW
  have HpsW := Lib.hid hpsW
  clear hbe2 hg2 hprW hpsW hb2 Hg1 Hb1
  go_upto_region 4 with (go_at_call 12; refine hsp.mono ?_; clear hsp; rintro e w3 ⟨hb3, tv1, l1, rfl, hpl1, hps1⟩)
  have hs3 := hb3.size
  have hg3 := Hg2.out.below hb3 (by omega)
  have hsp := splitp_all lim (some ⟨w.heap.size, 0, none⟩) cs (cs.length + 64) w3 ⟨by omega, hlc⟩ (by omega) (bytes_of_blk hg3).pre Hby.out
  have hbe3 : Below w.heap.size w w3 := Hbe2.out.trans (hb3.mono Hbe2.out.size)
  have hprW3 := HprW.out.below hb3
  have hltW := fun b hb => HprW.out.lt (b := b) hb
  have Hbe3 := Lib.hid hbe3
  have Hg3 := Lib.hid hg3
  have Hpl1 := Lib.hid hpl1
  have Hps1 := Lib.hid hps1
  have HprW3 := Lib.hid hprW3
  have HltW := Lib.hid hltW
  clear hbe3 hg3 hpl1 hps1 hprW3 hltW hb3 HprW Hg2 Hbe2
  go_upto_region 5 with (go_at_call 12; refine hsp.mono ?_; clear hsp; rintro e w4 ⟨hb4, tv2, l2, rfl, hpl2, hps2⟩)
  have hs4 := hb4.size
  have hbe4 : Below w.heap.size w w4 := Hbe3.out.trans (hb4.mono Hbe3.out.size)
  have hg4 := Hg3.out.below hb4 (by omega)
  have hpl14 := Hpl1.out.below hb4
  have hprW4 := HprW3.out.below hb4
  have hsm := samepieces_pr _ _ _ _ l1 lW w4 hpl14.reads hprW4 (by rw [Hps1.out, HpsW.out])
  have hlt1 := fun b hb => Hpl1.out.lt (b := b) hb
  have Hbe4 := Lib.hid hbe4
  have Hg4 := Lib.hid hg4
  have Hpl14 := Lib.hid hpl14
  have HprW4 := Lib.hid hprW4
  have Hpl2 := Lib.hid hpl2
  have Hps2 := Lib.hid hps2
  have Hlt1 := Lib.hid hlt1
  clear hbe4 hg4 hpl14 hprW4 hpl2 hps2 hlt1 hb4 Hpl1 HprW3 Hg3 Hbe3
  go_upto_region 7 with (go_at_call 13; refine hsm.mono ?_; clear hsm; rintro e w' ⟨rfl, n5, rfl⟩)
  have hbn5 : Below w4.heap.size w4 (w4.drewN n5) := below_drewN (Below.refl _ _) n5
  have hb6 : Below w4.heap.size w4 ((w4.drewN n5).alloc (.cells #[.slice none 0 0] 30)) := hbn5.alloc hbn5.size _
  have hsh6 : SH ((w4.drewN n5).alloc (.cells #[.slice none 0 0] 30)) w1.heap.size w4.heap.size (.slice none 0 0) [] := ⟨Blk.new (w4.drewN n5) 30 _, World.ownsRow_nil _ _ 22 1, fun n p hp => by simp at hp⟩
  have hpl16 := (Hpl14.out.below hb6).mono (base' := w1.heap.size) hs2
  have hl1 : l1.length ≤ cs.length := by
    have := congrArg List.length Hps1.out
    rw [List.length_map] at this
    have := spl_len lim cs
    omega
  have hkeep := keep_any w1.heap.size w4.heap.size (.slice none 0 0) tv1 [] l1 _ hsh6 hpl16 (Nat.le_trans (by omega) hb6.size) (by simp; omega) (fun p hp => by
    have := spl_body lim cs p.1 (by rw [← Hps1.out]; exact List.mem_map_of_mem hp)
    omega) (fun n p hp => by simp at hp)
  have Hb6 := Lib.hid hb6
  clear hbn5 hb6 hsh6 hpl16
  go_upto_region 9 with (go_at_call 14; refine hkeep.mono ?_; clear hkeep; rintro e w7 ⟨rfl, sv7, hK⟩)
  have hk7 : Kp (fun j => j = w4.heap.size ∨ FP tv1 l1 j) w4 w7 := ((Kp.of_below (S := fun j => j = w4.heap.size ∨ FP tv1 l1 j) Hb6.out).trans hK.kp (fun j hj => .inl (by
    rcases hj with h | h | h
    · exact .inl h
    · cases h
    · exact .inr h)))
  have hfar : ∀ b, b < w2.heap.size → ¬ (b = w4.heap.size ∨ FP tv1 l1 b) := fun b hb h => by
    rcases h with h | h
    · omega
    · have := (Hlt1.out b h).1; omega
  have hpl27 := Hpl2.out.kp hk7 (fun b hb h => by
    have h1 := Hpl2.out.lt hb
    rcases h with h | h
    · omega
    · have := (Hlt1.out b h).2; omega)
  have hprW7 := HprW4.out.kp hk7 (fun b hb => hfar b (HltW.out b hb).2)
  have hg7 := Hg4.out.kp hk7 (hfar _ (by omega))
  have hbe7 : Below w.heap.size w w7 := Kp.to_below Hbe4.out hk7 Hbe4.out.size (fun j hj => by
    have h1 := Hbe4.out.size
    rcases hj with h | h
    · omega
    · have := (Hlt1.out j h).1; omega)
  have hsm := samepieces_pr _ _ _ _ l2 lW w7 hpl27.reads hprW7 (by rw [Hps2.out, HpsW.out])
  have hbnN : ∀ n, Below w7.heap.size w7 (w7.drewN n) := fun n => below_drewN (Below.refl _ _) n
  have hst : ∀ n, Calls Try.prog 15 #[.pointer (some ⟨w4.heap.size, 0, none⟩)] (w7.drewN n) fun e w' => e = .returned (.bool true) ∧ w7.drewN n = w' := fun n => (stands_any _ _ _ _ _ (hK.sh.below (hbnN n)) (by simp [taken]; omega)).mono fun _ _ h => ⟨h.1, h.2.symm⟩
  have hkp : ∀ n, Calls Try.prog 16 #[.slice (some ⟨w.heap.size, 0, none⟩) (cs.length + 64) (cs.length + 64), .slice A cs.length c] (w7.drewN n) fun e w' => e = .returned (.bool true) ∧ ∃ m, w7.drewN (n + m) = w' := fun n => by
    have h := kept_any A (some ⟨w.heap.size, 0, none⟩) cs marks c (cs.length + 64) (w7.drewN n) (fun x hx => List.eq_of_mem_replicate hx) (by simp [marks]; omega) ((bytes_of_blk hg7).below (hbnN n)) ((Hx.out.below hbe7).below (hbnN n))
    refine h.mono ?_
    rintro e w' ⟨rfl, m, rfl⟩
    exact ⟨rfl, m, (World.drewN_drewN _ _ _).symm⟩
  have hpl : ∀ n, Calls Try.prog 17 #[.slice A cs.length c, .int .i64 lim] (w7.drewN n) fun e w' => e = .returned (.bool true) ∧ Below w7.heap.size w7 w' := fun n => by
    refine (placed_split lim A cs c (w7.drewN n) hc hA (by omega) ((Hx.out.below hbe7).below (hbnN n)) Hby.out).mono ?_
    rintro e w' ⟨rfl, hb⟩
    exact ⟨rfl, (hbnN n).trans hb⟩
  have Hbe7 := Lib.hid hbe7
  clear hK hk7 hfar hpl27 hprW7 hg7 hbe7 hbnN
  go_wp2_with (first
    | (go_at_call 13; refine hsm.mono ?_; clear hsm; rintro e w' ⟨rfl, n8, rfl⟩)
    | (go_at_call 15; refine (hst _).mono ?_; clear hst; rintro e w' ⟨rfl, rfl⟩)
    | (go_at_call 16; refine (hkp _).mono ?_; clear hkp; rintro e w' ⟨rfl, n9, rfl⟩)
    | (go_at_call 17; refine (hpl _).mono ?_; clear hpl; rintro e w9 ⟨rfl, hb9⟩))
  go_ret
  exact ⟨rfl, Hbe7.out.trans (hb9.mono Hbe7.out.size)⟩
end Go.Proofs.Ytkllgmhfjibajaa
