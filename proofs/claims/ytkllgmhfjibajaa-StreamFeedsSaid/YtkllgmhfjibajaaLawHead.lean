/- The walk of the law's head. Conditions: none. -/
import Derived.Test.YtkllgmhfjibajaaSplit
import Derived.Lib.SlBytesConst
namespace Go.Proofs.Ytkllgmhfjibajaa
open Go.RowKit St
theorem map_one {l : List PV} {p : Pc} (h : l.map (·.1) = [p]) : ∃ v, l = [(p, v)] := by
  cases l with
  | nil => cases h
  | cons q l =>
    cases l with
    | nil => simp at h; exact ⟨q.2, by rw [← h]⟩
    | cons r l => simp at h
theorem bytes_of_obj {w : World} {b : Nat} {t : TypeId} {fr : Nat × Nat} {xs : List Int} (h : w.heap[b]? = some (.cells (xs.map (Value.int .u8)).toArray t fr)) : BytesAt w (some ⟨b, 0, none⟩) xs := fun _ => ⟨b, 0, rfl, (by
    rcases Nat.lt_or_ge b w.heap.size with hlt | hge
    · exact hlt
    · rw [Array.getElem?_eq_none hge] at h; cases h), fun i x hx => by
  rw [cell_of_row w b _ _ _ _ h, Nat.zero_add]
  simp [hx]⟩
theorem conv22 (w : World) (C : Array Value) (n c : Nat) : (convert 22 22 (.slice (some ⟨w.heap.size, 0, none⟩) n c)).run Try.prog (w.alloc (.cells C 5)) = .ok (.slice (some ⟨w.heap.size, 0, none⟩) n c) (w.alloc (.cells C 5 (C.size, C.size + 1))) :=
  Lib.run_convert_bytes_const (P := Try.prog) w 22 5 C n c Try.underlying22 Try.underlying5
set_option maxRecDepth 100000 in
set_option maxHeartbeats 4000000 in
theorem lawhead_any (w : World) : Calls Try.prog 30 #[] w fun e w' => e = .returned (.bool true) ∧ Below w.heap.size w w' := by
  have hcv := conv22
  have hb0 := (Below.refl w.heap.size w).alloc (Nat.le_refl _) (.cells #[.int .u8 104, .int .u8 105] 5 (2, 3))
  have hfr := frame_any (some ⟨w.heap.size, 0, none⟩) [104, 105] 2 (w.alloc (.cells #[.int .u8 104, .int .u8 105] 5 (2, 3))) ⟨by decide, by unfold maxLen; decide⟩ (bytes_of_obj (t := 5) (fr := (2, 3)) (heap_alloc_new w _)) (fun x hx => by simp at hx; omega) (by decide) (by decide)
  have Hb0 := Lib.hid hb0
  clear hb0
  go_enter Try.func30, Try.ntmps30
  go_upto_region 2 with (go_at_call 35; refine hfr.mono ?_; clear hfr; rintro e w1 ⟨hb1, fv, rfl, hof⟩)
  obtain ⟨A1, c1, rfl, k1, k2, kx, kA⟩ := hof.read
  have hb01 : Below w.heap.size w w1 := Hb0.out.trans (hb1.mono Hb0.out.size)
  have hsp := split_any 64 A1 _ c1 w1 (by decide) ⟨k1, k2⟩ (by rw [frameOf_len]; decide) kx (fun a e => (hof.lt (kA a e)).2) (frameOf_byt (fun x hx => by simp at hx; omega))
  rw [feed_hi] at hsp
  have Hb01 := Lib.hid hb01
  clear hb1 kx kA hof k1 k2 hb01
  go_upto_region 3 with (go_at_call 12; refine hsp.mono ?_; clear hsp; rintro e w2 ⟨hb2, tv2, l2, rfl, hpl2, hl2⟩)
  obtain ⟨pv, rfl⟩ := map_one hl2
  have hb02 : Below w.heap.size w w2 := Hb01.out.trans (hb2.mono Hb01.out.size)
  have hb3 := (Below.refl w2.heap.size w2).alloc (Nat.le_refl _) (.cells #[.int .u8 0] 5)
  have hsp := split_any 64 (some ⟨w2.heap.size, 0, none⟩) [0] 1 (w2.alloc (.cells #[.int .u8 0] 5)) (by decide) ⟨by decide, by unfold maxLen; decide⟩ (by decide) (bytes_single (Blk.new w2 5 _)) (fun a e => by injection e with e; subst e; rw [World.size_alloc]; exact Nat.lt_succ_self _) (fun x hx => by simp at hx; omega)
  rw [feed_zero] at hsp
  have Hb02 := Lib.hid hb02
  have Hb3 := Lib.hid hb3
  have Hpl2 := Lib.hid hpl2
  clear hb2 hb02 hb3 hpl2 hl2
  go_upto_region 4 with (go_at_call 12; refine hsp.mono ?_; clear hsp; rintro e w4 ⟨hb4, tv4, l4, rfl, hpl4, hl4⟩)
  obtain ⟨pv4, rfl⟩ := map_one hl4
  have hb24 : Below w2.heap.size w2 w4 := Hb3.out.trans (hb4.mono Hb3.out.size)
  have hb04 : Below w.heap.size w w4 := Hb02.out.trans (hb24.mono Hb02.out.size)
  have hpl2' := Hpl2.out.below hb24
  obtain ⟨g2, c2, rfl, hg2, hg2', q0, q1, q2, q3, hf⟩ := hpl2'.at_ (k := 0) rfl
  obtain ⟨g4, c4, rfl, hg4, hg4', r0, r1, r2, r3, hf'⟩ := hpl4.at_ (k := 0) rfl
  obtain ⟨B, cb, eB, d1, d2, dx, dA⟩ := (hpl2'.own 0 _ rfl).read
  simp only at q0 q1 q2 q3 r0 r1 r2 r3 eB
  subst eB
  have hbs := (Below.refl w4.heap.size w4).alloc (Nat.le_refl _) (.cells #[.int .u8 104, .int .u8 105] 5 (2, 3))
  have hs := samebytes_yes B (some ⟨w4.heap.size, 0, none⟩) cb 2 [104, 105] (w4.alloc (.cells #[.int .u8 104, .int .u8 105] 5 (2, 3))) (dx.below hbs) (bytes_of_obj (t := 5) (fr := (2, 3)) (heap_alloc_new w4 _)) (by decide)
  have Hb04 := Lib.hid hb04
  have Hbs := Lib.hid hbs
  clear dx dA d1 d2 hpl2' hpl4 Hpl2 hb04 hb24 hb4 hf hf' Hb3 Hb02 Hb01 Hb0 hg4 hg2 hl4 hbs
  simp only [List.length_cons, List.length_nil, Nat.zero_mul, Nat.zero_add] at q0 q1 q2 q3 r0 r1 r2 r3 hs ⊢
  go_upto_region 6 with fail
  go_wp2_with (go_at_call 37; refine hs.mono ?_; clear hs; rintro e w5 ⟨rfl, n, rfl⟩)
  go_ret
  exact ⟨rfl, below_drewN (Hb04.out.trans (Hbs.out.mono Hb04.out.size)) _⟩
end Go.Proofs.Ytkllgmhfjibajaa
