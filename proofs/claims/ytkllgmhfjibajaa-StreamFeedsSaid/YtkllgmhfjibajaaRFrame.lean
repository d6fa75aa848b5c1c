/- The walks of the reference's Wrap and Frame. Conditions: the bytes are readable. -/
import Derived.Test.YtkllgmhfjibajaaRWriter
namespace Go.Proofs.Ytkllgmhfjibajaa
open Go.RowKit St
/-- Wrap's writer, the length's bytes, the body. -/
structure WS (w w' : World) (gw : Nat) (v : Value) (wb : List Int) (A : Option Addr) (cs nb : List Int) : Prop where
  g : RW w' gw gw v wb
  be : Below w.heap.size w w'
  x : BytesAt w' A cs
  l : Blk w' w.heap.size 5 (nb.map (Value.int .u8)).toArray
  lt : w.heap.size < gw
  hA : ∀ a, A = some a → a.block < w.heap.size
theorem WS.wrote {w w1 w2 : World} {gw : Nat} {v : Value} {wb wb' : List Int} {A : Option Addr} {cs nb : List Int} (h : WS w w1 gw v wb A cs nb) (hw : RWrote w1 gw gw v wb' w2) : ∃ v', WS w w2 gw v' wb' A cs nb := by
  obtain ⟨v', h1, hk, h3⟩ := hw
  have hlt := h.lt
  refine ⟨v', h1, Kp.to_below h.be hk h.be.size (fun j hj => ?_), h.x.kp hk (fun a e hj => ?_), h.l.kp hk (fun hj => ?_), hlt, h.hA⟩
  · rcases hj with hj | hj
    · omega
    · have := (h.g.own.lt hj).1; omega
  · have ha := h.hA a e
    rcases hj with hj | hj
    · omega
    · have := (h.g.own.lt hj).1; omega
  · rcases hj with hj | hj
    · omega
    · have := (h.g.own.lt hj).1; omega
theorem frame_sum (cs : List Int) (hby : Byt cs) : frameOf cs = [197] ++ b4 (cs.length : Int) ++ b4 ((Cr.exN (Cr.exN 0 (b4 (cs.length : Int))) cs : Nat) : Int) ++ cs := by
  unfold frameOf extP
  have e1 : nt ((b4 (cs.length : Int)).foldl thr (nt 0)) = (Cr.exN 0 (b4 (cs.length : Int)) : Int) := Cr.ext_eq (s := 0) (by decide) (b4_byt _)
  rw [e1, Cr.ext_eq (Cr.exN_lt (by decide) (b4_byt _)) hby]
set_option maxRecDepth 100000 in
set_option maxHeartbeats 4000000 in
theorem rwrap_any (A : Option Addr) (cs : List Int) (c : Nat) (w : World) (hc : cs.length ≤ c ∧ c ≤ maxLen) (hx : BytesAt w A cs) (hby : Byt cs) (h0 : 0 < cs.length) (hle : cs.length ≤ 4087) :
    Calls Try.prog 80 #[.int .u8 197, .slice A cs.length c] w fun e w' => Below w.heap.size w w' ∧ ∃ v, e = .returned v ∧ OwnB w' w.heap.size v (frameOf cs) := by
  have hfs := frame_sum cs hby
  have hA : ∀ a, A = some a → a.block < w.heap.size := fun a e => by
    obtain ⟨b, o, e', hlt, _⟩ := hx h0
    rw [e'] at e
    injection e with e
    subst e
    exact hlt
  have hfx := fixed4_any cs.length w (by omega)
  have Hx := Lib.hid hx
  have Hby := Lib.hid hby
  have H0 := Lib.hid h0
  have HA := Lib.hid hA
  have hu1 := Cr.exN_lt (s := 0) (by decide) (b4_byt (cs.length : Int))
  have hu2 := Cr.exN_lt (s := Cr.exN 0 (b4 (cs.length : Int))) hu1 hby
  generalize hs1 : Cr.exN 0 (b4 (cs.length : Int)) = s1 at *
  generalize hs2 : Cr.exN s1 cs = s2 at *
  have Hfs := Lib.hid hfs
  have Hs1 := Lib.hid hs1
  have Hs2 := Lib.hid hs2
  clear hx hby h0 hA hfs hs1 hs2
  go_enter Try.func80, Try.ntmps80
  go_upto_region 2 with (go_at_call 89; refine hfx.mono ?_; clear hfx; rintro e w1 ⟨rfl, hb1, hk1⟩)
  have hb4l : (b4 (cs.length : Int)).length = 4 := rfl
  have hsum := Cr.rsum_any (some ⟨w.heap.size, 0, none⟩) (b4 (cs.length : Int)) 4 w1 (by rw [hb4l]; exact ⟨Nat.le_refl _, by unfold maxLen; decide⟩) (bytes_of_blk hk1) (b4_byt _)
  rw [hb4l, Hs1.out] at hsum
  have hext := Cr.rextend_any s1 A cs c w1 hu1 hc (Hx.out.below hb1) Hby.out
  rw [Hs2.out] at hext
  have Hb1 := Lib.hid hb1
  have Hk1 := Lib.hid hk1
  clear hb1 hk1 hb4l
  go_upto_region 3 with (first | (go_at_call 91; refine hsum.mono ?_; clear hsum; rintro e w' ⟨rfl, rfl⟩) | (go_at_call 90; refine hext.mono ?_; clear hext; rintro e w' ⟨rfl, rfl⟩))
  go_upto_region 4 with (go_at_call 92; refine (rnewWriter_any _).mono ?_; rintro e w2 ⟨rfl, hb2, hs2, hn2⟩)
  have hlw : w.heap.size < w'.heap.size := Hk1.out.lt
  have ws2 : WS w w2 w'.heap.size (.slice none 0 0) [] A cs (b4 (cs.length : Int)) := ⟨hn2, Hb1.out.trans (hb2.mono (Nat.le_of_lt hlw)), (Hx.out.below Hb1.out).below hb2, Hk1.out.below hb2 hlw, hlw, HA.out⟩
  generalize w'.heap.size = gw at *
  clear hb2 hs2 hn2
  have hgw := ws2.g.blk.lt
  have hcall := rbyte_any gw gw _ [] w2 197 ws2.g (Nat.le_of_lt hgw) (by simp)
  have Ws2 := Lib.hid ws2
  clear ws2 Hb1 Hk1 hgw
  go_upto_region 5 with (go_at_call 93; refine hcall.mono ?_; clear hcall; rintro e w3 ⟨rfl, hw3⟩)
  obtain ⟨v3, ws3⟩ := Ws2.out.wrote hw3
  rw [List.nil_append] at ws3
  have hgw := ws3.g.blk.lt
  have hcall := rraw_any gw gw v3 [197] w3 (some ⟨w.heap.size, 0, none⟩) (b4 (cs.length : Int)) 4 ws3.g (Nat.le_of_lt hgw) (bytes_of_blk ws3.l) (by simp [b4]) (by simp [b4])
  rw [show (b4 (cs.length : Int)).length = 4 from rfl] at hcall
  have Ws3 := Lib.hid ws3
  clear hw3 Ws2 hgw ws3
  go_upto_region 6 with (go_at_call 94; refine hcall.mono ?_; clear hcall; rintro e w4 ⟨rfl, hw4⟩)
  obtain ⟨v4, ws4⟩ := Ws3.out.wrote hw4
  have hgw := ws4.g.blk.lt
  have hcall := ru32_any gw gw v4 _ w4 s2 hu2 ws4.g (Nat.le_of_lt hgw) (by simp [b4])
  have Ws4 := Lib.hid ws4
  clear hw4 Ws3 hgw ws4
  go_upto_region 7 with (go_at_call 95; refine hcall.mono ?_; clear hcall; rintro e w5 ⟨rfl, hw5⟩)
  obtain ⟨v5, ws5⟩ := Ws4.out.wrote hw5
  have hgw := ws5.g.blk.lt
  have hcall := rraw_any gw gw v5 _ w5 A cs c ws5.g (Nat.le_of_lt hgw) ws5.x H0.out (by simp [b4]; omega)
  have Ws5 := Lib.hid ws5
  clear hw5 Ws4 hgw ws5
  go_upto_region 8 with (go_at_call 94; refine hcall.mono ?_; clear hcall; rintro e w6 ⟨rfl, hw6⟩)
  obtain ⟨v6, ws6⟩ := Ws5.out.wrote hw6
  have hcall := rbytes_any gw gw v6 _ w6 ws6.g (by simp) (by simp [b4]; omega)
  rw [← Hfs.out] at hcall
  have Ws6 := Lib.hid ws6
  clear hw6 Ws5 ws6
  go_wp2_with (go_at_call 96; refine hcall.mono ?_; clear hcall; rintro e w7 ⟨vf, rfl, hof, hb7⟩)
  go_ret
  exact ⟨Ws6.out.be.trans (hb7.mono Ws6.out.be.size), vf, rfl, hof.mono Ws6.out.be.size⟩
theorem rframe_none (A : Option Addr) (c : Nat) (w : World) : Calls Try.prog 63 #[.slice A 0 c] w fun e w' => e = .returned (.tuple #[.slice none 0 0, .int .i64 160]) ∧ w' = w := by
  go_enter Try.func63, Try.ntmps63
  go_wp2
  go_ret2
  exact ⟨rfl, rfl⟩
theorem rframe_huge (A : Option Addr) (n c : Nat) (w : World) (h : 4087 < n) : Calls Try.prog 63 #[.slice A n c] w fun e w' => e = .returned (.tuple #[.slice none 0 0, .int .i64 163]) ∧ w' = w := by
  have h1 : ((n : Int) == 0) = false := by simp only [beq_eq_false_iff_ne, ne_eq]; omega
  have h2 : (n : Int) > 4087 := by omega
  go_enter Try.func63, Try.ntmps63
  go_wp2
  go_ret2
  exact ⟨rfl, rfl⟩
theorem rframe_any (A : Option Addr) (cs : List Int) (c : Nat) (w : World) (hc : cs.length ≤ c ∧ c ≤ maxLen) (hx : BytesAt w A cs) (hby : Byt cs) (h0 : 0 < cs.length) (hle : cs.length ≤ 4087) :
    Calls Try.prog 63 #[.slice A cs.length c] w fun e w' => Below w.heap.size w w' ∧ ∃ v, e = .returned (.tuple #[v, .int .i64 0]) ∧ OwnB w' w.heap.size v (frameOf cs) := by
  have hw := rwrap_any A cs c w hc hx hby h0 hle
  have h1 : ((cs.length : Int) == 0) = false := by simp only [beq_eq_false_iff_ne, ne_eq]; omega
  have h2 : ¬ (cs.length : Int) > 4087 := by omega
  clear hx hby
  go_enter Try.func63, Try.ntmps63
  go_wp2_with (go_at_call 80; refine hw.mono ?_; clear hw; rintro e w1 ⟨hb, v, rfl, hov⟩)
  go_ret2
  exact ⟨hb, v, rfl, hov⟩
end Go.Proofs.Ytkllgmhfjibajaa
