/- The walk of 'same', where both are the same turns. Conditions: the turns are readable. -/
import Derived.Test.YtgbjhkgbjnobcaaLeave
namespace Go.Proofs.Ytgbjhkgbjnobcaa
open Go.RowKit Trn

set_option maxRecDepth 100000 in
set_option maxHeartbeats 4000000 in
theorem same_yes (v u : Value) (t : Tu) (w : World) (B : Nat) (hB : B ≤ w.heap.size) (hv : TuAt w B v t) (hu : TuAt w B u t) (hlen : t.qs.length ≤ 32) :
    Calls Try.prog 18 #[v, u] w fun e w' => e = .returned (.bool true) ∧ Below w.heap.size w w' := by
  obtain ⟨A, c, rfl, _, _, hq⟩ := hv
  obtain ⟨A', c', rfl, _, _, hq'⟩ := hu
  have Hq := Lib.hid hq
  have Hq' := Lib.hid hq'
  clear hq hq'
  go_enter Try.func18, Try.ntmps18
  go_upto_region 1 with fail
  have hb1 := (Blk.new w 34 #[.slice A t.qs.length c, .int .i64 t.at_, .bool t.fr]).alloc (.cells #[.slice A' t.qs.length c', .int .i64 t.at_, .bool t.fr] 34)
  have hb2 := Blk.new (w.alloc (.cells #[.slice A t.qs.length c, .int .i64 t.at_, .bool t.fr] 34)) 34 #[.slice A' t.qs.length c', .int .i64 t.at_, .bool t.fr]
  have hbe : Below w.heap.size w ((w.alloc (.cells #[.slice A t.qs.length c, .int .i64 t.at_, .bool t.fr] 34)).alloc (.cells #[.slice A' t.qs.length c', .int .i64 t.at_, .bool t.fr] 34)) := ((Below.refl _ _).alloc (Nat.le_refl _) _).alloc (by simp) _
  rw [World.size_alloc] at hb2
  generalize hW : World.alloc (World.alloc _ _) _ = W
  rw [hW] at hb1 hb2 hbe
  clear hW
  have hqW := (Hq.out.below (hbe.mono hB)).mono (B' := W.heap.size) (by have := hbe.size; omega)
  have hqW' := (Hq'.out.below (hbe.mono hB)).mono (B' := W.heap.size) (by have := hbe.size; omega)
  have x0 := hb1.cell 0
  have x1 := hb1.cell 1
  have x2 := hb1.cell 2
  have y0 := hb2.cell 0
  have y1 := hb2.cell 1
  have y2 := hb2.cell 2
  simp at x0 x1 x2 y0 y1 y2
  have HQ := Lib.hid hqW
  have HQ' := Lib.hid hqW'
  have HB1 := Lib.hid hb1
  have HB2 := Lib.hid hb2
  have HBE := Lib.hid hbe
  clear Hq Hq' hqW hqW' hb1 hb2 hbe
  go_wp2
  clear x0 x1 x2 y0 y1 y2
  go_loopg [5] t.qs.length (fun g vk wx => ∃ k : Nat, g + k = t.qs.length ∧ vk = .int .i64 (k : Nat) ∧ Below W.heap.size W wx)
  case atStart => exact ⟨0, by omega, rfl, Below.refl _ _⟩
  case round =>
    obtain ⟨k, hk, rfl, hbe⟩ := hrel
    have hkn : k ≤ t.qs.length := by omega
    have Hk := Lib.hid hk
    have hb1 := HB1.out.below hbe HB1.out.lt
    have hb2 := HB2.out.below hbe HB2.out.lt
    have x0 := hb1.cell 0
    have y0 := hb2.cell 0
    simp at x0 y0
    have hl1 := hb1.lt
    have hl2 := hb2.lt
    have Hbe := Lib.hid hbe
    clear hk hb1 hb2 hbe
    by_cases hkl : k < t.qs.length
    · have hki : (k : Int) < t.qs.length := by omega
      have hak : t.qs[k]? = some t.qs[k] := List.getElem?_eq_getElem hkl
      obtain ⟨x, hx⟩ : ∃ x, x = t.qs[k] := ⟨_, rfl⟩
      rw [← hx] at hak
      obtain ⟨qb, qo, rfl, hqb, hrow⟩ := (HQ.out.below Hbe.out) (by omega)
      obtain ⟨rb, ro, rfl, hrb, hrow'⟩ := (HQ'.out.below Hbe.out) (by omega)
      obtain ⟨a0, a1, a2, A1, c1, a3, hc1, hc2, hin1⟩ := hrow k x hak
      obtain ⟨b0, b1, b2, A2, c2, b3, hd1, hd2, hin2⟩ := hrow' k x hak
      have hsz := Hbe.out.size
      have hqb2 : qb < wr.heap.size := by omega
      have hrb2 : rb < wr.heap.size := by omega
      unfold maxLen at hc2
      have Hin1 := Lib.hid hin1
      have Hin2 := Lib.hid hin2
      clear hx hak hrow hrow' hin1 hin2
      go_upto_region 8 with fail
      have hbl8 : Below wr.heap.size wr ((wr.alloc (.cells #[.int .i64 x.id, .int .i64 x.qu, .int .i64 x.de, .slice A1 x.cs.length c1] 51)).alloc (.cells #[.int .i64 x.id, .int .i64 x.qu, .int .i64 x.de, .slice A2 x.cs.length c2] 51)) :=
        ((Below.refl _ _).alloc (Nat.le_refl _) _).alloc (by simp) _
      have hp0 := (Blk.new wr 51 #[.int .i64 x.id, .int .i64 x.qu, .int .i64 x.de, .slice A1 x.cs.length c1]).alloc (.cells #[.int .i64 x.id, .int .i64 x.qu, .int .i64 x.de, .slice A2 x.cs.length c2] 51)
      have hp1 := Blk.new (wr.alloc (.cells #[.int .i64 x.id, .int .i64 x.qu, .int .i64 x.de, .slice A1 x.cs.length c1] 51)) 51 #[.int .i64 x.id, .int .i64 x.qu, .int .i64 x.de, .slice A2 x.cs.length c2]
      rw [World.size_alloc] at hp1
      generalize hW8 : World.alloc (World.alloc _ _) _ = w8
      rw [hW8] at hbl8 hp0 hp1
      clear hW8 a0 a1 a2 a3 b0 b1 b2 b3 x0 y0 hqb hrb hqb2 hrb2
      have hbe8 := Hbe.out.trans (hbl8.mono hsz)
      have hin1 := ((Hin1.out.mono hsz).below hbl8).mono hbl8.size
      have hin2 := ((Hin2.out.mono hsz).below hbl8).mono hbl8.size
      generalize wr.heap.size = p0 at *
      have l0 := hp0.cell 0
      have l1 := hp0.cell 1
      have l2 := hp0.cell 2
      have l3 := hp0.cell 3
      have r0 := hp1.cell 0
      have r1 := hp1.cell 1
      have r2 := hp1.cell 2
      have r3 := hp1.cell 3
      simp at l0 l1 l2 l3 r0 r1 r2 r3
      have H1 := Lib.hid hin1
      have H2 := Lib.hid hin2
      have HP0 := Lib.hid hp0
      have HP1 := Lib.hid hp1
      have HBE8 := Lib.hid hbe8
      clear Hin1 Hin2 hin1 hin2 hbl8 hp0 hp1 hbe8
      go_wp2
      clear l0 l1 l2 l3 r0 r1 r2 r3
      go_loopg [8] x.cs.length (fun g vm wx => ∃ m : Nat, g + m = x.cs.length ∧ vm = .int .i64 (m : Nat) ∧ Below w8.heap.size w8 wx)
      case atStart => exact ⟨0, by omega, rfl, Below.refl _ _⟩
      case round =>
        obtain ⟨m, hm, rfl, hbe⟩ := hrel
        have hmn : m ≤ x.cs.length := by omega
        have Hmm := Lib.hid hm
        have hq0 := HP0.out.below hbe HP0.out.lt
        have hq1 := HP1.out.below hbe HP1.out.lt
        have l3 := hq0.cell 3
        have r3 := hq1.cell 3
        simp at l3 r3
        have hj1 := H1.out.below hbe
        have hj2 := H2.out.below hbe
        have Hbe2 := Lib.hid hbe
        clear hm hq0 hq1 hbe
        by_cases hml : m < x.cs.length
        · have hmi : (m : Int) < x.cs.length := by omega
          obtain ⟨b2, o2, z, rfl, hb2, hz, c2z⟩ := hj2.at_ hml
          obtain ⟨b1, o1, e1, hb1, hel1⟩ := hj1 (by omega)
          subst e1
          have c1z := hel1 m z hz
          clear hj1 hj2 hel1 hz
          go_wp2
          go_quiet (fail)
          go_wp2
          go_roundg (gk - 1)
          case measure => have := Hmm.out; omega
          case rel => exact ⟨m + 1, by have := Hmm.out; omega, by go_num, below_drewN Hbe2.out _⟩
        · have hmi : ¬ (m : Int) < x.cs.length := by omega
          clear hj1 hj2
          go_wp2
          go_roundg (t.qs.length - (k + 1))
          case measure => have := Hk.out; omega
          case rel => exact ⟨k + 1, by omega, by go_num, HBE8.out.trans (Hbe2.out.mono HBE8.out.size)⟩
    · have hki : ¬ (k : Int) < t.qs.length := by omega
      go_wp2
      go_ret
      exact ⟨rfl, HBE.out.trans (Hbe.out.mono HBE.out.size)⟩
end Go.Proofs.Ytgbjhkgbjnobcaa
