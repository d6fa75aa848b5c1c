/- The walk of 'SchedTurn'. Conditions: the turns are readable, their lists and numbers within reach. -/
import Derived.Test.YtgbjhkgbjnobcaaTurnPlain
import Derived.Test.YtgbjhkgbjnobcaaSame
import Derived.Test.YtgbjhkgbjnobcaaFair
namespace Go.Proofs.Ytgbjhkgbjnobcaa
open Go.RowKit Trn

theorem enter_two {t t1 : Tu} {id qm n : Int} (h : EnterIs t id qm t1 n) : (n ≠ 0 ∧ t1.qs.length = 0) ∨ (n = 0 ∧ Valid t ∧ comes t id qm ∧ ∃ p, Spot t.qs id p false ∧ t1 = entered t p id qm) := by
  rcases h with ⟨h1, h2, rfl⟩ | ⟨_, _, rfl, rfl⟩ | ⟨h1, h2, h3, h4⟩
  · exact .inl ⟨fun e => h1 (chk_zero.1 (h2.symm.trans e)), rfl⟩
  · exact .inl ⟨by decide, rfl⟩
  · exact .inr ⟨h3, h1, h2, h4⟩

set_option maxRecDepth 100000 in
set_option maxHeartbeats 4000000 in
theorem turn_any (v : Value) (t : Tu) (id qm cost : Int) (w : World) (B : Nat) (hB : B ≤ w.heap.size) (hv : TuAt w B v t) (hr : Reach t) (hids : Ids t) (hid : id ≤ 9223372036854775807) :
    Calls Try.prog 9 #[v, .int .i64 id, .int .i64 qm, .int .i64 cost] w fun e w' => e = .returned (.bool true) ∧ Below w.heap.size w w' := by
  have Hv := Lib.hid hv
  obtain ⟨A, c, rfl, hlc, hcm, hq⟩ := hv
  clear hq
  have hen : ∀ w1, Below w.heap.size w w1 → Calls Try.prog 21 #[.agg #[.slice A t.qs.length c, .int .i64 t.at_, .bool t.fr], .int .i64 id, .int .i64 qm] w1 fun e w' => (∃ v' t' n, e = .returned (.tuple #[v', .int .i64 n]) ∧ TuNew w' w1.heap.size w'.heap.size v' t' ∧ EnterIs t id qm t' n) ∧ Below w1.heap.size w1 w' := fun w1 hb =>
    enter_any _ t id qm w1 B (by have := hb.size; omega) (Hv.out.below (hb.mono hB)) hr hids hid
  go_enter Try.func9, Try.ntmps9
  go_upto_region 1 with fail
  have hx := Boxed.start w A t.qs.length c t.at_ t.fr
  generalize hW0 : World.alloc w _ = W0
  rw [hW0] at hx
  clear hW0
  obtain ⟨x0, x1, x2⟩ := hx.cells
  have HX := Lib.hid hx
  clear hx
  go_upto_region 2 with (go_at_call 21; refine Calls.mono (hen _ HX.out.below) ?_; rintro e w1 ⟨⟨v', t1, n, rfl, hn1, hp⟩, hb1⟩; have hn1' := hn1; obtain ⟨A1, c1, rfl, _⟩ := hn1'; have Hn1 := Lib.hid hn1; have Hp := Lib.hid hp; have Hb1 := Lib.hid hb1; clear hn1 hp hb1 hen)
  have hn2 := Hn1.out.alloc (.cells #[.slice A1 t1.qs.length c1, .int .i64 t1.at_, .bool t1.fr] 34)
  have hx2 := HX.out.more (Hb1.out.alloc Hb1.out.size (.cells #[.slice A1 t1.qs.length c1, .int .i64 t1.at_, .bool t1.fr] 34))
  have hb9 := Blk.new w1 34 #[.slice A1 t1.qs.length c1, .int .i64 t1.at_, .bool t1.fr]
  have hb9n : w.heap.size < w1.heap.size := by have := HX.out.lt; have := Hb1.out.size; omega
  generalize hW2 : World.alloc w1 _ = W2
  rw [hW2] at hn2 hx2 hb9
  clear hW2 x0 x1 x2
  generalize w1.heap.size = p9 at *
  have k0 := hb9.cell 0
  have k1 := hb9.cell 1
  have k2 := hb9.cell 2
  simp at k0 k1 k2
  have hl9 := hb9.lt
  have HN2 := Lib.hid hn2
  have HX2 := Lib.hid hx2
  have HB9 := Lib.hid hb9
  clear HX Hn1 Hb1 hn2 hx2 hb9
  rcases enter_two Hp.out with ⟨hn0, ht0⟩ | ⟨rfl, hval, hcomes, p, hsp, rfl⟩
  · have hnb : (n != 0) = true := by simp [hn0]
    clear hn0
    go_wp2_with (go_at_call 28; refine Calls.mono (works_any _) ?_; rintro e w3 ⟨rfl, hb3⟩; have hc3 := HB9.out.below hb3 hl9; have m0 := hc3.cell 0; simp at m0; rw [ht0] at m0; have Hb3 := Lib.hid hb3; clear hb3 hc3)
    go_ret
    exact ⟨rfl, HX2.out.below.trans (Hb3.out.mono HX2.out.below.size)⟩
  · have hval1 := entered_valid hval hcomes hsp
    have hr1 : Reach (entered t p id qm) := entered_reach hr
    have hi1 : Ids (entered t p id qm) := entered_ids hids hid
    have hlv : Calls Try.prog 22 #[.agg #[.slice A1 (entered t p id qm).qs.length c1, .int .i64 (entered t p id qm).at_, .bool (entered t p id qm).fr], .int .i64 id] W2 fun e w' => (∃ A2 c2 t2, e = .returned (.tuple #[.agg #[.slice A2 t2.qs.length c2, .int .i64 t2.at_, .bool t2.fr], .int .i64 0]) ∧ TuNew w' W2.heap.size w'.heap.size (.agg #[.slice A2 t2.qs.length c2, .int .i64 t2.at_, .bool t2.fr]) t2 ∧ (0 < t.qs.length → t2 = t)) ∧ Below W2.heap.size W2 w' := by
      refine Calls.mono (leave_any _ _ id W2 W2.heap.size (Nat.le_refl _) HN2.out.at_ hr1 hi1 hid) ?_
      rintro e w' ⟨⟨v', t2, n, rfl, hn, hp⟩, hb⟩
      obtain ⟨rfl, h2⟩ := leave_entered hval hcomes hsp hp
      have hn' := hn
      obtain ⟨A2, c2, rfl, _⟩ := hn'
      exact ⟨⟨A2, c2, t2, rfl, hn, h2⟩, hb⟩
    have hask : ∀ w1, Below W2.heap.size W2 w1 → Calls Try.prog 23 #[.agg #[.slice A1 (entered t p id qm).qs.length c1, .int .i64 (entered t p id qm).at_, .bool (entered t p id qm).fr], .int .i64 id, .int .i64 cost] w1 fun e w' => (∃ A3 c3 t3 n, e = .returned (.tuple #[.agg #[.slice A3 t3.qs.length c3, .int .i64 t3.at_, .bool t3.fr], .int .i64 n]) ∧ TuNew w' w1.heap.size w'.heap.size (.agg #[.slice A3 t3.qs.length c3, .int .i64 t3.at_, .bool t3.fr]) t3 ∧
        ((¬ (1 ≤ cost ∧ cost ≤ 1048576) ∧ n = 191) ∨ (n = 0 ∧ t3.qs.length = t.qs.length + 1 ∧ (∀ (i : Nat) (q : Qu), t3.qs[i]? = some q → (q.id = id ↔ i = p)) ∧ t3.qs[p]? = some ⟨id, qm, 0, [cost]⟩))) ∧ Below w1.heap.size w1 w' := fun w1 hb => by
      refine Calls.mono (ask_any _ _ id cost w1 W2.heap.size hb.size (HN2.out.at_.below hb) hr1 hi1 hid) ?_
      rintro e w' ⟨⟨v', t3, n, rfl, hn, hp⟩, hb⟩
      have hn' := hn
      obtain ⟨A3, c3, rfl, _⟩ := hn'
      exact ⟨⟨A3, c3, t3, n, rfl, hn, ask_entered hval hcomes hsp hp⟩, hb⟩
    have hlen1 : (entered t p id qm).qs.length = t.qs.length + 1 := entered_len
    have hple := hsp.le
    have hlen32 := hval.len
    have Hlen1 := Lib.hid hlen1
    generalize entered t p id qm = t1 at *
    clear hval1 hr1 hi1 hval hcomes hsp hlen1 Hp
    go_upto_region 5 with (go_at_call 22; refine Calls.mono hlv ?_; rintro e w3 ⟨⟨A2, c2, t2, rfl, hn3, ht2⟩, hb3⟩; have Hn3 := Lib.hid hn3; have Ht2 := Lib.hid ht2; have Hb3 := Lib.hid hb3; clear hn3 ht2 hb3 hlv)
    have hn4 := Hn3.out.alloc (.cells #[.slice A2 t2.qs.length c2, .int .i64 t2.at_, .bool t2.fr] 34)
    have hb4 := Hb3.out.alloc Hb3.out.size (.cells #[.slice A2 t2.qs.length c2, .int .i64 t2.at_, .bool t2.fr] 34)
    have hb11 := Blk.new w3 34 #[.slice A2 t2.qs.length c2, .int .i64 t2.at_, .bool t2.fr]
    generalize hW4 : World.alloc w3 _ = W4
    rw [hW4] at hn4 hb4 hb11
    clear hW4 k0 k1 k2
    generalize w3.heap.size = p11 at *
    have hc9 := HB9.out.below hb4 hl9
    have k0 := hc9.cell 0
    have k1 := hc9.cell 1
    have k2 := hc9.cell 2
    simp at k0 k1 k2
    have HN4 := Lib.hid hn4
    have HB4 := Lib.hid hb4
    have HB11 := Lib.hid hb11
    clear hn4 hb4 hb11 hc9 Hn3 Hb3
    go_upto_region 6 with (go_at_call 23; refine Calls.mono (hask _ HB4.out) ?_; rintro e w5 ⟨⟨A3, c3, t3, n, rfl, hn5, ht3⟩, hb5⟩; have Hn5 := Lib.hid hn5; have Ht3 := Lib.hid ht3; have Hb5 := Lib.hid hb5; clear hn5 ht3 hb5 hask)
    have hn6 := Hn5.out.alloc (.cells #[.slice A3 t3.qs.length c3, .int .i64 t3.at_, .bool t3.fr] 34)
    have hb6 := Hb5.out.alloc Hb5.out.size (.cells #[.slice A3 t3.qs.length c3, .int .i64 t3.at_, .bool t3.fr] 34)
    have hb13 := Blk.new w5 34 #[.slice A3 t3.qs.length c3, .int .i64 t3.at_, .bool t3.fr]
    generalize hW6 : World.alloc w5 _ = W6
    rw [hW6] at hn6 hb6 hb13
    clear hW6 k0 k1 k2
    generalize w5.heap.size = p13 at *
    have hb26 := HB4.out.trans (hb6.mono HB4.out.size)
    have hx6 := HX2.out.more hb26
    have hc9 := HB9.out.below hb26 hl9
    have hc11 := HB11.out.below hb6 HB11.out.lt
    obtain ⟨x0, x1, x2⟩ := hx6.cells
    have k0 := hc9.cell 0
    have l0 := hc11.cell 0
    have l1 := hc11.cell 1
    have l2 := hc11.cell 2
    have m0 := hb13.cell 0
    simp at k0 l0 l1 l2 m0
    have hsame : 0 < t.qs.length → Calls Try.prog 18 #[.agg #[.slice A2 t2.qs.length c2, .int .i64 t2.at_, .bool t2.fr], .agg #[.slice A t.qs.length c, .int .i64 t.at_, .bool t.fr]] W6 fun e w' => e = .returned (.bool true) ∧ Below W6.heap.size W6 w' := fun h0 => by
      have h2 := Ht2.out h0
      subst h2
      exact same_yes _ _ t2 W6 W6.heap.size (Nat.le_refl _) ((HN4.out.at_.below hb6).mono hb6.size) ((Hv.out.below (hx6.below.mono hB)).mono (by have := hx6.below.size; omega)) hlen32
    have HB13 := Lib.hid hb13
    have HN6 := Lib.hid hn6
    have HX6 := Lib.hid hx6
    have HC9 := Lib.hid hc9
    clear hn6 hb6 hb13 hb26 hx6 hc9 hc11 HN4 HB4 HB11 Hn5 Hb5 HN2 HB9
    have hw1 : IntKind.i64.wrap ((t.qs.length : Int) + 1) = (t.qs.length : Int) + 1 := by rw [IntKind.wrap_i64]; omega
    rw [Hlen1.out] at k0
    go_upto_region 6 with fail
    go_cut [69] (fun s wx => s = .bool false ∧ Below W6.heap.size W6 wx)
    case first =>
      by_cases h0 : 0 < t.qs.length
      · have hsm := hsame h0
        have h0i : (0 : Int) < t.qs.length := by omega
        have hl6 := HX6.out.lt
        have hl9' := HC9.out.lt
        go_wp2_with (go_at_call 18; refine Calls.mono hsm ?_; rintro e w7 ⟨rfl, hb7⟩; have hx7 := HX6.out.more hb7; have hc7 := HC9.out.below hb7 hl9'; obtain ⟨x0, x1, x2⟩ := hx7.cells; have k0 := hc7.cell 0; simp at k0; rw [Hlen1.out] at k0; have Hb7 := Lib.hid hb7; clear hx7 hc7 hb7)
        go_meet
        case rel => exact ⟨rfl, Hb7.out⟩
      · have h0i : ¬ (0 : Int) < t.qs.length := by omega
        go_wp2
        go_meet
        case rel => exact ⟨rfl, Below.refl _ _⟩
    case rest =>
      obtain ⟨rfl, hb7⟩ := hcut
      clear x0 x1 x2 k0 l0 l1 l2 m0 hsame
      have hc13 := HB13.out.below hb7 HB13.out.lt
      have m0 := hc13.cell 0
      simp at m0
      have hbel := HX6.out.below.trans (hb7.mono HX6.out.below.size)
      have Hbel := Lib.hid hbel
      have Hb7 := Lib.hid hb7
      clear hbel hb7 hc13
      rcases Ht3.out with ⟨hbad, rfl⟩ | ⟨rfl, hl3, hids3, hp3⟩
      · have hb1 : (decide (cost < 1) || decide (cost > 1048576)) = true := by simp; omega
        by_cases hc1 : cost < 1
        · go_wp2
          go_ret
          exact ⟨rfl, Hbel.out⟩
        · have hc2 : cost > 1048576 := by omega
          go_wp2
          go_ret
          exact ⟨rfl, Hbel.out⟩
      · have Hids3 := Lib.hid hids3
        have Hp3 := Lib.hid hp3
        have hpl : p < t3.qs.length := by omega
        clear hids3 hp3
        go_wp2
        clear m0
        have hpl32 : p ≤ 32 := by omega
        go_loopg [15] t3.qs.length (fun g vk wx => ∃ k : Nat, g + k = t3.qs.length ∧ k ≤ p ∧ vk = .int .i64 (k : Nat) ∧ wc = wx)
        case atStart => exact ⟨0, by omega, Nat.zero_le _, rfl, rfl⟩
        case round =>
          obtain ⟨k, hk, hkp, rfl, rfl⟩ := hrel
          have Hk := Lib.hid hk
          have hkl : k < t3.qs.length := by omega
          have hki : (k : Int) < t3.qs.length := by omega
          clear hk
          have hc13 := HB13.out.below Hb7.out HB13.out.lt
          have m0 := hc13.cell 0
          simp at m0
          obtain ⟨qb, qo, rfl, hqb, hrow⟩ := (HN6.out.at_.below Hb7.out).qs (by omega)
          by_cases hkk : k = p
          · subst hkk
            obtain ⟨a0, a1, a2, A7, c7, a3, hc1, hc2, hin⟩ := hrow k _ Hp3.out
            obtain ⟨ib, io, rfl, hib, hel⟩ := hin (by simp)
            have e0 := hel 0 cost rfl
            rw [Nat.add_zero] at e0
            simp at a0 a1 a3
            clear hrow hin hel hc13
            go_wp2
            go_ret
            exact ⟨rfl, Hbel.out⟩
          · have hak : t3.qs[k]? = some t3.qs[k] := List.getElem?_eq_getElem hkl
            obtain ⟨x, hx⟩ : ∃ x, x = t3.qs[k] := ⟨_, rfl⟩
            rw [← hx] at hak
            have hne : (x.id == id) = false := by
              have := Hids3.out k x hak
              simp
              exact fun e => hkk (this.1 e)
            obtain ⟨a0, _⟩ := hrow k x hak
            clear hrow hx hak hc13
            go_wp2
            go_roundg (gk - 1)
            case measure => have := Hk.out; omega
            case rel => exact ⟨k + 1, by have := Hk.out; omega, by omega, by go_num, rfl⟩
end Go.Proofs.Ytgbjhkgbjnobcaa
