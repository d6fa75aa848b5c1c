/- The walk of 'SchedServes'. Conditions: the turns are readable, their lists within reach. -/
import Derived.Test.YtgbjhkgbjnobcaaFair
import Derived.Test.YtgbjhkgbjnobcaaServesPlain
namespace Go.Proofs.Ytgbjhkgbjnobcaa
open Go.RowKit Trn

theorem next_bad (w : World) : Calls Try.prog 13 #[.agg #[.slice none 0 0, .int .i64 (-1), .bool false]] w fun e w' => (∃ v' t' id cost, e = .returned (.tuple #[v', .int .i64 id, .int .i64 cost, .bool false]) ∧ TuNew w' w.heap.size w'.heap.size v' t') ∧ Below w.heap.size w w' := by
  refine Calls.mono (next_any _ ⟨[], -1, false⟩ w w.heap.size (Nat.le_refl _) ⟨none, 0, rfl, Nat.le_refl _, Nat.zero_le _, fun h => absurd h (by simp)⟩ (fun q hq => by cases hq)) ?_
  rintro e w' ⟨⟨v', t', id, cost, ok, rfl, hn, hp⟩, hb⟩
  refine ⟨?_, hb⟩
  have hbad : ¬ Valid ⟨[], -1, false⟩ := fun h => by have := h.at_.1; exact absurd this (by decide)
  rcases hp with ⟨_, _, _, _, rfl⟩ | ⟨h, _⟩ | ⟨h, _⟩
  · exact ⟨v', t', id, cost, rfl, hn⟩
  · exact absurd h hbad
  · exact absurd h hbad
theorem TBox.more {w wr w1 : World} {b : Nat} {t : Tu} (h : TBox w b t wr) (hb : Below wr.heap.size wr w1) : TBox w b t w1 := by
  obtain ⟨A, c, h1, h2⟩ := h.cells
  exact ⟨h.below.trans (hb.mono h.below.size), h.ge, A, c, h1.below hb h1.lt, (h2.below hb).mono hb.size⟩
/-- The turns, and the next ones. -/
structure M3 (w : World) (nb lo : Nat) (A' : Option Addr) (c' : Nat) (tk t' : Tu) (wr : World) : Prop where
  box : TBox w w.heap.size tk wr
  blk : Blk wr nb 34 #[.slice A' t'.qs.length c', .int .i64 t'.at_, .bool t'.fr]
  new : TuNew wr lo wr.heap.size (.agg #[.slice A' t'.qs.length c', .int .i64 t'.at_, .bool t'.fr]) t'
  lo_ : w.heap.size < lo
  nb_ : w.heap.size < nb
theorem M3.more {w wr w1 : World} {nb lo c' : Nat} {A' : Option Addr} {tk t' : Tu} (h : M3 w nb lo A' c' tk t' wr) (hb : Below wr.heap.size wr w1) : M3 w nb lo A' c' tk t' w1 := by
  refine ⟨h.box.more hb, h.blk.below hb h.blk.lt, ?_, h.lo_, h.nb_⟩
  obtain ⟨A, c, e, k1, k2, k3⟩ := h.new.below hb
  exact ⟨A, c, e, k1, k2, k3.mono hb.size⟩
theorem TBox.put {w wr : World} {b lo n' c' : Nat} {t t' : Tu} {A' : Option Addr} {a : Int} {f : Bool} (h : TBox w b t wr) (hn : TuNew wr lo wr.heap.size (.agg #[.slice A' n' c', .int .i64 a, .bool f]) t') (hlo : b < lo) :
    TBox w b t' (((wr.setCell ⟨b, 0, none⟩ (.slice A' n' c')).setCell ⟨b, 1, none⟩ (.int .i64 a)).setCell ⟨b, 2, none⟩ (.bool f)) := by
  obtain ⟨A, c, h1, _⟩ := h.cells
  have ht := (((Touch.refl b wr).set_ 0 (.slice A' n' c')).set_ 1 (.int .i64 a)).set_ 2 (.bool f)
  have hn2 := (hn.touch ht hlo).at_
  have hge := h.ge
  refine ⟨h.below.trans (ht.below hge), hge, ?_⟩
  have hb2 := ((h1.set_ 0 (.slice A' n' c')).set_ 1 (.int .i64 a)).set_ 2 (.bool f)
  obtain ⟨A2, c2, e, _⟩ := hn
  injection e with e
  have e0 : Value.slice A' n' c' = .slice A2 t'.qs.length c2 := by
    have := congrArg (fun x => x[0]?) e
    simpa using this
  have e1 : Value.int .i64 a = .int .i64 t'.at_ := by
    have := congrArg (fun x => x[1]?) e
    simpa using this
  have e2 : Value.bool f = .bool t'.fr := by
    have := congrArg (fun x => x[2]?) e
    simpa using this
  rw [e0, e1, e2] at hb2 hn2 ⊢
  rw [e0, e1, e2] at ht
  refine ⟨A2, c2, by simpa using hb2, ?_⟩
  have hsz := ht.size
  rw [hsz]
  exact hn2
theorem sum_reach {F : Nat → Int} {M : Int} : ∀ {n : Nat}, (∀ k, k < n → 0 ≤ F k ∧ F k ≤ M) → 0 ≤ sumTo F n ∧ sumTo F n ≤ n * M
  | 0, _ => by simp [sumTo]
  | n + 1, h => by
    have h1 := sum_reach (n := n) (fun k hk => h k (by omega))
    have h2 := h n (by omega)
    simp only [sumTo, Int.natCast_add, Int.add_mul]
    omega

set_option maxRecDepth 100000 in
set_option maxHeartbeats 8000000 in
theorem serves_any (v : Value) (t : Tu) (i : Int) (w : World) (B : Nat) (hB : B ≤ w.heap.size) (hv : TuAt w B v t) (hr : Reach t) :
    Calls Try.prog 8 #[v, .int .i64 i] w fun e w' => e = .returned (.bool true) ∧ Below w.heap.size w w' := by
  have Hv := Lib.hid hv
  obtain ⟨A, c, rfl, hlc, hcm, hq⟩ := hv
  clear hq
  have hbx : ∀ w1, Below w.heap.size w w1 → Calls Try.prog 20 #[.agg #[.slice A t.qs.length c, .int .i64 t.at_, .bool t.fr]] w1 fun e w' => e = .returned (.int .i64 (chk t)) ∧ Below w1.heap.size w1 w' := fun w1 hb =>
    check_any _ t w1 B (by have := hb.size; omega) (Hv.out.below (hb.mono hB))
  by_cases hck : chk t = 0
  · have hval := chk_zero.1 hck
    rw [hck] at hbx
    by_cases hi : i < 0
    · clear hval hck
      go_enter Try.func8, Try.ntmps8
      go_upto_region 1 with fail
      have hx := Boxed.start w A t.qs.length c t.at_ t.fr
      generalize hW0 : World.alloc w _ = W0
      rw [hW0] at hx
      have hA0 : TuAt W0 W0.heap.size (.agg #[.slice A t.qs.length c, .int .i64 t.at_, .bool t.fr]) t := (Hv.out.below (hx.below.mono hB)).mono (by have := hx.below.size; omega)
      clear hW0
      obtain ⟨x0, x1, x2⟩ := hx.cells
      have HX := Lib.hid hx
      have HA0 := Lib.hid hA0
      clear hx hA0
      go_wp2_with (first
        | (go_at_call 20; refine Calls.mono (hbx _ HX.out.below) ?_; rintro e w1 ⟨rfl, hb1⟩; have Hb1 := Lib.hid hb1; have hx1 := HX.out.more hb1; obtain ⟨y0, y1, y2⟩ := hx1.cells; have HX1 := Lib.hid hx1; clear hb1 hx1 hbx)
        | (go_at_call 30; refine Calls.mono (hwt _ HX1.out.below) ?_; rintro e w2 ⟨rfl, hb2⟩; have hx2 := HX1.out.more hb2; have HX1 := Lib.hid hx2; clear hb2 hx2 hwt)
        | (go_at_call 13; refine Calls.mono (next_bad _) ?_; rintro e w3 ⟨⟨v', t', id, cost, rfl, hn⟩, hb3⟩; obtain ⟨A', c', rfl, hl1, hl2, hq'⟩ := hn; have hx3 := HX1.out.more hb3; have HX3 := Lib.hid hx3; clear hq' hl1 hl2 hb3 hx3)
        | (go_at_call 28; refine Calls.mono (works_any _) ?_; rintro e w4 ⟨rfl, hb4⟩))
      go_ret
      have h3 := HX3.out.below
      exact ⟨rfl, (h3.alloc h3.size _).trans (hb4.mono (h3.alloc h3.size _).size)⟩
    · obtain ⟨i, rfl⟩ := Int.eq_ofNat_of_zero_le (show 0 ≤ i by omega)
      have hwt : ∀ w1, Below w.heap.size w w1 → Calls Try.prog 30 #[.agg #[.slice A t.qs.length c, .int .i64 t.at_, .bool t.fr], .int .i64 (i : Nat)] w1 fun e w' => e = .returned (.bool (waitsAt t i)) ∧ Below w1.heap.size w1 w' := fun w1 hb => waiting_any _ t i w1 B (by have := hb.size; omega) (Hv.out.below (hb.mono hB))
      cases hwti : waitsAt t i with
      | false =>
        rw [hwti] at hwt
        clear hval hck
        go_enter Try.func8, Try.ntmps8
        go_upto_region 1 with fail
        have hx := Boxed.start w A t.qs.length c t.at_ t.fr
        generalize hW0 : World.alloc w _ = W0
        rw [hW0] at hx
        have hA0 : TuAt W0 W0.heap.size (.agg #[.slice A t.qs.length c, .int .i64 t.at_, .bool t.fr]) t := (Hv.out.below (hx.below.mono hB)).mono (by have := hx.below.size; omega)
        clear hW0
        obtain ⟨x0, x1, x2⟩ := hx.cells
        have HX := Lib.hid hx
        have HA0 := Lib.hid hA0
        clear hx hA0
        go_wp2_with (first
          | (go_at_call 20; refine Calls.mono (hbx _ HX.out.below) ?_; rintro e w1 ⟨rfl, hb1⟩; have Hb1 := Lib.hid hb1; have hx1 := HX.out.more hb1; obtain ⟨y0, y1, y2⟩ := hx1.cells; have HX1 := Lib.hid hx1; clear hb1 hx1 hbx)
          | (go_at_call 30; refine Calls.mono (hwt _ HX1.out.below) ?_; rintro e w2 ⟨rfl, hb2⟩; have hx2 := HX1.out.more hb2; have HX1 := Lib.hid hx2; clear hb2 hx2 hwt)
          | (go_at_call 13; refine Calls.mono (next_bad _) ?_; rintro e w3 ⟨⟨v', t', id, cost, rfl, hn⟩, hb3⟩; obtain ⟨A', c', rfl, hl1, hl2, hq'⟩ := hn; have hx3 := HX1.out.more hb3; have HX3 := Lib.hid hx3; clear hq' hl1 hl2 hb3 hx3)
          | (go_at_call 28; refine Calls.mono (works_any _) ?_; rintro e w4 ⟨rfl, hb4⟩))
        go_ret
        have h3 := HX3.out.below
        exact ⟨rfl, (h3.alloc h3.size _).trans (hb4.mono (h3.alloc h3.size _).size)⟩
      | true =>
        rw [hwti] at hwt
        obtain ⟨a, ha, hwa⟩ := waits_get hwti
        have hil := (List.getElem?_eq_some_iff.1 ha).1
        have hlen0 : 0 < t.qs.length := by omega
        obtain ⟨f, cs, hcs⟩ : ∃ f cs, a.cs = f :: cs := by
          cases h : a.cs with
          | nil => rw [h] at hwa; simp at hwa
          | cons f cs => exact ⟨f, cs, rfl⟩
        have Hval := Lib.hid hval
        have Ha := Lib.hid ha
        have Hcs := Lib.hid hcs
        clear hval hck ha hwti hcs
        go_enter Try.func8, Try.ntmps8
        go_upto_region 1 with fail
        have hx := Boxed.start w A t.qs.length c t.at_ t.fr
        generalize hW0 : World.alloc w _ = W0
        rw [hW0] at hx
        have hA0 : TuAt W0 W0.heap.size (.agg #[.slice A t.qs.length c, .int .i64 t.at_, .bool t.fr]) t := (Hv.out.below (hx.below.mono hB)).mono (by have := hx.below.size; omega)
        clear hW0
        obtain ⟨x0, x1, x2⟩ := hx.cells
        have HX := Lib.hid hx
        have HA0 := Lib.hid hA0
        clear hx hA0
        go_upto_region 4 with (first
          | (go_at_call 20; refine Calls.mono (hbx _ HX.out.below) ?_; rintro e w1 ⟨rfl, hb1⟩; have Hb1 := Lib.hid hb1; have hx1 := HX.out.more hb1; obtain ⟨y0, y1, y2⟩ := hx1.cells; have HX1 := Lib.hid hx1; clear hb1 hx1 hbx)
          | (go_at_call 30; refine Calls.mono (hwt _ HX1.out.below) ?_; rintro e w2 ⟨rfl, hb2⟩; have hx2 := HX1.out.more hb2; have hb02 := Hb1.out.trans (hb2.mono Hb1.out.size); have HX2 := Lib.hid hx2; have Hb02 := Lib.hid hb02; clear hb2 hx2 hb02 hwt))
        have H : TBox w w.heap.size t w2 := ⟨HX2.out.below, Nat.le_refl _, A, c, HX2.out.box, (HA0.out.below Hb02.out).mono Hb02.out.size⟩
        have hA2 := (HA0.out.below Hb02.out).mono Hb02.out.size
        obtain ⟨z0, z1, z2⟩ := HX2.out.cells
        clear x0 x1 x2 y0 y1 y2 HX HX1 HA0 Hb1 Hb02 HX2
        obtain ⟨qb, qo, hAk, hqb, hrow⟩ := hA2.qs hlen0
        subst hAk
        obtain ⟨a0, a1, a2, A1, c1, a3, hc1, hc2, hin⟩ := hrow i a Ha.out
        obtain ⟨ib, io, hA1, hib, hel⟩ := hin (by rw [Hcs.out]; simp)
        subst hA1
        have e0 := hel 0 f (by rw [Hcs.out]; rfl)
        rw [Nat.add_zero] at e0
        have hii : (i : Int) < t.qs.length := by omega
        have hcl : 0 < a.cs.length := by rw [Hcs.out]; simp
        have hcli : (0 : Int) < a.cs.length := by omega
        obtain ⟨_, p0, p1, _⟩ := Hval.out.qs i a Ha.out
        have hfr := Hval.out.cs a (List.mem_of_getElem? Ha.out) f (by rw [Hcs.out]; exact List.mem_cons_self)
        have d1 : ¬ a.qu = 0 := by omega
        have d2 : (a.qu == 0) = false := by simp; omega
        have d3 : f.tdiv a.qu = f / a.qu := Int.tdiv_eq_ediv_of_nonneg (by omega)
        have d4 : 0 ≤ f / a.qu := Int.ediv_nonneg (by omega) (by omega)
        have d5 : f / a.qu ≤ f := Int.ediv_le_self _ (by omega)
        have d6 : IntKind.i64.wrap (f / a.qu) = f / a.qu := by rw [IntKind.wrap_i64]; omega
        have d7 : IntKind.i64.wrap (f / a.qu + 2) = f / a.qu + 2 := by rw [IntKind.wrap_i64]; omega
        obtain ⟨R, hR⟩ : ∃ R, R = f / a.qu + 2 := ⟨_, rfl⟩
        have hR0 : 2 ≤ R ∧ R ≤ 1048578 := by omega
        have HH := Lib.hid H
        have HR := Lib.hid hR
        clear H hA2 hrow hel hin hR hc1 hc2
        go_upto_region 7 with fail
        have HRe := HR.out
        rw [← HRe]
        clear d1 d2 d3 d4 d5 d6 d7 e0 a0 a1 a2 a3 z0 z1 z2 hqb hib hii hcl hcli p0 p1 hwa HRe
        have hF : ∀ k, k < t.qs.length → 0 ≤ may R t (fun _ => 0) k ∧ may R t (fun _ => 0) k ≤ 68720721919 := fun k hk => by
          have hak : t.qs[k]? = some t.qs[k] := List.getElem?_eq_getElem hk
          obtain ⟨_, u0, u1, v0, v1, _⟩ := Hval.out.qs k _ hak
          have hm : R * t.qs[k].qu ≤ 1048578 * 65536 := Int.mul_le_mul hR0.2 u1 (by omega) (by omega)
          have hm0 : 0 ≤ R * t.qs[k].qu := Int.mul_nonneg (by omega) (by omega)
          unfold may most at *
          rw [getD_of hak, Int.sub_zero]
          split at v1 <;> omega
        have HF := Lib.hid hF
        clear hF
        go_wp2
        go_loopg [12, 13] t.qs.length (fun g vb vk wr => ∃ k : Nat, g + k = t.qs.length ∧ vb = .int .i64 (sumTo (may R t (fun _ => 0)) k) ∧ vk = .int .i64 (k : Nat) ∧ TBox w w.heap.size t wr)
        case atStart => exact ⟨0, by omega, rfl, rfl, HH.out⟩
        case round =>
          obtain ⟨k, hk, rfl, rfl, hbox⟩ := hrel
          clear HH
          obtain ⟨Ak, ck, hblk, htu⟩ := hbox.cells
          have m0 := hblk.cell 0
          have m1 := hblk.cell 1
          have m2 := hblk.cell 2
          simp at m0 m1 m2
          have hlt := hblk.lt
          have Hk := Lib.hid hk
          have Hbox := Lib.hid hbox
          have hkn : k ≤ t.qs.length := by omega
          clear hk hbox
          by_cases hkl : k < t.qs.length
          · obtain ⟨b, o, q, rfl, hb, hqk, q0, q1, q2, _⟩ := htu.qs.at_ hkl
            have hki : (k : Int) < t.qs.length := by omega
            have hf := HF.out k hkl
            have hs := sum_reach (n := k) (fun j hj => HF.out j (by omega))
            obtain ⟨_, u0, u1, v0, v1, _⟩ := Hval.out.qs k q hqk
            have hm1 : R * q.qu ≤ 1048578 * 65536 := Int.mul_le_mul hR0.2 u1 (by omega) (by omega)
            have hm0 : 0 ≤ R * q.qu := Int.mul_nonneg (by omega) (by omega)
            have hlen := Hval.out.len
            have hv1 : q.de ≤ 1114111 := by unfold most at v1; split at v1 <;> omega
            have hS1 : sumTo (may R t (fun _ => 0)) k ≤ 31 * 68720721919 := by
              refine Int.le_trans hs.2 (Int.mul_le_mul (by omega) (Int.le_refl _) (by omega) (by omega))
            have hS0 := hs.1
            have hnx : sumTo (may R t (fun _ => 0)) (k + 1) = sumTo (may R t (fun _ => 0)) k + R * q.qu + q.de := by
              simp only [sumTo, may]
              rw [getD_of hqk, Int.sub_zero]
              omega
            generalize sumTo (may R t (fun _ => 0)) k = S at *
            have w1 : IntKind.i64.wrap (R * q.qu) = R * q.qu := by rw [IntKind.wrap_i64]; omega
            have w2 : IntKind.i64.wrap (S + R * q.qu) = S + R * q.qu := by rw [IntKind.wrap_i64]; omega
            have w3 : IntKind.i64.wrap (S + R * q.qu + q.de) = S + R * q.qu + q.de := by rw [IntKind.wrap_i64]; omega
            have Hnx := Lib.hid hnx
            have hk32 : k < 32 := by omega
            clear hf hs u0 u1 v0 v1 hm1 hm0 hv1 hS1 hS0 hnx hqk htu hblk hlen
            go_wp2
            go_quiet (fail)
            go_wp2
            go_roundg (gk - 1)
            case measure => have := Hk.out; omega
            case rel => exact ⟨k + 1, by have := Hk.out; omega, by rw [Hnx.out], by go_num, Hbox.out.more (below_drewN (Below.refl _ _) _)⟩
          · obtain rfl : k = t.qs.length := by omega
            have hki : ¬ ((t.qs.length : Nat) : Int) < t.qs.length := by omega
            clear hblk htu Hk
            obtain ⟨N, hN⟩ : ∃ N, N = sumTo (may R t (fun _ => 0)) t.qs.length := ⟨_, rfl⟩
            have hI : ∃ T, ServInv R f N i t 0 T := ⟨_, by rw [hN]; exact ServInv.start Hval.out Ha.out Hcs.out HR.out.symm⟩
            have hs := sum_reach (n := t.qs.length) HF.out
            have hNr : 0 ≤ N ∧ N ≤ 9223372036854775806 := by
              have hlen := Hval.out.len
              have : ((t.qs.length : Nat) : Int) * 68720721919 ≤ 32 * 68720721919 := Int.mul_le_mul (by omega) (Int.le_refl _) (by omega) (by omega)
              omega
            rw [← hN]
            have HI := Lib.hid hI
            clear hs hI hN HF
            go_wp2
            clear m0 m1 m2 hki hkl hkn
            go_loopg [14] N.toNat (fun g vn wr => ∃ (n : Nat) (tk : Tu) (ak : Qu), g + n = N.toNat ∧ vn = .int .i64 (n : Nat) ∧ TBox w w.heap.size tk wr ∧ Valid tk ∧ Reach tk ∧ tk.qs[i]? = some ak ∧ ak.id = a.id ∧ ∃ T, ServInv R f N i tk n T)
            case atStart => exact ⟨0, t, a, by omega, rfl, Hbox.out, Hval.out, hr, Ha.out, rfl, HI.out⟩
            case round =>
              obtain ⟨n, tk, ak, hn, rfl, hbox, hvk, hrk, hak, hid, T, hinv⟩ := hrel
              clear HI Hbox
              have hnl : (n : Int) < N := hinv.lt hvk
              have hlen32 := hvk.len
              obtain ⟨Ak, ck, hblk, htu⟩ := hbox.cells
              have m0 := hblk.cell 0
              have m1 := hblk.cell 1
              have m2 := hblk.cell 2
              simp at m0 m1 m2
              have hlt := hblk.lt
              have hil := (List.getElem?_eq_some_iff.1 hak).1
              have hlen0 : 0 < tk.qs.length := by omega
              have hw : waits tk.qs := by
                obtain ⟨a2, cs2, h2, h3, _⟩ := hinv.here
                exact ⟨i, a2, h2, by rw [h3]; simp⟩
              have Htu := Lib.hid htu
              have hnx : Calls Try.prog 13 #[.agg #[.slice Ak tk.qs.length ck, .int .i64 tk.at_, .bool tk.fr]] wr fun e w' => (∃ A' c' t' id cost, e = .returned (.tuple #[.agg #[.slice A' t'.qs.length c', .int .i64 t'.at_, .bool t'.fr], .int .i64 id, .int .i64 cost, .bool true]) ∧
                  TuNew w' wr.heap.size w'.heap.size (.agg #[.slice A' t'.qs.length c', .int .i64 t'.at_, .bool t'.fr]) t' ∧ ∃ f, Trn.go f tk = some (t', id, cost)) ∧ Below wr.heap.size wr w' :=
                next_waits _ tk wr wr.heap.size (Nat.le_refl _) Htu.out hrk hvk hw
              have Hn := Lib.hid hn
              have Hbox := Lib.hid hbox
              have Hvk := Lib.hid hvk
              have Hrk := Lib.hid hrk
              have Hak := Lib.hid hak
              have HIdi := Lib.hid hid
              have Hinv := Lib.hid hinv
              have Hblk := Lib.hid hblk
              clear hn hbox hvk hrk hak hid hinv hblk htu hw
              go_upto_region 16 with (go_at_call 13; refine Calls.mono hnx ?_; rintro e w5 ⟨⟨A', c', t', id, cost, rfl, hn5, g, hgo⟩, hb5⟩; have Hn5 := Lib.hid hn5; have Hgo := Lib.hid hgo; have Hb5 := Lib.hid hb5; clear hn5 hgo hb5 hnx)
              have hb05 := Hb5.out
              have hn6 := Hn5.out.alloc (.cells #[.slice A' t'.qs.length c', .int .i64 t'.at_, .bool t'.fr] 34)
              have hb06 := hb05.alloc hb05.size (.cells #[.slice A' t'.qs.length c', .int .i64 t'.at_, .bool t'.fr] 34)
              have hnb := Blk.new w5 34 #[.slice A' t'.qs.length c', .int .i64 t'.at_, .bool t'.fr]
              have hsz5 := hb05.size
              generalize hW6 : World.alloc _ _ = w6
              rw [hW6] at hn6 hb06 hnb
              clear hW6 hb05 m0 m1 m2 Hn5 Hb5
              generalize w5.heap.size = nb at *
              clear w5
              have hM : M3 w nb wr.heap.size A' c' tk t' w6 := ⟨Hbox.out.more hb06, hnb, hn6, hlt, by omega⟩
              have hkeep := keeps_go g Hvk.out hlen0 Hgo.out
              have hsv := served1_go g Hvk.out hlen0 Hgo.out
              have hres := ServInv.go g Hvk.out Hinv.out Hak.out Hgo.out
              have hb6 := Hblk.out.below hb06 hlt
              have m0 := hb6.cell 0
              have m1 := hb6.cell 1
              have m2 := hb6.cell 2
              have n0 := hnb.cell 0
              have n1 := hnb.cell 1
              have n2 := hnb.cell 2
              simp at m0 m1 m2 n0 n1 n2
              have hck : ∀ w1, Below w6.heap.size w6 w1 → Calls Try.prog 20 #[.agg #[.slice A' t'.qs.length c', .int .i64 t'.at_, .bool t'.fr]] w1 fun e w' => e = .returned (.int .i64 0) ∧ Below w1.heap.size w1 w' := fun w1 hb => by
                have := check_any _ t' w1 w6.heap.size hb.size (hn6.at_.below hb)
                rw [chk_zero.2 hkeep.valid] at this
                exact this
              have hll : t'.qs.length = tk.qs.length := hkeep.len
              have hln : (((t'.qs.length : Nat) : Int) != ((tk.qs.length : Nat) : Int)) = false := by rw [hll]; simp
              have hnl6 := hnb.lt
              have hb6l := hb6.lt
              obtain ⟨lo, HM⟩ : ∃ lo, RowKit.Hid (M3 w nb lo A' c' tk t' w6) := ⟨_, Lib.hid hM⟩
              have Hkeep := Lib.hid hkeep
              have Hsv := Lib.hid hsv
              have Hres := Lib.hid hres
              have Hll := Lib.hid hll
              have Hb6 := Lib.hid hb6
              have Hnb := Lib.hid hnb
              clear hM hkeep hsv hres hll hb6 hnb hn6 hb06
              go_upto_region 18 with (go_at_call 20; refine Calls.mono (hck _ (Below.refl _ _)) ?_; rintro e w7 ⟨rfl, hb7⟩; have hc7 := Hb6.out.below hb7 hb6l; have hd7 := Hnb.out.below hb7 hnl6; have k0 := hc7.cell 0; have l0 := hd7.cell 0; simp at k0 l0; have HM := Lib.hid (HM.out.more hb7); clear hck hc7 hd7 hb7)
              clear m0 m1 m2 n0 n1 n2 Hb6 Hnb hln hb6l hnl6
              go_wp2
              go_loopg [19] tk.qs.length (fun g vk wx => ∃ k : Nat, g + k = tk.qs.length ∧ vk = .int .i64 (k : Nat) ∧ M3 w nb lo A' c' tk t' wx)
              case atStart => exact ⟨0, by omega, rfl, HM.out⟩
              case round =>
                obtain ⟨k, hk, rfl, hm⟩ := hrel
                clear HM
                have hkn : k ≤ tk.qs.length := by omega
                have Hk := Lib.hid hk
                obtain ⟨Ak3, ck3, hbk, htu⟩ := hm.box.cells
                have m0 := hbk.cell 0
                have n0 := hm.blk.cell 0
                simp at m0 n0
                have Hm := Lib.hid hm
                clear hk hm
                by_cases hkl : k < tk.qs.length
                · have hki : (k : Int) < tk.qs.length := by omega
                  have hki2 : (k : Int) < t'.qs.length := by rw [Hll.out]; exact hki
                  have hak : tk.qs[k]? = some tk.qs[k] := List.getElem?_eq_getElem hkl
                  obtain ⟨x, hx⟩ : ∃ x, x = tk.qs[k] := ⟨_, rfl⟩
                  rw [← hx] at hak
                  obtain ⟨y, hay, ey, qy, hcase⟩ := Hsv.out.2 k x hak
                  obtain ⟨qb, qo, rfl, hqb, hrow⟩ := htu.qs (by omega)
                  obtain ⟨rb, ro, rfl, hrb, hrow'⟩ := Hm.out.new.at_.qs (by omega)
                  obtain ⟨a0, a1, a2, A1, c1, a3, hc1, hc2, hin1⟩ := hrow k x hak
                  obtain ⟨b0, b1, b2, A2, c2, b3, hd1, hd2, hin2⟩ := hrow' k y hay
                  rw [ey] at b0
                  rw [qy] at b1
                  have hnbl := Hm.out.blk.lt
                  have hbl := hbk.lt
                  have Hin1 := Lib.hid hin1
                  have Hin2 := Lib.hid hin2
                  have Hcase := Lib.hid hcase
                  clear hx hak hay hrow hrow' hin1 hin2 hcase htu hbk ey qy
                  go_upto_region 24 with fail
                  have hbl8 : Below wr.heap.size wr ((wr.alloc (.cells #[.int .i64 x.id, .int .i64 x.qu, .int .i64 x.de, .slice A1 x.cs.length c1] 51)).alloc (.cells #[.int .i64 x.id, .int .i64 x.qu, .int .i64 y.de, .slice A2 y.cs.length c2] 51)) :=
                    ((Below.refl _ _).alloc (Nat.le_refl _) _).alloc (by simp) _
                  have hp0 := (Blk.new wr 51 #[.int .i64 x.id, .int .i64 x.qu, .int .i64 x.de, .slice A1 x.cs.length c1]).alloc (.cells #[.int .i64 x.id, .int .i64 x.qu, .int .i64 y.de, .slice A2 y.cs.length c2] 51)
                  have hp1 := Blk.new (wr.alloc (.cells #[.int .i64 x.id, .int .i64 x.qu, .int .i64 x.de, .slice A1 x.cs.length c1] 51)) 51 #[.int .i64 x.id, .int .i64 x.qu, .int .i64 y.de, .slice A2 y.cs.length c2]
                  rw [World.size_alloc] at hp1
                  generalize hW8 : World.alloc (World.alloc _ _) _ = w8
                  rw [hW8] at hbl8 hp0 hp1
                  clear hW8 a0 a1 a2 a3 b0 b1 b2 b3 m0 n0 hqb hrb hnbl hbl
                  have hM8 := Hm.out.more hbl8
                  have hin1 := (Hin1.out.below hbl8).mono hbl8.size
                  have hin2 := (Hin2.out.below hbl8).mono hbl8.size
                  generalize wr.heap.size = p0 at *
                  have l0 := hp0.cell 0
                  have l1 := hp0.cell 1
                  have l3 := hp0.cell 3
                  have r0 := hp1.cell 0
                  have r1 := hp1.cell 1
                  have r3 := hp1.cell 3
                  simp at l0 l1 l3 r0 r1 r3
                  obtain ⟨fN, hfN⟩ : ∃ fN : Nat, (fN = 0 ∧ x.id ≠ id ∧ y.cs = x.cs) ∨ (fN = 1 ∧ x.id = id ∧ x.cs = cost :: y.cs) := by
                    rcases Hcase.out with ⟨h1, h2⟩ | ⟨h1, h2⟩
                    · exact ⟨0, .inl ⟨rfl, h1, h2⟩⟩
                    · exact ⟨1, .inr ⟨rfl, h1, h2⟩⟩
                  have hlens : x.cs.length = y.cs.length + fN := by
                    rcases hfN with ⟨rfl, _, h2⟩ | ⟨rfl, _, h2⟩
                    · rw [h2]; rfl
                    · rw [h2]; rfl
                  have hshift : ∀ (m : Nat) (z : Int), y.cs[m]? = some z → x.cs[m + fN]? = some z := fun m z hz => by
                    rcases hfN with ⟨rfl, _, h2⟩ | ⟨rfl, _, h2⟩
                    · rw [← h2]; exact hz
                    · rw [h2, List.getElem?_cons_succ]; exact hz
                  have hf1 : fN ≤ 1 := by rcases hfN with ⟨rfl, _⟩ | ⟨rfl, _⟩ <;> omega
                  unfold maxLen at hc2 hd2
                  have hwl : IntKind.i64.wrap ((y.cs.length : Int) + fN) = (x.cs.length : Int) := by rw [IntKind.wrap_i64, hlens]; omega
                  have HfN := Lib.hid hfN
                  have Hlens := Lib.hid hlens
                  have Hshift := Lib.hid hshift
                  have HM8 := Lib.hid hM8
                  have H1 := Lib.hid hin1
                  have H2 := Lib.hid hin2
                  have HP0 := Lib.hid hp0
                  have HP1 := Lib.hid hp1
                  clear Hm Hin1 Hin2 Hcase hfN hlens hshift hM8 hin1 hin2 hbl8 hp0 hp1
                  go_upto_if 144 with fail
                  go_cut [22, 144] (fun s _ wx => s = .int .i64 (fN : Nat) ∧ w8 = wx)
                  case first =>
                    rcases HfN.out with ⟨rfl, h1, h2⟩ | ⟨rfl, h1, h2⟩
                    · have hq : (x.id == id) = false := (by simp [h1]); have h1 := Lib.hid h1; have h2 := Lib.hid h2
                      go_wp2
                      go_meet
                      case rel => exact ⟨rfl, rfl⟩
                    · have hq : (x.id == id) = true := (by simp [h1]); have h1 := Lib.hid h1; have h2 := Lib.hid h2
                      go_wp2
                      go_meet
                      case rel => exact ⟨rfl, rfl⟩
                  case rest =>
                    obtain ⟨rfl, rfl⟩ := hcut
                    go_upto_region 26 with fail
                    go_cut [179] (fun s wx => s = .bool false ∧ w8 = wx)
                    case first =>
                      rcases HfN.out with ⟨rfl, h1, h2⟩ | ⟨rfl, h1, h2⟩
                      · have hw0 : IntKind.i64.wrap (x.cs.length : Int) = x.cs.length := (by rw [h2] at hwl; simpa using hwl)
                        rw [h2] at r3
                        have h1 := Lib.hid h1; have h2 := Lib.hid h2
                        clear hwl
                        go_wp2
                        go_meet
                        case rel => exact ⟨rfl, rfl⟩
                      · obtain ⟨ib, io, rfl, hib, hel⟩ := H1.out (by rw [h2]; simp)
                        have e0 := hel 0 cost (by rw [h2]; rfl)
                        rw [Nat.add_zero] at e0
                        have hxl : x.cs.length = y.cs.length + 1 := by rw [h2]; rfl
                        rw [hxl] at l3
                        have hw1 : IntKind.i64.wrap ((y.cs.length : Int) + 1) = (y.cs.length : Int) + 1 := (by rw [IntKind.wrap_i64]; omega)
                        have hc0 : (0 : Int) < (y.cs.length : Int) + 1 := by omega
                        have h1 := Lib.hid h1; have h2 := Lib.hid h2
                        clear hel hwl hxl
                        go_wp2
                        go_meet
                        case rel => exact ⟨rfl, rfl⟩
                    case rest =>
                      obtain ⟨rfl, rfl⟩ := hcut
                      clear hwl l0 l1 r0 r1 l3 r3
                      go_wp2
                      go_loopg [23] y.cs.length (fun g vm wx => ∃ m : Nat, g + m = y.cs.length ∧ vm = .int .i64 (m : Nat) ∧ Below w8.heap.size w8 wx)
                      case atStart => exact ⟨0, by omega, rfl, Below.refl _ _⟩
                      case round =>
                        obtain ⟨m, hm, rfl, hbe⟩ := hrel
                        have hmn : m ≤ y.cs.length := by omega
                        have Hmm := Lib.hid hm
                        have hq0 := HP0.out.below hbe HP0.out.lt
                        have hq1 := HP1.out.below hbe HP1.out.lt
                        have l3 := hq0.cell 3
                        have r3 := hq1.cell 3
                        simp at l3 r3
                        have hj1 := H1.out.below hbe
                        have hj2 := H2.out.below hbe
                        have Hbe := Lib.hid hbe
                        clear hm hq0 hq1 hbe
                        by_cases hml : m < y.cs.length
                        · have hmi : (m : Int) < y.cs.length := by omega
                          obtain ⟨b2, o2, z, rfl, hb2, hz, c2z⟩ := hj2.at_ hml
                          obtain ⟨b1, o1, e1, hb1, hel1⟩ := hj1 (by rw [Hlens.out]; omega)
                          subst e1
                          have c1z := hel1 (m + fN) z (Hshift.out m z hz)
                          have hwm : IntKind.i64.wrap ((m : Int) + fN) = ((m + fN : Nat) : Int) := by rw [IntKind.wrap_i64]; omega
                          have hmx : ((m + fN : Nat) : Int) < x.cs.length := by rw [Hlens.out]; omega
                          clear hj1 hj2 hel1 hz
                          go_wp2
                          go_quiet (fail)
                          go_wp2
                          go_roundg (gk - 1)
                          case measure => have := Hmm.out; omega
                          case rel => exact ⟨m + 1, by have := Hmm.out; omega, by go_num, below_drewN Hbe.out _⟩
                        · have hmi : ¬ (m : Int) < y.cs.length := by omega
                          clear hj1 hj2
                          go_wp2
                          go_roundg (tk.qs.length - (k + 1))
                          case measure => have := Hk.out; omega
                          case rel => exact ⟨k + 1, by omega, by go_num, HM8.out.more Hbe.out⟩
                · obtain rfl : k = tk.qs.length := by omega
                  have hki : ¬ ((tk.qs.length : Nat) : Int) < tk.qs.length := by omega
                  have hf0 := hbk.frozen 0
                  have hf1 := hbk.frozen 1
                  have hf2 := hbk.frozen 2
                  have m1 := hbk.cell 1
                  have m2 := hbk.cell 2
                  have n1 := Hm.out.blk.cell 1
                  have n2 := Hm.out.blk.cell 2
                  simp at m1 m2 n1 n2
                  have hne : ¬ nb = w.heap.size := by have := Hm.out.nb_; omega
                  have hne2 : ¬ w.heap.size = nb := by have := Hm.out.nb_; omega
                  clear htu hbk
                  rcases Hres.out with ⟨e1, e2⟩ | ⟨e1, T', hT'⟩
                  · have hq1 : (id == a.id) = true := by simp [e1, HIdi.out]
                    have hq2 : (cost == f) = true := by simp [e2]
                    clear e1 e2
                    go_wp2
                    go_ret
                    exact ⟨by simp, Hm.out.box.below⟩
                  · have hq1 : (id == a.id) = false := by simp [← HIdi.out, e1]
                    have HT' := Lib.hid hT'
                    clear e1 hT'
                    go_wp2
                    have hbx := Hm.out.box.put Hm.out.new Hm.out.lo_
                    obtain ⟨ak', hak', hid', _⟩ := Hkeep.out.each i ak Hak.out
                    go_roundg (N.toNat - (n + 1))
                    case measure => have := Hn.out; omega
                    case rel => exact ⟨n + 1, t', ak', by have := Hn.out; omega, by go_num, hbx, Hkeep.out.valid, Hkeep.out.reach Hrk.out, hak', hid'.trans HIdi.out, T', by have := HT'.out; simpa using this⟩
  · have hck2 : (chk t != 0) = true := by simp [hck]
    go_enter Try.func8, Try.ntmps8
    go_upto_region 1 with fail
    have hx := Boxed.start w A t.qs.length c t.at_ t.fr
    generalize hW0 : World.alloc w _ = W0
    rw [hW0] at hx
    have hA0 : TuAt W0 W0.heap.size (.agg #[.slice A t.qs.length c, .int .i64 t.at_, .bool t.fr]) t := (Hv.out.below (hx.below.mono hB)).mono (by have := hx.below.size; omega)
    clear hW0
    obtain ⟨x0, x1, x2⟩ := hx.cells
    have HX := Lib.hid hx
    have HA0 := Lib.hid hA0
    clear hx hA0
    go_wp2_with (first
      | (go_at_call 20; refine Calls.mono (hbx _ HX.out.below) ?_; rintro e w1 ⟨rfl, hb1⟩; have Hb1 := Lib.hid hb1; have hx1 := HX.out.more hb1; obtain ⟨y0, y1, y2⟩ := hx1.cells; have HX1 := Lib.hid hx1; clear hb1 hx1 hbx)
      | (go_at_call 30; refine Calls.mono (hwt _ HX1.out.below) ?_; rintro e w2 ⟨rfl, hb2⟩; have hx2 := HX1.out.more hb2; have HX1 := Lib.hid hx2; clear hb2 hx2 hwt)
      | (go_at_call 13; refine Calls.mono (next_bad _) ?_; rintro e w3 ⟨⟨v', t', id, cost, rfl, hn⟩, hb3⟩; obtain ⟨A', c', rfl, hl1, hl2, hq'⟩ := hn; have hx3 := HX1.out.more hb3; have HX3 := Lib.hid hx3; clear hq' hl1 hl2 hb3 hx3)
      | (go_at_call 28; refine Calls.mono (works_any _) ?_; rintro e w4 ⟨rfl, hb4⟩))
    go_ret
    have h3 := HX3.out.below
    exact ⟨rfl, (h3.alloc h3.size _).trans (hb4.mono (h3.alloc h3.size _).size)⟩
end Go.Proofs.Ytgbjhkgbjnobcaa
