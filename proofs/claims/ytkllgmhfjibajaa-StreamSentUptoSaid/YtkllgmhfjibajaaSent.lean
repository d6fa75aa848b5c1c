/- The walk of the law's sent. Conditions: all fits. -/
import Derived.Test.YtkllgmhfjibajaaSentMem
namespace Go.Proofs.Ytkllgmhfjibajaa
open Go.RowKit St
theorem results_four {fn : Func} {t u v x : Tmp} (h : fn.results = #[.tmp t, .tmp u, .tmp v, .tmp x]) (tmps : Array Value) (P : Program) (w : World) :
    (results fn tmps).run P w = .ok (.tuple #[tmps.getD t undef, tmps.getD u undef, tmps.getD v undef, tmps.getD x undef]) w := by
  simp [results, h]
theorem selB_next {lim : Int} {l : List BV} {q : Nat} {p : BV} (h : l[q]? = some p) : selB lim (l.take (q + 1)) = selB lim (l.take q) ++ (if Fit lim p.1 then [p] else []) := by
  unfold selB
  rw [List.take_add_one, h, List.filter_append]
  congr 1
  by_cases hf : Fit lim p.1
  · simp [hf]
  · simp [hf]
theorem selB_tot (lim : Int) : ∀ l : List BV, tot ((selB lim l).map (·.1)) ≤ tot (l.map (·.1))
  | [] => Nat.le_refl _
  | p :: l => by
    have := selB_tot lim l
    unfold selB at this ⊢
    rw [List.filter_cons]
    split
    · simp only [List.map_cons, tot]; omega
    · simp only [List.map_cons, tot]; omega
theorem tot_take : ∀ (l : List BV) (q : Nat), tot ((l.take q).map (·.1)) ≤ tot (l.map (·.1))
  | [], q => by simp
  | p :: l, 0 => by simp [tot]
  | p :: l, q + 1 => by
    have := tot_take l q
    simp only [List.take_succ_cons, List.map_cons, tot]
    omega
theorem tot_len : ∀ l : List (List Int), l.length * 9 ≤ tot l
  | [] => by simp [tot]
  | c :: l => by have := tot_len l; simp only [List.length_cons, tot]; omega
theorem tot_mem : ∀ {l : List (List Int)} {c : List Int}, c ∈ l → c.length + 9 ≤ tot l
  | d :: l, c, h => by
    simp only [tot]
    rcases List.mem_cons.1 h with rfl | h
    · omega
    · have := tot_mem h
      omega
set_option maxRecDepth 100000 in
set_option maxHeartbeats 4000000 in
theorem sent_any (lim : Int) (A : Option Addr) (l : List BV) (c : Nat) (w : World) (hlim : 64 ≤ lim ∧ lim ≤ 4096) (hc : l.length ≤ c ∧ c ≤ maxLen) (hx : Rows2 w A l) (hbig : tot (l.map (·.1)) ≤ 2147483648) :
    Calls Try.prog 38 #[.slice A l.length c, .int .i64 lim] w fun e w' => ∃ bv av tv, e = .returned (.tuple #[bv, av, tv, .bool true]) ∧ SN w w' bv av tv (selB lim l) := by
  have hcm := hc.2
  unfold maxLen at hcm
  have hll : l.length ≤ 2147483648 := by have := tot_len (l.map (·.1)); rw [List.length_map] at this; omega
  have Hx := Lib.hid hx
  clear hx
  go_enter Try.func38, Try.ntmps38
  go_wp2
  go_loopg [8, 9, 10, 11] l.length (fun gg bv av tv iv wx => ∃ q, gg + q = l.length ∧ iv = .int .i64 ((q : Nat) : Int) ∧ SN w wx bv av tv (selB lim (l.take q)))
  case atStart => exact ⟨0, by omega, rfl, OwnB.nil _ _, OwnInts.nil _ _, World.ownsRow_nil _ _ 22 1, Below.refl _ _⟩
  case round =>
    obtain ⟨q, hq, rfl, hS⟩ := hrel
    have Hq := Lib.hid hq
    by_cases hlt : q < l.length
    · have hqi : (q : Int) < l.length := by omega
      have hqn : ¬ (q : Int) < 0 := by omega
      obtain ⟨b, o, p, Ai, ci, rfl, hbl, hpq, q0, ep, hc1, hc2, hxi, hyi⟩ := (Hx.out.below hS.be).get hlt
      have hbw : b < w.heap.size := by
        obtain ⟨b', o', eA, h, _⟩ := Hx.out.at_ (by omega)
        have := congrArg Addr.block (Option.some.inj eA)
        simp only at this
        omega
      have hnx := selB_next (lim := lim) hpq
      have htt : tot ((selB lim (l.take q)).map (·.1)) + (p.1.length + 9) ≤ 2147483648 ∨ ¬ Fit lim p.1 := by
        by_cases hf : Fit lim p.1
        · left
          have h1 := selB_tot lim (l.take (q + 1))
          have h2 := tot_take l (q + 1)
          rw [hnx, if_pos hf, List.map_append, tot_app] at h1
          simp only [List.map_cons, List.map_nil, tot] at h1
          omega
        · exact .inr hf
      have hxl : p.1.length ≤ 2147483648 := by have := tot_mem (List.mem_map_of_mem (f := (·.1)) (List.mem_of_getElem? hpq)); omega
      have HS := Lib.hid hS
      have Hnx := Lib.hid hnx
      have Hxi := Lib.hid hxi
      have Hep := Lib.hid ep
      have Hyi := Lib.hid hyi
      obtain ⟨xs, pv⟩ := p
      simp only at q0 hc1 htt hxl
      clear hq hS hnx hpq hxi ep hyi
      have hc3 := hc2
      unfold maxLen at hc3
      generalize hss : selB lim (l.take q) = ss at *
      have Hss := Lib.hid hss
      clear hss
      by_cases hf : Fit lim xs
      · have hf1 := hf.1
        have hf2 := hf.2
        have ht := htt.resolve_right (fun h => h hf)
        have hnx2 : selB lim (l.take (q + 1)) = ss ++ [(xs, pv)] := by
          have := Hnx.out
          simp only at this
          rwa [if_pos hf] at this
        have Hnx2 := Lib.hid hnx2
        have hne : ((xs.length : Int) == 0) = false := by simp only [beq_eq_false_iff_ne, ne_eq]; omega
        have hgt : ¬ ((xs.length : Int) + 9 > lim) := by omega
        clear hnx2 Hnx htt hf
        have hfr := frame_any Ai xs ci wr ⟨hc1, hc2⟩ Hxi.out Hyi.out hf1 (by omega)
        have htl := tot_len (ss.map (·.1))
        rw [List.length_map] at htl
        go_upto_region 11 with (go_at_call 35; refine hfr.mono ?_; clear hfr; rintro e w1 ⟨hb1, fv, rfl, hof⟩; obtain ⟨Af, cf, ev, k1, k2, kx, kA⟩ := hof.read; rw [frameOf_len] at ev k1; subst ev; have hS1 := HS.out.below hb1; have q1 := (hb1.cell (p := ⟨b, o + q, none⟩) hbl).trans q0; obtain ⟨fb, fo, rfl, _, _⟩ := kx (by rw [frameOf_len]; omega); have Hkx := Lib.hid kx; have hfw := (hof.lt (kA _ rfl)).1; clear kx kA hof)
        have hbl1 := Nat.lt_of_lt_of_le hbl hb1.size
        obtain ⟨Ab, cb, rfl, hb2, hb3⟩ := own_shape hS1.b
        have hfl := frames_len (ss.map (·.1))
        have Hfl := Lib.hid hfl
        have hla := ats_len (ss.map (·.1)) 0
        rw [List.length_map] at hla
        have Hla := Lib.hid hla
        rw [hfl]
        have hb4 := (Below.refl w1.heap.size w1).alloc (Nat.le_refl _) (.cells #[.int .i64 (tot (ss.map (·.1)) : Nat)] 3)
        have hS2 := hS1.below hb4
        have q2 := (hb4.cell (p := ⟨b, o + q, none⟩) hbl1).trans q1
        have hkx2 := Hkx.out.below hb4
        have hbl2 := Nat.lt_of_lt_of_le hbl1 hb4.size
        have hfb2 := Nat.lt_of_lt_of_le (show fb < w1.heap.size from by assumption) hb4.size
        have HS2 := Lib.hid hS2
        have Hkx2 := Lib.hid hkx2
        have hc4 : (w1.alloc (.cells #[.int .i64 (tot (ss.map (·.1)) : Nat)] 3)).cell? ⟨w1.heap.size, 0, none⟩ = some (.int .i64 (tot (ss.map (·.1)) : Nat)) := by
          simp
        have Hc4 := Lib.hid hc4
        clear hfl hla hS1 hS2 hkx2 Hkx hc4
        go_upto_region 12 with (at_builtin; refine wpList_appI rfl (.tmp 57) (.tmp 60) rfl (v := u9) (xs := ats 0 (ss.map (·.1))) (by simp [Act.eval]) HS2.out.a w1.heap.size (tot (ss.map (·.1)) : Nat) 1 (by simp [Act.eval]) Hc4.out (by rw [Hla.out]; omega) (Nat.le_trans HS2.out.be.size (Nat.le_refl _)) ?_; rintro g5 cap5 w5 hown5 hgr5 hat5 hlt5)
        have hf5 : fb < w5.heap.size := Nat.lt_of_lt_of_le hfb2 hgr5.size
        have hkx5 := Hkx2.out.kp (Kp.of_grown hgr5) (fun a e h => by injection e with e; subst e; have := (HS.out.a.lt h).2; simp only at this; omega)
        have hq5 := (hgr5.cell_far ⟨b, o + q, none⟩ hbl2 (fun e => by have := (HS2.out.a.lt e.symm).1; simp only at this; omega)).trans q2
        have hb5 := own_grown HS2.out.b hgr5 (fun b hb => own_apart HS2.out.b HS2.out.a (by decide) hb)
        have ht5 := own_grown HS2.out.t hgr5 (fun b hb => own_apart HS2.out.t HS2.out.a (by decide) hb)
        have hbe5 : Below w.heap.size w w5 := HS2.out.be.grown hgr5 HS2.out.be.size (fun j hj => (HS2.out.a.lt hj).1)
        have hs25 := hgr5.size
        have Hb5 := Lib.hid hb5
        have Ht5 := Lib.hid ht5
        have Hbe5 := Lib.hid hbe5
        have Hkx5 := Lib.hid hkx5
        have Hown5 := Lib.hid hown5
        have Hq5 := Lib.hid hq5
        clear hb5 ht5 hbe5 hkx5 hown5 hgr5 hat5 HS2 Hkx2 Hc4 q2 q1 q0 hb4 hq5
        go_upto_region 13 with (at_builtin; refine wpList_app5 rfl (.tmp 62) (.tmp 63) rfl (v := .slice Ab (tot (ss.map (·.1))) cb) (xs := frames (ss.map (·.1))) (by simp [Act.eval]) (by rw [← Hfl.out]; exact Hb5.out) ⟨fb, fo, none⟩ (xs.length + 9) cf (frameOf xs) (by simp [Act.eval]) (by rw [frameOf_len]) Hkx5.out (by omega) (by rw [Hfl.out]; omega) Hbe5.out.size ?_; rintro g6 cap6 w6 hown6 hgr6 hat6 hlt6)
        have hob : (Value.slice Ab (tot (ss.map (·.1))) cb).ownBlock = (Value.slice Ab (frames (ss.map (·.1))).length cb).ownBlock := by cases Ab <;> rfl
        rw [hob] at hgr6
        have hq6 := (hgr6.cell_far ⟨b, o + q, none⟩ (Nat.lt_of_lt_of_le hbl2 hs25) (fun e => by have := (Hb5.out.lt b e.symm).1; omega)).trans Hq5.out
        have ha6 := own_grown Hown5.out hgr6 (fun b hb => own_apart Hown5.out Hb5.out (by decide) hb)
        have ht6 := own_grown Ht5.out hgr6 (fun b hb => own_apart Ht5.out Hb5.out (by decide) hb)
        have hbe6 : Below w.heap.size w w6 := Hbe5.out.grown hgr6 Hbe5.out.size (fun j hj => (Hb5.out.lt j hj).1)
        have hs56 := hgr6.size
        have hbl6 : b < w6.heap.size := Nat.lt_of_lt_of_le (Nat.lt_of_lt_of_le hbl2 hs25) hs56
        have hb7 := (Below.refl w6.heap.size w6).alloc (Nat.le_refl _) (.cells #[.slice Ai xs.length ci] 22)
        have hbb7 := own_below hown6 hb7
        have ha7 := own_below ha6 hb7
        have ht7 : OwnS (w6.alloc (.cells #[.slice Ai xs.length ci] 22)) w.heap.size u10 (ss.map (·.2)) := own_below ht6 hb7
        have hbe7 := hbe6.trans (hb7.mono hbe6.size)
        have hc7 : (w6.alloc (.cells #[.slice Ai xs.length ci] 22)).cell? ⟨w6.heap.size, 0, none⟩ = some (.slice Ai xs.length ci) := by simp
        have Hbb7 := Lib.hid hbb7
        have Ha7 := Lib.hid ha7
        have Ht7 := Lib.hid ht7
        have Hbe7 := Lib.hid hbe7
        have Hc7 := Lib.hid hc7
        clear hob ha6 ht6 hbe6 hb7 hbb7 ha7 ht7 hbe7 hc7 hown6 hgr6 hat6 Hb5 Ht5 Hbe5 Hkx5 Hown5 Hq5
        go_upto_region 6 with (at_builtin; refine wpList_appS rfl (.tmp 65) (.tmp 70) rfl (v := u10) (xs := ss.map (·.2)) (by simp [Act.eval]) Ht7.out w6.heap.size Ai xs.length ci 1 (by simp [Act.eval]) Hc7.out (by rw [List.length_map]; omega) Hbe7.out.size ?_; rintro g8 cap8 w8 hown8 hgr8 hat8 hlt8)
        have hb8 := own_grown Hbb7.out hgr8 (fun b hb => own_apart Hbb7.out Ht7.out (by decide) hb)
        have ha8 := own_grown Ha7.out hgr8 (fun b hb => own_apart Ha7.out Ht7.out (by decide) hb)
        have hbe8 : Below w.heap.size w w8 := Hbe7.out.grown hgr8 Hbe7.out.size (fun j hj => (Ht7.out.lt j hj).1)
        have hS8 : SN w w8 (.slice (some ⟨g6, 0, none⟩) ((frames (ss.map (·.1))).length + (xs.length + 9)) cap6) (.slice (some ⟨g5, 0, none⟩) ((ats 0 (ss.map (·.1))).length + 1) cap5) (.slice (some ⟨g8, 0, none⟩) ((ss.map (·.2)).length + 1) cap8) (selB lim (l.take (q + 1))) := by
          rw [Hnx2.out]
          refine ⟨?_, ?_, ?_, hbe8⟩
          · have e : frames ((ss ++ [(xs, pv)]).map (·.1)) = frames (ss.map (·.1)) ++ frameOf xs := by
              unfold frames
              rw [List.map_append, List.flatMap_append]
              simp
            rw [e]
            exact hb8
          · have e : ats 0 ((ss ++ [(xs, pv)]).map (·.1)) = ats 0 (ss.map (·.1)) ++ [((tot (ss.map (·.1)) : Nat) : Int)] := by
              rw [List.map_append, ats_app, Int.zero_add]
              rfl
            rw [e]
            exact ha8
          · have e : (ss ++ [(xs, pv)]).map (·.2) = ss.map (·.2) ++ [.slice Ai xs.length ci] := by
              rw [List.map_append, ← Hep.out]
              rfl
            rw [e]
            exact hown8
        have HS8 := Lib.hid hS8
        clear hb8 ha8 hbe8 hS8 hown8 hgr8 hat8 Hbb7 Ha7 Ht7 Hbe7 Hc7
        go_wp2
        go_roundg (gk - 1)
        case measure => have := Hq.out; omega
        case rel => exact ⟨q + 1, by have := Hq.out; omega, by go_num, by have := HS8.out; rw [List.length_map] at this; exact this⟩
      · have hnx2 : selB lim (l.take (q + 1)) = ss := by
          have := Hnx.out
          simp only at this
          rw [if_neg hf, List.append_nil] at this
          exact this
        have Hnx2 := Lib.hid hnx2
        clear hnx2 Hnx htt
        by_cases h0 : xs.length = 0
        · have hne : ((xs.length : Int) == 0) = true := by simp only [beq_iff_eq]; omega
          rw [h0] at q0
          clear hf hne
          go_wp2
          go_roundg (gk - 1)
          case measure => have := Hq.out; omega
          case rel => exact ⟨q + 1, by have := Hq.out; omega, by go_num, by rw [Hnx2.out]; exact HS.out⟩
        · have hne : ((xs.length : Int) == 0) = false := by simp only [beq_eq_false_iff_ne, ne_eq]; omega
          have hgt : (xs.length : Int) + 9 > lim := by
            have : ¬ ((xs.length + 9 : Nat) : Int) ≤ lim := fun h => hf ⟨by omega, h⟩
            omega
          clear hf
          go_wp2
          go_roundg (gk - 1)
          case measure => have := Hq.out; omega
          case rel => exact ⟨q + 1, by have := Hq.out; omega, by go_num, by rw [Hnx2.out]; exact HS.out⟩
    · have hqi : ¬ (q : Int) < l.length := by omega
      obtain rfl : q = l.length := by omega
      rw [List.take_length] at hS
      have HS := Lib.hid hS
      clear hS hq
      go_wp2
      try simp only [Exit.inBlock, Exit.then]
      refine bodyPost_ret (results_four rfl _ _ _) rfl ?_
      exact ⟨_, _, _, rfl, HS.out⟩
end Go.Proofs.Ytkllgmhfjibajaa
