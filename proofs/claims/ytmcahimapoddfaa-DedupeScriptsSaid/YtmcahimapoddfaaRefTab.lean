/- The walks of the document's Refuse, Note, New, Clone, List. Conditions: the table's list is a right one. -/
import Derived.Test.YtmcahimapoddfaaRefJudge
import Derived.Test.YtmcahimapoddfaaFoldsMem
namespace Go.Proofs.Ytmcahimapoddfaa
open Go.RowKit Go.Maps

set_option maxRecDepth 100000 in
set_option maxHeartbeats 4000000 in
theorem refuseRef_any (c : Nat) (v : Value) (l : List Pr) (w : World) (hc : Blk w c 87 #[v]) (hv : PS w v l) (hl : NewOk l) (p s : Int) :
    Calls Try.prog 41 #[.pointer (some ⟨c, 0, none⟩), .int .i64 p, .int .i64 s] w fun e w' => e = .returned (.int .i64 (errOf (judge l p s).1)) ∧ Below w.heap.size w w' := by
  have cJ := judgeRef_any c v l w hc hv hl p s
  have hr := judge_range l p s
  clear hc hv hl
  generalize (judge l p s).2 = o at cJ
  generalize (judge l p s).1 = v at cJ hr ⊢
  rcases hr with rfl | rfl | rfl | rfl | rfl | rfl | rfl
  · go_enter Try.func41, Try.ntmps41
    go_wp2_with (go_at_call 40; refine cJ.mono ?_; rintro e w1 ⟨rfl, hb⟩)
    go_ret
    exact ⟨rfl, hb⟩
  · go_enter Try.func41, Try.ntmps41
    go_wp2_with (go_at_call 40; refine cJ.mono ?_; rintro e w1 ⟨rfl, hb⟩)
    go_ret
    exact ⟨rfl, hb⟩
  · go_enter Try.func41, Try.ntmps41
    go_wp2_with (go_at_call 40; refine cJ.mono ?_; rintro e w1 ⟨rfl, hb⟩)
    go_ret
    exact ⟨rfl, hb⟩
  · go_enter Try.func41, Try.ntmps41
    go_wp2_with (go_at_call 40; refine cJ.mono ?_; rintro e w1 ⟨rfl, hb⟩)
    go_ret
    exact ⟨rfl, hb⟩
  · go_enter Try.func41, Try.ntmps41
    go_wp2_with (go_at_call 40; refine cJ.mono ?_; rintro e w1 ⟨rfl, hb⟩)
    go_ret
    exact ⟨rfl, hb⟩
  · go_enter Try.func41, Try.ntmps41
    go_wp2_with (go_at_call 40; refine cJ.mono ?_; rintro e w1 ⟨rfl, hb⟩)
    go_ret
    exact ⟨rfl, hb⟩
  · go_enter Try.func41, Try.ntmps41
    go_wp2_with (go_at_call 40; refine cJ.mono ?_; rintro e w1 ⟨rfl, hb⟩)
    go_ret
    exact ⟨rfl, hb⟩

set_option maxRecDepth 100000 in
set_option maxHeartbeats 4000000 in
theorem noteRef_any (B c : Nat) (v : Value) (l : List Pr) (w : World) (hc : Blk w c 87 #[v]) (hv : OwnP w B v l) (hl : NewOk l) (hB : B ≤ w.heap.size) (p s o : Int) :
    Calls Try.prog 42 #[.pointer (some ⟨c, 0, none⟩), .int .i64 p, .int .i64 s, .int .i64 o] w fun e w' => e = .returned (.int .i64 (noteR l p s o).1) ∧ ∃ v', Blk w' c 87 #[v'] ∧ OwnP w' B v' (noteR l p s o).2 ∧ Kp (fun j => j = c) w w' := by
  have cR := refuseRef_any c v l w hc hv.toS hl p s
  have Hc := Lib.hid hc
  have Hv := Lib.hid hv
  have Hl := Lib.hid hl
  have hcl := hc.lt
  clear hc hv hl
  have same : ∀ w', Below w.heap.size w w' → ∃ v', Blk w' c 87 #[v'] ∧ OwnP w' B v' l ∧ Kp (fun j => j = c) w w' := fun w' hb => ⟨v, Hc.out.below hb hcl, Hv.out.below hb (Nat.le_refl _), Kp.of_below hb⟩
  have Same := Lib.hid same
  clear same
  by_cases he : errOf (judge l p s).1 = 0
  rotate_left
  · have hn := note_not (o := o) he
    have he' : (errOf (judge l p s).1 != 0) = true := by simpa using he
    rw [hn]
    clear hn he
    generalize errOf (judge l p s).1 = er at *
    go_enter Try.func42, Try.ntmps42
    go_wp2_with (go_at_call 41; refine cR.mono ?_; rintro e w1 ⟨rfl, hb⟩)
    go_ret
    exact ⟨rfl, Same.out _ hb⟩
  · rw [he] at cR
    by_cases ho1 : o < 0
    · have hg : goodO o = false := by unfold goodO; rw [decide_eq_false_iff_not]; omega
      have hn : noteR l p s o = (3, l) := by unfold noteR; rw [if_neg (not_not_intro he), if_pos hg]
      rw [hn]
      clear hn hg he
      go_enter Try.func42, Try.ntmps42
      go_wp2_with (go_at_call 41; refine cR.mono ?_; rintro e w1 ⟨rfl, hb⟩)
      go_ret
      exact ⟨rfl, Same.out _ hb⟩
    · by_cases ho2 : o ≥ 1099511627776
      · have hg : goodO o = false := by unfold goodO; rw [decide_eq_false_iff_not]; omega
        have hn : noteR l p s o = (3, l) := by unfold noteR; rw [if_neg (not_not_intro he), if_pos hg]
        rw [hn]
        clear hn hg he
        go_enter Try.func42, Try.ntmps42
        go_wp2_with (go_at_call 41; refine cR.mono ?_; rintro e w1 ⟨rfl, hb⟩)
        go_ret
        exact ⟨rfl, Same.out _ hb⟩
      · have hg : goodO o = true := by unfold goodO; rw [decide_eq_true_iff]; omega
        by_cases hj : (judge l p s).1 = 1
        · have hn := note_put (o := o) hj hg
          have Hj := Lib.hid hj
          rw [hn]
          clear hn hg he hj
          go_enter Try.func42, Try.ntmps42
          go_upto_region 6 with (go_at_call 41; refine cR.mono ?_; rintro e w1 ⟨rfl, hb⟩)
          have cJ := judgeRef_any c v l w1 (Hc.out.below hb hcl) (Hv.out.below hb (Nat.le_refl _)).toS Hl.out p s
          rw [Hj.out] at cJ
          generalize (judge l p s).2 = jo at cJ
          have Hb := Lib.hid hb
          clear hb cR
          go_upto_region 7 with (go_at_call 40; refine cJ.mono ?_; rintro e w2 ⟨rfl, hb2⟩)
          have hb12 := Hb.out.trans (hb2.mono Hb.out.size)
          have hc2 := Hc.out.below hb12 hcl
          have tc := hc2.cell 0
          simp only [List.getElem?_toArray, List.getElem?_cons_zero] at tc
          have Hv2 := Lib.hid (Hv.out.below hb12 (Nat.le_refl _))
          have cL := laid_any v l ⟨p, s, o⟩ w2 Hv2.out.toS (newOk_iff.1 Hl.out).2.1 Hl.out.1
          dsimp only at cL
          have Hc2 := Lib.hid hc2
          have Hb12 := Lib.hid hb12
          clear cJ hb2 hb12 hc2
          go_wp2_with (go_at_call 34; refine cL.mono ?_; rintro e w3 ⟨v3, rfl, ho3, hb3⟩; obtain ⟨Av, cv, hvs, _, _⟩ := row_shape ho3; subst hvs; have hc3 := Hc2.out.below hb3 Hc2.out.lt; have tc3 := hc3.cell 0; have fc3 := hc3.frozen 0; simp only [List.getElem?_toArray, List.getElem?_cons_zero] at tc3; have Hc3 := Lib.hid hc3; have Ho3 := Lib.hid ho3; have Hb3 := Lib.hid hb3; clear hc3 ho3 hb3)
          go_ret
          refine ⟨rfl, _, by simpa using Hc3.out.set_ 0 (.slice Av _ cv), ?_, ?_⟩
          · refine (Ho3.out.mono (by have := Hb12.out.size; omega)).keep fun b hb => Below.heap_setCell _ _ _ b (by show b ≠ c; have := (Ho3.out.lt hb).1; have := Hb12.out.size; omega)
          · refine (Kp.of_below (Hb12.out.trans (Hb3.out.mono Hb12.out.size))).trans (S' := fun j => j = c) ⟨rfl, rfl, rfl, by simp, fun j _ hn => Below.heap_setCell _ _ _ j hn⟩ (fun j e => .inl e)
        · have hn := note_again (o := o) he hj hg
          have hj' : ((judge l p s).1 == 1) = false := by simpa using hj
          have hj2 : ¬ (judge l p s).1 = 1 := hj
          rw [hn]
          clear hn hg he hj
          go_enter Try.func42, Try.ntmps42
          go_upto_region 6 with (go_at_call 41; refine cR.mono ?_; rintro e w1 ⟨rfl, hb⟩)
          have cJ := judgeRef_any c v l w1 (Hc.out.below hb hcl) (Hv.out.below hb (Nat.le_refl _)).toS Hl.out p s
          have Hb := Lib.hid hb
          clear hb cR
          generalize (judge l p s).2 = jo at *
          generalize (judge l p s).1 = jv at *
          go_wp2_with (go_at_call 40; refine cJ.mono ?_; rintro e w2 ⟨rfl, hb2⟩; have Hb2 := Lib.hid hb2; clear hb2)
          go_ret
          exact ⟨rfl, Same.out _ (Hb.out.trans (Hb2.out.mono Hb.out.size))⟩

set_option maxRecDepth 100000 in
set_option maxHeartbeats 4000000 in
theorem listRef_any (c : Nat) (v : Value) (l : List Pr) (w : World) (hc : Blk w c 87 #[v]) (hv : PS w v l) (h64 : l.length ≤ 64) :
    Calls Try.prog 27 #[.pointer (some ⟨c, 0, none⟩)] w fun e w' => ∃ v', e = .returned v' ∧ OwnP w' w.heap.size v' l ∧ Below w.heap.size w w' := by
  obtain ⟨A, cl, rfl, hlc, hcm, hnil, hp⟩ := hv
  obtain ⟨i0, hi, hz0, hz1, hz2⟩ := info_parts info67
  have hcm' := hcm
  unfold maxLen at hcm'
  have grow : ∀ wc vc, wc.ownsRow w.heap.size 67 3 vc l.length ([] ++ l.flatMap prCells) → (w.alloc (.cells #[] 67)).grownBy wc (some w.heap.size) → OwnP wc w.heap.size vc l ∧ Below w.heap.size w wc := fun wc vc h hg => by
    rw [List.nil_append] at h
    exact ⟨h, ((Below.refl w.heap.size w).alloc (Nat.le_refl _) (.cells #[] 67)).grown hg (by simp) (fun j hj => by injection hj with hj; omega)⟩
  have Grow := Lib.hid grow
  clear grow
  have hp' : ProdsAt (w.alloc (.cells #[] 67)) w.heap.size A l := hp.below ((Below.refl w.heap.size w).alloc (Nat.le_refl _) (.cells #[] 67))
  have hem : (w.alloc (.cells #[] 67)).ownsRow w.heap.size 67 3 (.slice (some ⟨w.heap.size, 0, none⟩) 0 0) 0 [] := World.ownsRow_lit w #[] 0 (Nat.le_refl _) (by unfold maxLen; omega) (by simp)
  have hsz : w.heap.size ≤ (w.alloc (.cells #[] 67)).heap.size := by simp
  have tc := (hc.alloc (.cells #[] 67)).cell 0
  simp only [List.getElem?_toArray, List.getElem?_cons_zero] at tc
  have hcl := hc.lt
  clear hc hp
  go_enter Try.func27, Try.ntmps27
  go_wp2_with (first
    | (at_builtin; refine wpList_append_any _ rfl _ _ 22 rfl w.heap.size 67 i0 _ 3 24 Try.underlying22 hi hz0 hz1 hz2 rfl (by decide) _ 0 [] rfl hem A l.length cl rfl hnil (l.flatMap prCells) (flat_len l) (prods_news hp') prods_one (by unfold maxLen; omega) (by omega) hsz ?_; intro vc wc hown1 hgr1 hat1; rw [Nat.zero_add] at hown1; obtain ⟨Av, cv, hvs, _, _⟩ := row_shape hown1; subst hvs))
  go_ret
  obtain ⟨h1, h2⟩ := Grow.out wc _ hown1 hgr1
  exact ⟨_, rfl, h1, h2⟩

set_option maxRecDepth 100000 in
set_option maxHeartbeats 4000000 in
theorem cloneRef_any (c : Nat) (v : Value) (l : List Pr) (w : World) (hc : Blk w c 87 #[v]) (hv : PS w v l) (h64 : l.length ≤ 64) :
    Calls Try.prog 25 #[.pointer (some ⟨c, 0, none⟩)] w fun e w' => ∃ c' v', e = .returned (.pointer (some ⟨c', 0, none⟩)) ∧ w.heap.size ≤ c' ∧ Blk w' c' 87 #[v'] ∧ OwnP w' w.heap.size v' l ∧ Below w.heap.size w w' := by
  obtain ⟨A, cl, rfl, hlc, hcm, hnil, hp⟩ := hv
  obtain ⟨i0, hi, hz0, hz1, hz2⟩ := info_parts info67
  have hcm' := hcm
  unfold maxLen at hcm'
  have grow : ∀ wc vc, wc.ownsRow w.heap.size 67 3 vc l.length ([] ++ l.flatMap prCells) → (w.alloc (.cells #[] 67)).grownBy wc (some w.heap.size) → OwnP wc w.heap.size vc l ∧ Below w.heap.size w wc := fun wc vc h hg => by
    rw [List.nil_append] at h
    exact ⟨h, ((Below.refl w.heap.size w).alloc (Nat.le_refl _) (.cells #[] 67)).grown hg (by simp) (fun j hj => by injection hj with hj; omega)⟩
  have Grow := Lib.hid grow
  clear grow
  have hp' : ProdsAt (w.alloc (.cells #[] 67)) w.heap.size A l := hp.below ((Below.refl w.heap.size w).alloc (Nat.le_refl _) (.cells #[] 67))
  have hem : (w.alloc (.cells #[] 67)).ownsRow w.heap.size 67 3 (.slice (some ⟨w.heap.size, 0, none⟩) 0 0) 0 [] := World.ownsRow_lit w #[] 0 (Nat.le_refl _) (by unfold maxLen; omega) (by simp)
  have hsz : w.heap.size ≤ (w.alloc (.cells #[] 67)).heap.size := by simp
  have tc := (hc.alloc (.cells #[] 67)).cell 0
  simp only [List.getElem?_toArray, List.getElem?_cons_zero] at tc
  have hcl := hc.lt
  clear hc hp
  go_enter Try.func25, Try.ntmps25
  go_wp2_with (first
    | (at_builtin; refine wpList_append_any _ rfl _ _ 22 rfl w.heap.size 67 i0 _ 3 24 Try.underlying22 hi hz0 hz1 hz2 rfl (by decide) _ 0 [] rfl hem A l.length cl rfl hnil (l.flatMap prCells) (flat_len l) (prods_news hp') prods_one (by unfold maxLen; omega) (by omega) hsz ?_; intro vc wc hown1 hgr1 hat1; rw [Nat.zero_add] at hown1; obtain ⟨Av, cv, hvs, _, _⟩ := row_shape hown1; subst hvs))
  go_ret
  obtain ⟨h1, h2⟩ := Grow.out wc _ hown1 hgr1
  exact ⟨_, _, rfl, h2.size, Blk.new _ _ _, h1.keep fun b hb => Below.heap_alloc _ _ b (h1.lt hb).2, h2.alloc h2.size _⟩

set_option maxRecDepth 100000 in
set_option maxHeartbeats 4000000 in
theorem newRef_no (v : Value) (ps : List Pr) (w : World) (hv : PS w v ps) (hN : ¬ NewOk ps) :
    Calls Try.prog 24 #[v] w fun e w' => e = .returned (.tuple #[.pointer none, .int .i64 92]) ∧ Below w.heap.size w w' := by
  have cR := right_any v ps w hv false ⟨(by intro h; cases h), fun h => absurd h hN⟩
  clear hv hN
  go_enter Try.func24, Try.ntmps24
  go_wp2_with (go_at_call 31; refine cR.mono ?_; rintro e w1 ⟨rfl, hb1⟩)
  go_ret2
  exact ⟨rfl, hb1⟩
set_option maxRecDepth 100000 in
set_option maxHeartbeats 4000000 in
theorem newRef_ok (v0 : Value) (l : List Pr) (w0 : World) (hv : PS w0 v0 l) (hN : NewOk l) :
    Calls Try.prog 24 #[v0] w0 fun e w' => ∃ c' v', e = .returned (.tuple #[.pointer (some ⟨c', 0, none⟩), .int .i64 0]) ∧ w0.heap.size ≤ c' ∧ Blk w' c' 87 #[v'] ∧ OwnP w' w0.heap.size v' l ∧ Below w0.heap.size w0 w' := by
  have cR := right_any v0 l w0 hv true ⟨fun _ => hN, fun _ => rfl⟩
  have h64 := hN.1
  have HV := Lib.hid hv
  obtain ⟨A, cl, rfl, _, _, _, _⟩ := hv
  rename_i a1 a2 a3 a4
  clear a1 a2 a3 a4 hN
  go_enter Try.func24, Try.ntmps24
  go_upto_region 4 with (go_at_call 31; refine cR.mono ?_; rintro e w ⟨rfl, hb1⟩)
  obtain ⟨A', cl', e, hlc, hcm, hnil, hp⟩ := HV.out.below hb1
  injection e with e0 e1 e2
  subst e0 e2
  clear e1
  obtain ⟨i0, hi, hz0, hz1, hz2⟩ := info_parts info67
  have hcm' := hcm
  unfold maxLen at hcm'
  have grow : ∀ wc vc, wc.ownsRow w.heap.size 67 3 vc l.length ([] ++ l.flatMap prCells) → (w.alloc (.cells #[] 67)).grownBy wc (some w.heap.size) → OwnP wc w.heap.size vc l ∧ Below w.heap.size w wc := fun wc vc h hg => by
    rw [List.nil_append] at h
    exact ⟨h, ((Below.refl w.heap.size w).alloc (Nat.le_refl _) (.cells #[] 67)).grown hg (by simp) (fun j hj => by injection hj with hj; omega)⟩
  have Grow := Lib.hid grow
  clear grow
  have hp' : ProdsAt (w.alloc (.cells #[] 67)) w.heap.size A l := hp.below ((Below.refl w.heap.size w).alloc (Nat.le_refl _) (.cells #[] 67))
  have hem : (w.alloc (.cells #[] 67)).ownsRow w.heap.size 67 3 (.slice (some ⟨w.heap.size, 0, none⟩) 0 0) 0 [] := World.ownsRow_lit w #[] 0 (Nat.le_refl _) (by unfold maxLen; omega) (by simp)
  have hsz : w.heap.size ≤ (w.alloc (.cells #[] 67)).heap.size := by simp
  have Hb1 := Lib.hid hb1
  clear cR hp hb1
  go_wp2_with (first
    | (at_builtin; refine wpList_append_any _ rfl _ _ 22 rfl w.heap.size 67 i0 _ 3 24 Try.underlying22 hi hz0 hz1 hz2 rfl (by decide) _ 0 [] rfl hem A l.length cl rfl hnil (l.flatMap prCells) (flat_len l) (prods_news hp') prods_one (by unfold maxLen; omega) (by omega) hsz ?_; intro vc wc hown1 hgr1 hat1; rw [Nat.zero_add] at hown1; obtain ⟨Av, cv, hvs, _, _⟩ := row_shape hown1; subst hvs))
  go_ret2
  obtain ⟨h1, h2⟩ := Grow.out wc _ hown1 hgr1
  exact ⟨_, _, rfl, Nat.le_trans Hb1.out.size h2.size, Blk.new _ _ _, (h1.mono Hb1.out.size).keep fun b hb => Below.heap_alloc _ _ b (h1.lt hb).2, (Hb1.out.trans (h2.mono Hb1.out.size)).alloc (Nat.le_trans Hb1.out.size h2.size) _⟩
end Go.Proofs.Ytmcahimapoddfaa
