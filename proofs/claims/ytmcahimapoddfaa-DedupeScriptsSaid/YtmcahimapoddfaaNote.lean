/- The walks of Refuse and Note. Conditions: the table is a right one. -/
import Derived.Test.YtmcahimapoddfaaJudge
namespace Go.Proofs.Ytmcahimapoddfaa
open Go.RowKit Go.Maps

theorem map_nil (m : Nat) (w : World) : (binOp .eql 73 (.map (some m)) (.map none)).run Try.prog w = .ok (.bool false) w := by kernel_rfl
def errOf (v : Int) : Int := if v = -1 then 93 else if v = 3 then 91 else if v = 4 then 90 else if v = 5 then 92 else 0
/-- A number noted: the error, the table. -/
def noteR (l : List Pr) (p s o : Int) : Int × List Pr :=
  if errOf (judge l p s).1 ≠ 0 then (errOf (judge l p s).1, l)
  else if goodO o = false then (3, l)
  else if (judge l p s).1 = 1 then (0, put l ⟨p, s, o⟩)
  else (0, l)
theorem judge_range (l : List Pr) (p s : Int) : (judge l p s).1 = -1 ∨ (judge l p s).1 = 0 ∨ (judge l p s).1 = 1 ∨ (judge l p s).1 = 2 ∨ (judge l p s).1 = 3 ∨ (judge l p s).1 = 4 ∨ (judge l p s).1 = 5 := by
  unfold judge
  split
  · simp
  · split
    · simp
    · split
      · split
        · simp
        · split
          · simp
          · split <;> simp
      · split
        · simp
        · split <;> simp
/-- Fresh: the producer and its number are right; there is room. -/
theorem judge_fresh {l : List Pr} {p s : Int} (h : (judge l p s).1 = 1) : goodB p s = true ∧ (look l p = none → l.length < 64) ∧ s = ((look l p).getD zPr).seq + 1 := by
  unfold judge at h
  split at h
  · exact absurd h (by decide)
  · split at h
    · exact absurd h (by decide)
    · rename_i hg
      have hg' : goodB p s = true := by simpa using hg
      refine ⟨hg', ?_⟩
      split at h
      · rename_i q hq
        rw [hq]
        refine ⟨(by intro e; cases e), ?_⟩
        split at h
        · exact absurd h (by show ¬ (2 : Int) = 1; decide)
        · split at h
          · exact absurd h (by decide)
          · split at h
            · exact absurd h (by decide)
            · rename_i h3; exact Decidable.not_not.1 h3
      · rename_i hq
        rw [hq]
        split at h
        · exact absurd h (by decide)
        · rename_i h1
          split at h
          · exact absurd h (by decide)
          · rename_i h2; exact ⟨fun _ => by omega, by have := Decidable.not_not.1 h1; simp only [Option.getD, zPr]; omega⟩

set_option maxRecDepth 100000 in
set_option maxHeartbeats 4000000 in
theorem refuse_any (B b m : Nat) (l : List Pr) (w : World) (ht : TabAt w B b m l) (hl : NewOk l) (p s : Int) :
    Calls Try.prog 19 #[.pointer (some ⟨b, 0, none⟩), .int .i64 p, .int .i64 s] w fun e w' => e = .returned (.int .i64 (errOf (judge l p s).1)) ∧ Below w.heap.size w w' := by
  have cJ := judge_any B b m l w ht hl p s
  have hr := judge_range l p s
  clear ht hl
  generalize (judge l p s).2 = o at cJ
  generalize (judge l p s).1 = v at cJ hr ⊢
  rcases hr with rfl | rfl | rfl | rfl | rfl | rfl | rfl
  · go_enter Try.func19, Try.ntmps19
    go_wp2_with (go_at_call 18; refine cJ.mono ?_; rintro e w1 ⟨rfl, hb⟩)
    go_ret
    exact ⟨rfl, hb.alloc hb.size _⟩
  · go_enter Try.func19, Try.ntmps19
    go_wp2_with (go_at_call 18; refine cJ.mono ?_; rintro e w1 ⟨rfl, hb⟩)
    go_ret
    exact ⟨rfl, hb.alloc hb.size _⟩
  · go_enter Try.func19, Try.ntmps19
    go_wp2_with (go_at_call 18; refine cJ.mono ?_; rintro e w1 ⟨rfl, hb⟩)
    go_ret
    exact ⟨rfl, hb.alloc hb.size _⟩
  · go_enter Try.func19, Try.ntmps19
    go_wp2_with (go_at_call 18; refine cJ.mono ?_; rintro e w1 ⟨rfl, hb⟩)
    go_ret
    exact ⟨rfl, hb.alloc hb.size _⟩
  · go_enter Try.func19, Try.ntmps19
    go_wp2_with (go_at_call 18; refine cJ.mono ?_; rintro e w1 ⟨rfl, hb⟩)
    go_ret
    exact ⟨rfl, hb.alloc hb.size _⟩
  · go_enter Try.func19, Try.ntmps19
    go_wp2_with (go_at_call 18; refine cJ.mono ?_; rintro e w1 ⟨rfl, hb⟩)
    go_ret
    exact ⟨rfl, hb.alloc hb.size _⟩
  · go_enter Try.func19, Try.ntmps19
    go_wp2_with (go_at_call 18; refine cJ.mono ?_; rintro e w1 ⟨rfl, hb⟩)
    go_ret
    exact ⟨rfl, hb.alloc hb.size _⟩

theorem below_grown {w w' : World} (h : Below w.heap.size w w') (row : Option Nat) : w.grownBy w' row := ⟨h.os, h.tape, h.output, h.size, fun i hi _ => h.block i hi⟩
theorem note_ok {l : List Pr} (h : NewOk l) (p s o : Int) : NewOk (noteR l p s o).2 := by
  unfold noteR
  split
  · exact h
  · split
    · exact h
    · rename_i ho
      split
      · rename_i hj
        obtain ⟨hg, hr, _⟩ := judge_fresh hj
        have hg' := of_decide_eq_true hg
        have ho' : goodO o = true := by simpa using ho
        have ho'' := of_decide_eq_true ho'
        exact newOk_put h (by unfold okPr; dsimp only; omega) hr
      · exact h

set_option maxRecDepth 100000 in
set_option maxHeartbeats 4000000 in
theorem note_any (B b m : Nat) (l : List Pr) (w : World) (ht : TabAt w B b m l) (hl : NewOk l) (p s o : Int) :
    Calls Try.prog 20 #[.pointer (some ⟨b, 0, none⟩), .int .i64 p, .int .i64 s, .int .i64 o] w fun e w' => e = .returned (.int .i64 (noteR l p s o).1) ∧ TabAt w' B b m (noteR l p s o).2 ∧ w.grownBy w' (some m) := by
  have cR := refuse_any B b m l w ht hl p s
  have Ht := Lib.hid ht
  have Hl := Lib.hid hl
  clear ht hl
  by_cases he : errOf (judge l p s).1 = 0
  rotate_left
  · have hn : noteR l p s o = (errOf (judge l p s).1, l) := if_pos he
    have Hn := Lib.hid hn
    have he' : (errOf (judge l p s).1 != 0) = true := by simpa using he
    clear hn
    generalize errOf (judge l p s).1 = er at *
    clear he
    go_enter Try.func20, Try.ntmps20
    go_wp2_with (go_at_call 19; refine cR.mono ?_; rintro e w1 ⟨rfl, hb⟩)
    go_ret
    exact ⟨by rw [Hn.out]; rfl, by rw [Hn.out]; exact Ht.out.below hb (Nat.le_refl _), below_grown hb _⟩
  · rw [he] at cR
    have cO := goodO_any o
    rcases Bool.eq_false_or_eq_true (goodO o) with ho | ho
    rotate_left
    · have hn : noteR l p s o = (3, l) := by unfold noteR; rw [if_neg (not_not_intro he), if_pos ho]
      rw [ho] at cO
      have Hn := Lib.hid hn
      clear hn ho he
      go_enter Try.func20, Try.ntmps20
      go_wp2_with (first | (go_at_call 19; refine cR.mono ?_; rintro e w1 ⟨rfl, hb⟩) | (go_at_call 36; refine (cO _).mono ?_; rintro e w' ⟨rfl, rfl⟩))
      go_ret
      exact ⟨by rw [Hn.out]; rfl, by rw [Hn.out]; exact Ht.out.below hb (Nat.le_refl _), below_grown hb _⟩
    · rw [ho] at cO
      by_cases hj : (judge l p s).1 = 1
      · have hn : noteR l p s o = (0, put l ⟨p, s, o⟩) := by unfold noteR; rw [if_neg (not_not_intro he), if_neg (by rw [ho]; decide), if_pos hj]
        have Hn := Lib.hid hn
        have hg := of_decide_eq_true (judge_fresh hj).1
        have Hg := Lib.hid hg
        have Hj := Lib.hid hj
        clear hn ho he hj hg
        go_enter Try.func20, Try.ntmps20
        go_upto_region 6 with (first | (go_at_call 19; refine cR.mono ?_; rintro e w1 ⟨rfl, hb⟩) | (go_at_call 36; refine (cO _).mono ?_; rintro e w' ⟨rfl, rfl⟩))
        have cJ := judge_any B b m l w1 (Ht.out.below hb (Nat.le_refl _)) Hl.out p s
        rw [Hj.out] at cJ
        generalize (judge l p s).2 = jo at cJ
        have Hb := Lib.hid hb
        clear hb cR cO
        go_upto_region 7 with (go_at_call 18; refine cJ.mono ?_; rintro e w2 ⟨rfl, hb2⟩)
        have hb12 := Hb.out.trans (hb2.mono Hb.out.size)
        have ht2 : TabAt w2 B b m l := Ht.out.below hb12 (Nat.le_refl _)
        have tc := ht2.cell.cell 0
        simp only [List.getElem?_toArray, List.getElem?_cons_zero] at tc
        obtain ⟨w3, hr, h3, ht3⟩ := ht2.tab.store (p := ⟨p, s, o⟩) (by have := Hl.out.1; unfold maxLen; omega) (by have := Hg.out; dsimp only; omega)
        unfold prV at hr
        dsimp only at hr
        have h4 : TabAt w3 B b m (put l ⟨p, s, o⟩) := ht2.turned ht3 h3
        have h5 : w.grownBy w3 (some m) := (below_grown hb12 (some m)).trans ht3.grown
        have H4 := Lib.hid h4
        have H5 := Lib.hid h5
        have hmn := map_nil m
        clear cJ hb2 hb12 ht2 h3 ht3 h4 h5
        go_wp2
        go_ret
        exact ⟨by rw [Hn.out]; rfl, by rw [Hn.out]; exact H4.out, H5.out⟩
      · have hn : noteR l p s o = (0, l) := by unfold noteR; rw [if_neg (not_not_intro he), if_neg (by rw [ho]; decide), if_neg hj]
        have Hn := Lib.hid hn
        have hj' : ((judge l p s).1 == 1) = false := by simpa using hj
        have hj2 : ¬ (judge l p s).1 = 1 := hj
        clear hn ho he hj
        go_enter Try.func20, Try.ntmps20
        go_upto_region 6 with (first | (go_at_call 19; refine cR.mono ?_; rintro e w1 ⟨rfl, hb⟩) | (go_at_call 36; refine (cO _).mono ?_; rintro e w' ⟨rfl, rfl⟩))
        have cJ := judge_any B b m l w1 (Ht.out.below hb (Nat.le_refl _)) Hl.out p s
        have Hb := Lib.hid hb
        clear hb cR cO
        generalize (judge l p s).2 = jo at *
        generalize (judge l p s).1 = jv at *
        go_upto_region 7 with (go_at_call 18; refine cJ.mono ?_; rintro e w2 ⟨rfl, hb2⟩)
        have hb12 := Lib.hid (Hb.out.trans (hb2.mono Hb.out.size))
        clear hb2 cJ
        go_wp2
        go_ret
        exact ⟨by rw [Hn.out]; rfl, by rw [Hn.out]; exact Ht.out.below hb12.out (Nat.le_refl _), below_grown hb12.out _⟩
end Go.Proofs.Ytmcahimapoddfaa
