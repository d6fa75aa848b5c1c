/- The walks of Judge, Refuse, Note over a table. Conditions: the table is a right one. -/
import Derived.Test.YtmcahimapoddfaaPartsPlain
namespace Go.Proofs.Ytmcahimapoddfaa
open Go.RowKit Go.Maps

/-- The verdict, and the offset that it tells. -/
def judge (l : List Pr) (p s : Int) : Int × Int :=
  if p = 0 ∧ s = 0 then (0, 0)
  else if goodB p s = false then (-1, 0)
  else match look l p with
    | some q => if s = q.seq then (2, q.off) else if s < q.seq then (3, 0) else if ¬ s = q.seq + 1 then (4, 0) else (1, 0)
    | none => if ¬ s = 1 then (4, 0) else if 64 ≤ l.length then (5, 0) else (1, 0)

section
variable {l : List Pr} {p s : Int}
theorem judge_free (h : p = 0 ∧ s = 0) : judge l p s = (0, 0) := if_pos h
theorem judge_bad (h : ¬ (p = 0 ∧ s = 0)) (hg : goodB p s = false) : judge l p s = (-1, 0) := by
  unfold judge
  rw [if_neg h, if_pos hg]
theorem good_ne (hg : goodB p s = true) : ¬ (p = 0 ∧ s = 0) := by
  have := of_decide_eq_true hg
  omega
theorem judge_some {q : Pr} (hg : goodB p s = true) (hq : look l p = some q) : judge l p s = if s = q.seq then (2, q.off) else if s < q.seq then (3, 0) else if ¬ s = q.seq + 1 then (4, 0) else (1, 0) := by
  unfold judge
  rw [if_neg (good_ne hg), if_neg (by rw [hg]; decide), hq]
theorem judge_none (hg : goodB p s = true) (hq : look l p = none) : judge l p s = if ¬ s = 1 then (4, 0) else if 64 ≤ l.length then (5, 0) else (1, 0) := by
  unfold judge
  rw [if_neg (good_ne hg), if_neg (by rw [hg]; decide), hq]
end

set_option maxRecDepth 100000 in
set_option maxHeartbeats 4000000 in
theorem judge_any (B b m : Nat) (l : List Pr) (w : World) (ht : TabAt w B b m l) (hl : NewOk l) (p s : Int) :
    Calls Try.prog 18 #[.pointer (some ⟨b, 0, none⟩), .int .i64 p, .int .i64 s] w fun e w' => e = .returned (.tuple #[.int .i64 (judge l p s).1, .int .i64 (judge l p s).2]) ∧ Below w.heap.size w w' := by
  have cG := goodP_any p s
  rcases Bool.eq_false_or_eq_true (goodB p s) with hg | hg
  rotate_left
  · rw [hg] at cG
    by_cases h0 : p = 0
    · have h0' : (p == 0) = true := by simpa using h0
      by_cases h1 : s = 0
      · have h1' : (s == 0) = true := by simpa using h1
        rw [judge_free ⟨h0, h1⟩]
        clear hg cG ht hl h0 h1
        go_enter Try.func18, Try.ntmps18
        go_wp2
        go_ret2
        exact ⟨rfl, Below.refl _ _⟩
      · have h1' : (s == 0) = false := by simpa using h1
        rw [judge_bad (fun h => h1 h.2) hg]
        clear hg ht hl h0 h1
        go_enter Try.func18, Try.ntmps18
        go_wp2_with (go_at_call 35; refine (cG _).mono ?_; rintro e w' ⟨rfl, rfl⟩)
        go_ret2
        exact ⟨rfl, Below.refl _ _⟩
    · have h0' : (p == 0) = false := by simpa using h0
      rw [judge_bad (fun h => h0 h.1) hg]
      clear hg ht hl h0
      go_enter Try.func18, Try.ntmps18
      go_wp2_with (go_at_call 35; refine (cG _).mono ?_; rintro e w' ⟨rfl, rfl⟩)
      go_ret2
      exact ⟨rfl, Below.refl _ _⟩
  · rw [hg] at cG
    have hb := of_decide_eq_true hg
    have h0' : (p == 0) = false := by simp; omega
    have tc := ht.cell.cell 0
    simp only [List.getElem?_toArray, List.getElem?_cons_zero] at tc
    have hbl := ht.cell.lt
    have hlk := ht.tab.look (k := p) (by omega)
    unfold prV at hlk
    have hln := (ht.tab.alloc (.cells #[.int .i64 0, .int .i64 0, .int .i64 0] 67)).len 3
    rcases hq : look l p with _ | q
    · rw [hq] at hlk
      dsimp only [Option.getD, Option.isSome, zPr] at hlk
      have hj := judge_none hg hq
      have Hj := Lib.hid hj
      clear hj hq hl ht hg hb
      by_cases h1 : s = 1
      · have h1' : (s != 1) = false := by simp [h1]
        by_cases h64 : 64 ≤ l.length
        · have h64i : (l.length : Int) ≥ 64 := by omega
          have hj : judge l p s = (5, 0) := by rw [Hj.out, if_neg (not_not_intro h1), if_pos h64]
          rw [hj]
          clear Hj hj h1 h64
          go_enter Try.func18, Try.ntmps18
          go_wp2_with (go_at_call 35; refine (cG _).mono ?_; rintro e w' ⟨rfl, rfl⟩)
          go_ret2
          exact ⟨rfl, (Below.refl _ _).alloc (Nat.le_refl _) _⟩
        · have h64i : ¬ (l.length : Int) ≥ 64 := by omega
          have hj : judge l p s = (1, 0) := by rw [Hj.out, if_neg (not_not_intro h1), if_neg h64]
          rw [hj]
          clear Hj hj h1 h64
          go_enter Try.func18, Try.ntmps18
          go_wp2_with (go_at_call 35; refine (cG _).mono ?_; rintro e w' ⟨rfl, rfl⟩)
          go_ret2
          exact ⟨rfl, (Below.refl _ _).alloc (Nat.le_refl _) _⟩
      · have h1' : (s != 1) = true := by simpa using h1
        have hj : judge l p s = (4, 0) := by rw [Hj.out, if_pos h1]
        rw [hj]
        clear Hj hj h1
        go_enter Try.func18, Try.ntmps18
        go_wp2_with (go_at_call 35; refine (cG _).mono ?_; rintro e w' ⟨rfl, rfl⟩)
        go_ret2
        exact ⟨rfl, (Below.refl _ _).alloc (Nat.le_refl _) _⟩
    · rw [hq] at hlk
      dsimp only [Option.getD, Option.isSome] at hlk
      have hok := (newOk_iff.1 hl).2.2 q (look_mem hq).1
      unfold okPr at hok
      have hwr : IntKind.i64.wrap (q.seq + 1) = q.seq + 1 := by rw [IntKind.wrap_i64]; omega
      have hj := judge_some hg hq
      have Hj := Lib.hid hj
      clear hj hq hl ht hg hb hok
      by_cases h1 : s = q.seq
      · have h1' : (s == q.seq) = true := by simpa using h1
        have hj : judge l p s = (2, q.off) := by rw [Hj.out, if_pos h1]
        rw [hj]
        clear Hj hj h1
        go_enter Try.func18, Try.ntmps18
        go_upto_region 9 with (go_at_call 35; refine (cG _).mono ?_; rintro e w' ⟨rfl, rfl⟩)
        go_quiet (fail)
        go_wp2
        go_ret2
        exact ⟨rfl, below_drewN ((Below.refl _ _).alloc (Nat.le_refl _) _) _⟩
      · have h1' : (s == q.seq) = false := by simpa using h1
        by_cases h2 : s < q.seq
        · have hj : judge l p s = (3, 0) := by rw [Hj.out, if_neg h1, if_pos h2]
          rw [hj]
          clear Hj hj h1
          go_enter Try.func18, Try.ntmps18
          go_wp2_with (go_at_call 35; refine (cG _).mono ?_; rintro e w' ⟨rfl, rfl⟩)
          go_ret2
          exact ⟨rfl, (Below.refl _ _).alloc (Nat.le_refl _) _⟩
        · by_cases h3 : s = q.seq + 1
          · have h3' : (s != q.seq + 1) = false := by simp [h3]
            have hj : judge l p s = (1, 0) := by rw [Hj.out, if_neg h1, if_neg h2, if_neg (not_not_intro h3)]
            rw [hj]
            clear Hj hj h1 h3
            go_enter Try.func18, Try.ntmps18
            go_wp2_with (go_at_call 35; refine (cG _).mono ?_; rintro e w' ⟨rfl, rfl⟩)
            go_ret2
            exact ⟨rfl, (Below.refl _ _).alloc (Nat.le_refl _) _⟩
          · have h3' : (s != q.seq + 1) = true := by simpa using h3
            have hj : judge l p s = (4, 0) := by rw [Hj.out, if_neg h1, if_neg h2, if_pos h3]
            rw [hj]
            clear Hj hj h1 h3
            go_enter Try.func18, Try.ntmps18
            go_wp2_with (go_at_call 35; refine (cG _).mono ?_; rintro e w' ⟨rfl, rfl⟩)
            go_ret2
            exact ⟨rfl, (Below.refl _ _).alloc (Nat.le_refl _) _⟩
end Go.Proofs.Ytmcahimapoddfaa
