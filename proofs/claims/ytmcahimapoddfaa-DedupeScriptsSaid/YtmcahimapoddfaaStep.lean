/- The walk of the law's 'step': a call of the program's table and the like call of the document's answer alike. Conditions: both tables hold one list. -/
import Derived.Test.YtmcahimapoddfaaRefTab
import Derived.Test.YtmcahimapoddfaaCopy
import Derived.Test.YtmcahimapoddfaaTries
import Derived.Test.YtmcahimapoddfaaRoomy
namespace Go.Proofs.Ytmcahimapoddfaa
open Go.RowKit Go.Maps

theorem OwnP.kp2 {S : Nat → Prop} {w w' : World} {base : Nat} {v : Value} {rs : List Pr} (h : OwnP w base v rs) (hk : Kp S w w') (hS : ∀ b, v.ownBlock = some b → ¬ S b) : OwnP w' base v rs :=
  h.keep fun b hb => hk.block b (h.lt hb).2 (hS b hb)
theorem TabAt.kept2 {B b m : Nat} {tb : List Pr} {S : Nat → Prop} {w w' : World} (h : TabAt w B b m tb) (hk : Kp S w w') (h1 : ¬ S b) (h2 : ¬ S m) : TabAt w' B b m tb := by
  refine ⟨(hk.block b h.cell.lt h1).trans h.cell, ?_, h.lb, h.lm, h.ne⟩
  obtain ⟨es, clock, hm, r⟩ := h.tab
  exact ⟨es, clock, (hk.block m h.tab.lt h2).trans hm, r⟩
/-- The program's table and the document's hold one list. -/
structure ST (B : Nat) (W : World) (b m c : Nat) (v : Value) (l : List Pr) : Prop where
  tab : TabAt W B b m l
  ref : Blk W c 87 #[v]
  own : OwnP W B v l
  ok : NewOk l
  hc : B ≤ c
section
variable {B b m c : Nat} {v v' : Value} {l l' : List Pr} {W W' W2 : World}
theorem ST.hB (h : ST B W b m c v l) : B ≤ W.heap.size := by have := h.tab.lm; have := h.tab.tab.lt; omega
theorem ST.more (h : ST B W b m c v l) (hb : Below W.heap.size W W') : ST B W' b m c v l :=
  ⟨h.tab.below hb (Nat.le_refl _), h.ref.below hb h.ref.lt, h.own.below hb (Nat.le_refl _), h.ok, h.hc⟩
theorem ST.ne_bc (h : ST B W b m c v l) : b ≠ c := by
  intro e
  subst e
  have h1 : W.heap[b]? = some (.cells #[.map (some m)] 75 (0, 0)) := h.tab.cell
  have h2 : W.heap[b]? = some (.cells #[v] 87 (0, 0)) := h.ref
  rw [h1] at h2
  injection h2 with h2
  injection h2 with _ h2 _
  exact absurd h2 (by decide)
theorem ST.ne_mc (h : ST B W b m c v l) : m ≠ c := by
  intro e
  subst e
  obtain ⟨es, clock, hm, _⟩ := h.tab.tab
  have h2 : W.heap[m]? = some (.cells #[v] 87 (0, 0)) := h.ref
  rw [hm] at h2
  injection h2 with h2
  cases h2
theorem ST.ne_vm (h : ST B W b m c v l) : v.ownBlock ≠ some m := by
  intro e
  rcases h.own.2 with ⟨rfl, _⟩ | ⟨g, cap, cur, rfl, _, hh, _⟩
  · cases e
  · have e' : some g = some m := e
    injection e' with e'
    subst e'
    obtain ⟨es, clock, hm, _⟩ := h.tab.tab
    rw [hm] at hh
    injection hh with hh
    cases hh
/-- A number noted in both. -/
theorem ST.noted (h : ST B W b m c v l) (hn : NewOk l') (h1 : TabAt W' B b m l') (h2 : Blk W2 c 87 #[v']) (h3 : OwnP W2 B v' l') (hk : Kp (fun j => j = c) W' W2) : ST B W2 b m c v' l' := by
  refine ⟨h1.kept2 hk ?_ ?_, h2, h3, hn, h.hc⟩
  · exact h.ne_bc
  · exact h.ne_mc
end
set_option maxRecDepth 100000 in
set_option maxHeartbeats 4000000 in
theorem step_judge (B b m c : Nat) (v : Value) (l : List Pr) (w : World) (h : ST B w b m c v l) (kind p s o : Int) (hk : kind = 1) :
    Calls Try.prog 26 #[.pointer (some ⟨b, 0, none⟩), .pointer (some ⟨c, 0, none⟩), .agg #[.int .i64 kind, .int .i64 p, .int .i64 s, .int .i64 o]] w fun e w' => e = .returned (.bool true) ∧ Below w.heap.size w w' := by
  have k1 : (kind == 1) = true := by simp [hk]
  clear hk
  have x0 := cell_of_row _ _ 0 _ _ _ (heap_alloc_new w (.cells #[.int .i64 kind, .int .i64 p, .int .i64 s, .int .i64 o] 55))
  have x1 := cell_of_row _ _ 1 _ _ _ (heap_alloc_new w (.cells #[.int .i64 kind, .int .i64 p, .int .i64 s, .int .i64 o] 55))
  have x2 := cell_of_row _ _ 2 _ _ _ (heap_alloc_new w (.cells #[.int .i64 kind, .int .i64 p, .int .i64 s, .int .i64 o] 55))
  have x3 := cell_of_row _ _ 3 _ _ _ (heap_alloc_new w (.cells #[.int .i64 kind, .int .i64 p, .int .i64 s, .int .i64 o] 55))
  simp only [List.getElem?_toArray, List.getElem?_cons_zero, List.getElem?_cons_succ] at x0 x1 x2 x3
  have hb1 := (Below.refl w.heap.size w).alloc (Nat.le_refl _) (.cells #[.int .i64 kind, .int .i64 p, .int .i64 s, .int .i64 o] 55)
  have S := Lib.hid h
  have hs1 : w.heap.size < (w.alloc (.cells #[.int .i64 kind, .int .i64 p, .int .i64 s, .int .i64 o] 55)).heap.size := by simp
  clear h
  go_enter Try.func26, Try.ntmps26
  go_upto_region 1 with fail
  generalize hw1 : w.alloc (.cells #[.int .i64 kind, .int .i64 p, .int .i64 s, .int .i64 o] 55) = w1 at *
  clear hw1
  have Hb1 := Lib.hid hb1
  have S1 := Lib.hid (S.out.more hb1)
  clear hb1
  have cJ := judge_any B b m l w1 S1.out.tab S1.out.ok p s
  obtain ⟨jv, jo, hJ⟩ : ∃ a b, judge l p s = (a, b) := ⟨_, _, rfl⟩
  have HJ := Lib.hid hJ
  rw [hJ] at cJ
  clear hJ
  have q1 : (jv == jv) = true := by simp
  have q2 : (jo == jo) = true := by simp
  go_upto_region 5 with (first
    | (go_at_call 18; refine cJ.mono ?_; rintro e w2 ⟨rfl, hb2⟩; have y0 := (hb2.cell (p := ⟨w.heap.size, 0, none⟩) hs1).trans x0; have y1 := (hb2.cell (p := ⟨w.heap.size, 1, none⟩) hs1).trans x1; have y2 := (hb2.cell (p := ⟨w.heap.size, 2, none⟩) hs1).trans x2; have y3 := (hb2.cell (p := ⟨w.heap.size, 3, none⟩) hs1).trans x3; have S2 := Lib.hid (S1.out.more hb2); have Hb2 := Lib.hid hb2; clear hb2)
    | (go_at_call 40; refine (judgeRef_any c v l w2 S2.out.ref S2.out.own.toS S2.out.ok p s).mono ?_; rintro e w3 ⟨he, hb3⟩; rw [HJ.out] at he; subst he; have Hb3 := Lib.hid hb3; clear hb3))
  go_wp2
  go_ret
  have hbs := Hb1.out.trans ((Hb2.out.trans (Hb3.out.mono Hb2.out.size)).mono Hb1.out.size)
  exact ⟨rfl, hbs⟩
set_option maxRecDepth 100000 in
set_option maxHeartbeats 4000000 in
theorem step_refuse (B b m c : Nat) (v : Value) (l : List Pr) (w : World) (h : ST B w b m c v l) (kind p s o : Int) (hk : kind = 2) :
    Calls Try.prog 26 #[.pointer (some ⟨b, 0, none⟩), .pointer (some ⟨c, 0, none⟩), .agg #[.int .i64 kind, .int .i64 p, .int .i64 s, .int .i64 o]] w fun e w' => e = .returned (.bool true) ∧ Below w.heap.size w w' := by
  have k1 : (kind == 1) = false := by simp [hk]
  have k2 : (kind == 2) = true := by simp [hk]
  clear hk
  have x0 := cell_of_row _ _ 0 _ _ _ (heap_alloc_new w (.cells #[.int .i64 kind, .int .i64 p, .int .i64 s, .int .i64 o] 55))
  have x1 := cell_of_row _ _ 1 _ _ _ (heap_alloc_new w (.cells #[.int .i64 kind, .int .i64 p, .int .i64 s, .int .i64 o] 55))
  have x2 := cell_of_row _ _ 2 _ _ _ (heap_alloc_new w (.cells #[.int .i64 kind, .int .i64 p, .int .i64 s, .int .i64 o] 55))
  have x3 := cell_of_row _ _ 3 _ _ _ (heap_alloc_new w (.cells #[.int .i64 kind, .int .i64 p, .int .i64 s, .int .i64 o] 55))
  simp only [List.getElem?_toArray, List.getElem?_cons_zero, List.getElem?_cons_succ] at x0 x1 x2 x3
  have hb1 := (Below.refl w.heap.size w).alloc (Nat.le_refl _) (.cells #[.int .i64 kind, .int .i64 p, .int .i64 s, .int .i64 o] 55)
  have S := Lib.hid h
  have hs1 : w.heap.size < (w.alloc (.cells #[.int .i64 kind, .int .i64 p, .int .i64 s, .int .i64 o] 55)).heap.size := by simp
  clear h
  go_enter Try.func26, Try.ntmps26
  go_upto_region 1 with fail
  generalize hw1 : w.alloc (.cells #[.int .i64 kind, .int .i64 p, .int .i64 s, .int .i64 o] 55) = w1 at *
  clear hw1
  have Hb1 := Lib.hid hb1
  have S1 := Lib.hid (S.out.more hb1)
  clear hb1
  have cJ := refuse_any B b m l w1 S1.out.tab S1.out.ok p s
  obtain ⟨jv, hJ⟩ : ∃ a, errOf (judge l p s).1 = a := ⟨_, rfl⟩
  have HJ := Lib.hid hJ
  rw [hJ] at cJ
  clear hJ
  have q1 : (jv == jv) = true := by simp
  go_upto_region 9 with (first
    | (go_at_call 19; refine cJ.mono ?_; rintro e w2 ⟨rfl, hb2⟩; have y0 := (hb2.cell (p := ⟨w.heap.size, 0, none⟩) hs1).trans x0; have y1 := (hb2.cell (p := ⟨w.heap.size, 1, none⟩) hs1).trans x1; have y2 := (hb2.cell (p := ⟨w.heap.size, 2, none⟩) hs1).trans x2; have y3 := (hb2.cell (p := ⟨w.heap.size, 3, none⟩) hs1).trans x3; have S2 := Lib.hid (S1.out.more hb2); have Hb2 := Lib.hid hb2; clear hb2)
    | (go_at_call 41; refine (refuseRef_any c v l w2 S2.out.ref S2.out.own.toS S2.out.ok p s).mono ?_; rintro e w3 ⟨he, hb3⟩; rw [HJ.out] at he; subst he; have Hb3 := Lib.hid hb3; clear hb3))
  go_wp2
  go_ret
  have hbs := Hb1.out.trans ((Hb2.out.trans (Hb3.out.mono Hb2.out.size)).mono Hb1.out.size)
  exact ⟨rfl, hbs⟩
set_option maxRecDepth 100000 in
set_option maxHeartbeats 4000000 in
theorem step_note (B b m c : Nat) (v : Value) (l : List Pr) (w : World) (h : ST B w b m c v l) (kind p s o : Int) (hk : kind = 3) :
    Calls Try.prog 26 #[.pointer (some ⟨b, 0, none⟩), .pointer (some ⟨c, 0, none⟩), .agg #[.int .i64 kind, .int .i64 p, .int .i64 s, .int .i64 o]] w fun e w' => e = .returned (.bool true) ∧ ∃ v' l', ST B w' b m c v' l' ∧ Kp (fun j => B ≤ j) w w' := by
  have k1 : (kind == 1) = false := by simp [hk]
  have k2 : (kind == 2) = false := by simp [hk]
  have k3 : (kind == 3) = true := by simp [hk]
  clear hk
  have x0 := cell_of_row _ _ 0 _ _ _ (heap_alloc_new w (.cells #[.int .i64 kind, .int .i64 p, .int .i64 s, .int .i64 o] 55))
  have x1 := cell_of_row _ _ 1 _ _ _ (heap_alloc_new w (.cells #[.int .i64 kind, .int .i64 p, .int .i64 s, .int .i64 o] 55))
  have x2 := cell_of_row _ _ 2 _ _ _ (heap_alloc_new w (.cells #[.int .i64 kind, .int .i64 p, .int .i64 s, .int .i64 o] 55))
  have x3 := cell_of_row _ _ 3 _ _ _ (heap_alloc_new w (.cells #[.int .i64 kind, .int .i64 p, .int .i64 s, .int .i64 o] 55))
  simp only [List.getElem?_toArray, List.getElem?_cons_zero, List.getElem?_cons_succ] at x0 x1 x2 x3
  have hb1 := (Below.refl w.heap.size w).alloc (Nat.le_refl _) (.cells #[.int .i64 kind, .int .i64 p, .int .i64 s, .int .i64 o] 55)
  have S := Lib.hid h
  have hs1 : w.heap.size < (w.alloc (.cells #[.int .i64 kind, .int .i64 p, .int .i64 s, .int .i64 o] 55)).heap.size := by simp
  clear h
  go_enter Try.func26, Try.ntmps26
  go_upto_region 1 with fail
  generalize hw1 : w.alloc (.cells #[.int .i64 kind, .int .i64 p, .int .i64 s, .int .i64 o] 55) = w1 at *
  clear hw1
  have Hb1 := Lib.hid hb1
  have S1 := Lib.hid (S.out.more hb1)
  clear hb1
  have hmw : ¬ some w.heap.size = some m := fun e => by injection e with e; have := S.out.tab.tab.lt; omega
  have cJ := note_any B b m l w1 S1.out.tab S1.out.ok p s o
  obtain ⟨jv, hJ⟩ : ∃ a, (noteR l p s o).1 = a := ⟨_, rfl⟩
  have HJ := Lib.hid hJ
  rw [hJ] at cJ
  clear hJ
  have q1 : (jv == jv) = true := by simp
  go_upto_region 13 with (first
    | (go_at_call 20; refine cJ.mono ?_; rintro e w2 ⟨rfl, ht2, hg2⟩; have y0 := (hg2.cell_far ⟨w.heap.size, 0, none⟩ hs1 hmw).trans x0; have y1 := (hg2.cell_far ⟨w.heap.size, 1, none⟩ hs1 hmw).trans x1; have y2 := (hg2.cell_far ⟨w.heap.size, 2, none⟩ hs1 hmw).trans x2; have y3 := (hg2.cell_far ⟨w.heap.size, 3, none⟩ hs1 hmw).trans x3; have Ht2 := Lib.hid ht2; have Hg2 := Lib.hid hg2; clear ht2 hg2)
    | (go_at_call 42; refine (noteRef_any B c v l w2 (S1.out.ref.grown Hg2.out (fun e => by injection e with e; exact S1.out.ne_mc e.symm)) (S1.out.own.kp2 (Kp.of_grown Hg2.out) (fun j hj e => S1.out.ne_vm (by rw [hj]; exact e.symm))) S1.out.ok (Nat.le_trans S1.out.hB Hg2.out.size) p s o).mono ?_; rintro e w3 ⟨he, v3, hc3, ho3, hk3⟩; rw [HJ.out] at he; subst he; have Hc3 := Lib.hid hc3; have Ho3 := Lib.hid ho3; have Hk3 := Lib.hid hk3; clear hc3 ho3 hk3))
  go_wp2
  go_ret
  refine ⟨rfl, v3, _, S1.out.noted (note_ok S1.out.ok p s o) Ht2.out Hc3.out Ho3.out Hk3.out, ?_⟩
  refine ((Kp.of_below Hb1.out).trans (S' := fun j => some m = some j) (Kp.of_grown Hg2.out) (fun j e => ?_)).trans Hk3.out (fun j e => ?_)
  · injection e with e; exact .inl (by have := S.out.tab.lm; omega)
  · exact .inl (by have := S.out.hc; omega)
set_option maxRecDepth 100000 in
set_option maxHeartbeats 4000000 in
theorem step_list (B b m c : Nat) (v : Value) (l : List Pr) (w : World) (h : ST B w b m c v l) (kind p s o : Int) (hk : kind = 4) :
    Calls Try.prog 26 #[.pointer (some ⟨b, 0, none⟩), .pointer (some ⟨c, 0, none⟩), .agg #[.int .i64 kind, .int .i64 p, .int .i64 s, .int .i64 o]] w fun e w' => e = .returned (.bool true) ∧ Below w.heap.size w w' := by
  have k1 : (kind == 1) = false := by simp [hk]
  have k2 : (kind == 2) = false := by simp [hk]
  have k3 : (kind == 3) = false := by simp [hk]
  have k4 : (kind == 4) = true := by simp [hk]
  clear hk
  have x0 := cell_of_row _ _ 0 _ _ _ (heap_alloc_new w (.cells #[.int .i64 kind, .int .i64 p, .int .i64 s, .int .i64 o] 55))
  have x1 := cell_of_row _ _ 1 _ _ _ (heap_alloc_new w (.cells #[.int .i64 kind, .int .i64 p, .int .i64 s, .int .i64 o] 55))
  have x2 := cell_of_row _ _ 2 _ _ _ (heap_alloc_new w (.cells #[.int .i64 kind, .int .i64 p, .int .i64 s, .int .i64 o] 55))
  have x3 := cell_of_row _ _ 3 _ _ _ (heap_alloc_new w (.cells #[.int .i64 kind, .int .i64 p, .int .i64 s, .int .i64 o] 55))
  simp only [List.getElem?_toArray, List.getElem?_cons_zero, List.getElem?_cons_succ] at x0 x1 x2 x3
  have hb1 := (Below.refl w.heap.size w).alloc (Nat.le_refl _) (.cells #[.int .i64 kind, .int .i64 p, .int .i64 s, .int .i64 o] 55)
  have S := Lib.hid h
  have hs1 : w.heap.size < (w.alloc (.cells #[.int .i64 kind, .int .i64 p, .int .i64 s, .int .i64 o] 55)).heap.size := by simp
  clear h
  go_enter Try.func26, Try.ntmps26
  go_upto_region 1 with fail
  generalize hw1 : w.alloc (.cells #[.int .i64 kind, .int .i64 p, .int .i64 s, .int .i64 o] 55) = w1 at *
  clear hw1
  have Hb1 := Lib.hid hb1
  have S1 := Lib.hid (S.out.more hb1)
  clear hb1
  have cL := list_any B b m l w1 S1.out.tab S1.out.ok.1
  go_upto_region 18 with (first
    | (go_at_call 21; refine cL.mono ?_; clear cL; rintro e w2 ⟨va, rfl, ha, hb2⟩; have S2 := Lib.hid (S1.out.more hb2); have Ha := Lib.hid ha; have Hb2 := Lib.hid hb2; clear hb2 ha)
    | (go_at_call 21; refine (list_any B b m l w2 S2.out.tab S2.out.ok.1).mono ?_; rintro e w3 ⟨vk, rfl, hkk, hb3⟩; have S3 := Lib.hid (S2.out.more hb3); have Hkk := Lib.hid hkk; have Hb3 := Lib.hid hb3; clear hb3 hkk)
    | (go_at_call 27; refine (listRef_any c v l w3 S3.out.ref S3.out.own.toS S3.out.ok.1).mono ?_; rintro e w4 ⟨vw, rfl, hw4, hb4⟩; have S4 := Lib.hid (S3.out.more hb4); have Hw := Lib.hid hw4; have Hb4 := Lib.hid hb4; clear hb4 hw4))
  have Ha4 := Lib.hid ((Ha.out.below Hb3.out (Nat.le_refl _)).below Hb4.out (Nat.le_refl _))
  have Hk4 := Lib.hid (Hkk.out.below Hb4.out (Nat.le_refl _))
  have c5 := sameS Ha4.out.toS Hw.out.toS
  rw [decide_eq_true rfl] at c5
  have h64 := S1.out.ok.1
  have apart1 : ∀ j, va.ownBlock = some j → vk.ownBlock ≠ some j ∧ vw.ownBlock ≠ some j := fun j hj => ⟨fun e => by have h1 := (Ha.out.lt hj).2; have h2 := (Hkk.out.lt e).1; omega, fun e => by have h1 := (Ha.out.lt hj).2; have h2 := (Hw.out.lt e).1; have h3 := Hb3.out.size; omega⟩
  have Ap := Lib.hid apart1
  clear apart1
  go_upto_region 20 with (first
    | (go_at_call 12; refine c5.mono ?_; clear c5; rintro e w5 ⟨rfl, hb5⟩; have Ha5 := Lib.hid (Ha4.out.below hb5 (Nat.le_refl _)); have Hk5 := Lib.hid (Hk4.out.below hb5 (Nat.le_refl _)); have Hw5 := Lib.hid (Hw.out.below hb5 (Nat.le_refl _)); have Hb5 := Lib.hid hb5; clear hb5)
    | (go_at_call 12; refine (sameS Hk5.out.toS Hw5.out.toS).mono ?_; rintro e w6 ⟨he, hb6⟩; rw [decide_eq_true rfl] at he; subst he; have Hb6 := Lib.hid hb6; clear hb6))
  have Ha6 := Lib.hid (Ha5.out.below Hb6.out (Nat.le_refl _))
  have Hk6 := Lib.hid (Hk5.out.below Hb6.out (Nat.le_refl _))
  have Hw6 := Lib.hid (Hw5.out.below Hb6.out (Nat.le_refl _))
  have b6 := Hb1.out.trans ((Hb2.out.trans ((Hb3.out.trans ((Hb4.out.trans ((Hb5.out.trans (Hb6.out.mono Hb5.out.size)).mono Hb4.out.size)).mono Hb3.out.size)).mono Hb2.out.size)).mono Hb1.out.size)
  have B6 := Lib.hid b6
  have hsa := Lib.hid (fun j (hj : va.ownBlock = some j) => (Ha.out.lt hj).1)
  have hs1' := Lib.hid Hb1.out.size
  have c7 := spoil_any va w1.heap.size _ _ w6 Ha6.out h64 (by have := Hb2.out.size; have := Hb3.out.size; have := Hb4.out.size; have := Hb5.out.size; have := Hb6.out.size; omega)
  clear b6 Ha5 Hk5 Hw5 Ha4 Hk4 Hw Ha Hkk S2 S3 S4 Hb2 Hb3 Hb4 Hb5 Hb6
  go_wp2_with (first
    | (go_at_call 15; refine c7.mono ?_; rintro e w7 ⟨rfl, hk7⟩; have Hk7 := Lib.hid (Hk6.out.kp2 hk7 (fun j hj e => (Ap.out j e).1 hj)); have Hw7 := Lib.hid (Hw6.out.kp2 hk7 (fun j hj e => (Ap.out j e).2 hj)); have K7 := Lib.hid hk7; clear hk7)
    | (go_at_call 12; refine (sameS Hk7.out.toS Hw7.out.toS).mono ?_; rintro e w8 ⟨he, hb8⟩; rw [decide_eq_true rfl] at he; subst he; have Hb8 := Lib.hid hb8; clear hb8))
  go_ret
  have b7 := K7.out.to_below B6.out B6.out.size (fun j e => Nat.le_trans hs1'.out (hsa.out j e))
  exact ⟨rfl, b7.trans (Hb8.out.mono b7.size)⟩
set_option maxRecDepth 100000 in
set_option maxHeartbeats 4000000 in
theorem step_clone (B b m c : Nat) (v : Value) (l : List Pr) (w : World) (h : ST B w b m c v l) (kind p s o : Int) (hk : kind = 6) :
    Calls Try.prog 26 #[.pointer (some ⟨b, 0, none⟩), .pointer (some ⟨c, 0, none⟩), .agg #[.int .i64 kind, .int .i64 p, .int .i64 s, .int .i64 o]] w fun e w' => e = .returned (.bool true) ∧ Below w.heap.size w w' := by
  have k1 : (kind == 1) = false := by simp [hk]
  have k2 : (kind == 2) = false := by simp [hk]
  have k3 : (kind == 3) = false := by simp [hk]
  have k4 : (kind == 4) = false := by simp [hk]
  have k6 : (kind == 6) = true := by simp [hk]
  clear hk
  have x0 := cell_of_row _ _ 0 _ _ _ (heap_alloc_new w (.cells #[.int .i64 kind, .int .i64 p, .int .i64 s, .int .i64 o] 55))
  have x1 := cell_of_row _ _ 1 _ _ _ (heap_alloc_new w (.cells #[.int .i64 kind, .int .i64 p, .int .i64 s, .int .i64 o] 55))
  have x2 := cell_of_row _ _ 2 _ _ _ (heap_alloc_new w (.cells #[.int .i64 kind, .int .i64 p, .int .i64 s, .int .i64 o] 55))
  have x3 := cell_of_row _ _ 3 _ _ _ (heap_alloc_new w (.cells #[.int .i64 kind, .int .i64 p, .int .i64 s, .int .i64 o] 55))
  simp only [List.getElem?_toArray, List.getElem?_cons_zero, List.getElem?_cons_succ] at x0 x1 x2 x3
  have hb1 := (Below.refl w.heap.size w).alloc (Nat.le_refl _) (.cells #[.int .i64 kind, .int .i64 p, .int .i64 s, .int .i64 o] 55)
  have S := Lib.hid h
  have hs1 : w.heap.size < (w.alloc (.cells #[.int .i64 kind, .int .i64 p, .int .i64 s, .int .i64 o] 55)).heap.size := by simp
  clear h
  go_enter Try.func26, Try.ntmps26
  go_upto_region 1 with fail
  generalize hw1 : w.alloc (.cells #[.int .i64 kind, .int .i64 p, .int .i64 s, .int .i64 o] 55) = w1 at *
  clear hw1
  have Hb1 := Lib.hid hb1
  have S1 := Lib.hid (S.out.more hb1)
  clear hb1
  have cC := clone_any B b m l w1 S1.out.tab S1.out.ok.1
  obtain ⟨jv, hJ⟩ : ∃ a, (noteR l p s o).1 = a := ⟨_, rfl⟩
  have HJ := Lib.hid hJ
  clear hJ
  have q1 : (jv == jv) = true := by simp
  go_upto_region 24 with (first
    | (go_at_call 22; refine cC.mono ?_; rintro e w2 ⟨rfl, ht2, hb2⟩; have S2 := Lib.hid (S1.out.more hb2); have Ht2 := Lib.hid ht2; have Hb2 := Lib.hid hb2; clear hb2 ht2)
    | (go_at_call 25; refine (cloneRef_any c v l w2 S2.out.ref S2.out.own.toS S2.out.ok.1).mono ?_; rintro e w3 ⟨c3, v3, rfl, hcl, hc3, ho3, hb3⟩; have Hb3 := Lib.hid hb3; have Hcl := Lib.hid hcl; have Hc3 := Lib.hid hc3; have Ho3 := Lib.hid ho3; clear hb3 hcl hc3 ho3))
  have hst : ST w1.heap.size w3 (w1.heap.size + 1) w1.heap.size c3 v3 l := ⟨Ht2.out.below Hb3.out (Nat.le_refl _), Hc3.out, Ho3.out.mono Hb2.out.size, S1.out.ok, Nat.le_trans Hb2.out.size Hcl.out⟩
  have T3 := Lib.hid hst
  have hb13 := Hb2.out.trans (Hb3.out.mono Hb2.out.size)
  have B13 := Lib.hid (Hb1.out.trans (hb13.mono Hb1.out.size))
  have z0 := (hb13.cell (p := ⟨w.heap.size, 0, none⟩) hs1).trans x0
  have z1 := (hb13.cell (p := ⟨w.heap.size, 1, none⟩) hs1).trans x1
  have z2 := (hb13.cell (p := ⟨w.heap.size, 2, none⟩) hs1).trans x2
  have z3 := (hb13.cell (p := ⟨w.heap.size, 3, none⟩) hs1).trans x3
  have hs3 : w.heap.size < w3.heap.size := by have := hb13.size; omega
  have hmw : ¬ some w.heap.size = some w1.heap.size := fun e => by injection e with e; omega
  have Hw1 := Lib.hid Hb1.out.size
  have cN := note_any _ _ _ l w3 T3.out.tab T3.out.ok p s o
  rw [HJ.out] at cN
  clear hst hb13 S2 Ht2 Hb2 Hb3 Hcl Hc3 Ho3 x0 x1 x2 x3 hs1 cC
  generalize w1.heap.size = m1 at *
  go_upto_region 26 with (first
    | (go_at_call 20; refine cN.mono ?_; rintro e w4 ⟨rfl, ht4, hg4⟩; have y0 := (hg4.cell_far ⟨w.heap.size, 0, none⟩ hs3 hmw).trans z0; have y1 := (hg4.cell_far ⟨w.heap.size, 1, none⟩ hs3 hmw).trans z1; have y2 := (hg4.cell_far ⟨w.heap.size, 2, none⟩ hs3 hmw).trans z2; have y3 := (hg4.cell_far ⟨w.heap.size, 3, none⟩ hs3 hmw).trans z3; have Ht4 := Lib.hid ht4; have Hg4 := Lib.hid hg4; clear ht4 hg4)
    | (go_at_call 42; refine (noteRef_any m1 c3 v3 l w4 (T3.out.ref.grown Hg4.out (fun e => by injection e with e; exact T3.out.ne_mc e.symm)) (T3.out.own.kp2 (Kp.of_grown Hg4.out) (fun j hj e => T3.out.ne_vm (by rw [hj]; exact e.symm))) T3.out.ok (Nat.le_trans T3.out.hB Hg4.out.size) p s o).mono ?_; rintro e w5 ⟨he, v5, hc5, ho5, hk5⟩; rw [HJ.out] at he; subst he; have Hc5 := Lib.hid hc5; have Ho5 := Lib.hid ho5; have Hk5 := Lib.hid hk5; clear hc5 ho5 hk5))
  have T5 := Lib.hid (T3.out.noted (note_ok T3.out.ok p s o) Ht4.out Hc5.out Ho5.out Hk5.out)
  have b5 := Hk5.out.to_below (B13.out.grown Hg4.out B13.out.size (fun j hj => by injection hj with hj; have := Hw1.out; omega)) (Nat.le_trans B13.out.size Hg4.out.size) (fun j e => by have := T3.out.hc; have := Hw1.out; omega)
  have B5 := Lib.hid b5
  have cL := list_any _ _ _ _ w5 T5.out.tab T5.out.ok.1
  clear b5 T3 Ht4 Hg4 Hc5 Ho5 Hk5 B13 z0 z1 z2 z3 y0 y1 y2 y3
  go_wp2_with (first
    | (go_at_call 21; refine cL.mono ?_; rintro e w6 ⟨va, rfl, ha, hb6⟩; have T6 := Lib.hid (T5.out.more hb6); have Ha := Lib.hid ha; have Hb6 := Lib.hid hb6; clear hb6 ha)
    | (go_at_call 27; refine (listRef_any c3 v5 _ w6 T6.out.ref T6.out.own.toS T6.out.ok.1).mono ?_; rintro e w7 ⟨vw, rfl, hw7, hb7⟩; have Hw := Lib.hid hw7; have Ha7 := Lib.hid (Ha.out.below hb7 (Nat.le_refl _)); have Hb7 := Lib.hid hb7; clear hb7 hw7)
    | (go_at_call 12; refine (sameS Ha7.out.toS Hw.out.toS).mono ?_; rintro e w8 ⟨he, hb8⟩; rw [decide_eq_true rfl] at he; subst he; have Hb8 := Lib.hid hb8; clear hb8))
  go_ret
  exact ⟨rfl, B5.out.trans ((Hb6.out.trans ((Hb7.out.trans (Hb8.out.mono Hb7.out.size)).mono Hb6.out.size)).mono B5.out.size)⟩
set_option maxRecDepth 100000 in
set_option maxHeartbeats 4000000 in
theorem step_none (B b m c : Nat) (v : Value) (l : List Pr) (w : World) (h : ST B w b m c v l) (kind p s o : Int) (hk : kind ≠ 1 ∧ kind ≠ 2 ∧ kind ≠ 3 ∧ kind ≠ 4 ∧ kind ≠ 6) :
    Calls Try.prog 26 #[.pointer (some ⟨b, 0, none⟩), .pointer (some ⟨c, 0, none⟩), .agg #[.int .i64 kind, .int .i64 p, .int .i64 s, .int .i64 o]] w fun e w' => e = .returned (.bool true) ∧ Below w.heap.size w w' := by
  have k1 : (kind == 1) = false := by simp [hk]
  have k2 : (kind == 2) = false := by simp [hk]
  have k3 : (kind == 3) = false := by simp [hk]
  have k4 : (kind == 4) = false := by simp [hk]
  have k6 : (kind == 6) = false := by simp [hk]
  clear hk
  have x0 := cell_of_row _ _ 0 _ _ _ (heap_alloc_new w (.cells #[.int .i64 kind, .int .i64 p, .int .i64 s, .int .i64 o] 55))
  have x1 := cell_of_row _ _ 1 _ _ _ (heap_alloc_new w (.cells #[.int .i64 kind, .int .i64 p, .int .i64 s, .int .i64 o] 55))
  have x2 := cell_of_row _ _ 2 _ _ _ (heap_alloc_new w (.cells #[.int .i64 kind, .int .i64 p, .int .i64 s, .int .i64 o] 55))
  have x3 := cell_of_row _ _ 3 _ _ _ (heap_alloc_new w (.cells #[.int .i64 kind, .int .i64 p, .int .i64 s, .int .i64 o] 55))
  simp only [List.getElem?_toArray, List.getElem?_cons_zero, List.getElem?_cons_succ] at x0 x1 x2 x3
  have hb1 := (Below.refl w.heap.size w).alloc (Nat.le_refl _) (.cells #[.int .i64 kind, .int .i64 p, .int .i64 s, .int .i64 o] 55)
  have S := Lib.hid h
  have hs1 : w.heap.size < (w.alloc (.cells #[.int .i64 kind, .int .i64 p, .int .i64 s, .int .i64 o] 55)).heap.size := by simp
  clear h
  go_enter Try.func26, Try.ntmps26
  go_upto_region 1 with fail
  generalize hw1 : w.alloc (.cells #[.int .i64 kind, .int .i64 p, .int .i64 s, .int .i64 o] 55) = w1 at *
  clear hw1
  have Hb1 := Lib.hid hb1
  have S1 := Lib.hid (S.out.more hb1)
  clear hb1
  go_wp2
  go_ret
  exact ⟨rfl, Hb1.out⟩
theorem step_any (B b m c : Nat) (v : Value) (l : List Pr) (w : World) (h : ST B w b m c v l) (kind p s o : Int) :
    Calls Try.prog 26 #[.pointer (some ⟨b, 0, none⟩), .pointer (some ⟨c, 0, none⟩), .agg #[.int .i64 kind, .int .i64 p, .int .i64 s, .int .i64 o]] w fun e w' => e = .returned (.bool true) ∧ ∃ v' l', ST B w' b m c v' l' ∧ Kp (fun j => B ≤ j) w w' := by
  have same : ∀ w', Below w.heap.size w w' → ∃ v' l', ST B w' b m c v' l' ∧ Kp (fun j => B ≤ j) w w' := fun w' hb => ⟨v, l, h.more hb, Kp.of_below hb⟩
  by_cases h1 : kind = 1
  · exact (step_judge B b m c v l w h kind p s o h1).mono fun e w' ⟨he, hb⟩ => ⟨he, same w' hb⟩
  by_cases h2 : kind = 2
  · exact (step_refuse B b m c v l w h kind p s o h2).mono fun e w' ⟨he, hb⟩ => ⟨he, same w' hb⟩
  by_cases h3 : kind = 3
  · exact step_note B b m c v l w h kind p s o h3
  by_cases h4 : kind = 4
  · exact (step_list B b m c v l w h kind p s o h4).mono fun e w' ⟨he, hb⟩ => ⟨he, same w' hb⟩
  by_cases h6 : kind = 6
  · exact (step_clone B b m c v l w h kind p s o h6).mono fun e w' ⟨he, hb⟩ => ⟨he, same w' hb⟩
  exact (step_none B b m c v l w h kind p s o ⟨h1, h2, h3, h4, h6⟩).mono fun e w' ⟨he, hb⟩ => ⟨he, same w' hb⟩
end Go.Proofs.Ytmcahimapoddfaa
