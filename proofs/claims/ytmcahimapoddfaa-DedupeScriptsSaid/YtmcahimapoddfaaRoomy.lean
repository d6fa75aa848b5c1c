/- The walks of the law's roomy and kept. Conditions: the list is readable, no more than a slice bears. -/
import Derived.Test.YtmcahimapoddfaaSpoil
namespace Go.Proofs.Ytmcahimapoddfaa
open Go.RowKit Go.Maps

def marks : List Value := prCells ⟨-1, 0, 0⟩ ++ prCells ⟨-2, 0, 0⟩
/-- The list with marks in the room behind it. -/
def Room (w : World) (base g cap : Nat) (ps : List Pr) : Prop := w.ownsRow base 67 3 (.slice (some ⟨g, 0, none⟩) (ps.length + 2) cap) (ps.length + 2) (ps.flatMap prCells ++ marks)
section
variable {w w' : World} {base g cap : Nat} {ps : List Pr}
theorem Room.caps (h : Room w base g cap ps) : ps.length + 2 ≤ cap ∧ cap ≤ maxLen := by
  obtain ⟨A, c, e, h1, h2⟩ := row_shape h
  injection e with _ _ e
  subst e
  exact ⟨h1, h2⟩
theorem Room.lt (h : Room w base g cap ps) : base ≤ g ∧ g < w.heap.size := World.ownsRow.lt h g rfl
theorem Room.keep (h : Room w base g cap ps) (hk : w'.heap[g]? = w.heap[g]?) : Room w' base g cap ps := row_keep h fun b hb => by
  have e : some g = some b := hb
  injection e with e
  rw [← e]
  exact hk
theorem Room.own (h : Room w base g cap ps) : w.ownsRow base 67 3 (.slice (some ⟨g, 0, none⟩) ps.length cap) ps.length (ps.flatMap prCells) := by
  refine ⟨flat_len ps, ?_⟩
  rcases h.2 with ⟨h', _⟩ | ⟨g', cap', cur, e, hb, hh, h1, h2, h3, h4⟩
  · cases h'
  · simp only [Value.slice.injEq, Option.some.injEq, Addr.mk.injEq, and_true, true_and] at e
    obtain ⟨rfl, rfl⟩ := e
    refine .inr ⟨g, cap, cur, rfl, hb, hh, by omega, h2, h3, ?_⟩
    have := congrArg (List.take (ps.length * 3)) h4
    rw [List.take_take, Nat.min_eq_left (by omega), List.take_append_of_le_length (by rw [flat_len]; exact Nat.le_refl _)] at this
    have h5 : List.take (ps.length * 3) (ps.flatMap prCells) = ps.flatMap prCells := List.take_of_length_le (by rw [flat_len]; exact Nat.le_refl _)
    rw [h5] at this
    exact this
theorem Room.toS (h : Room w base g cap ps) : PS w (.slice (some ⟨g, 0, none⟩) ps.length cap) ps := OwnP.toS (base := base) h.own
theorem Room.mark1 (h : Room w base g cap ps) : w.cell? ⟨g, ps.length * 3, none⟩ = some (.int .i64 (-1)) := by
  rw [World.ownsRow.cellAt h _ (by omega), List.getElem?_append_right (by rw [flat_len]; exact Nat.le_refl _), flat_len, Nat.sub_self]
  rfl
theorem Room.mark2 (h : Room w base g cap ps) : w.cell? ⟨g, (ps.length + 1) * 3, none⟩ = some (.int .i64 (-2)) := by
  rw [World.ownsRow.cellAt h _ (by omega), List.getElem?_append_right (by rw [flat_len]; omega), flat_len]
  have : (ps.length + 1) * 3 - ps.length * 3 = 3 := by omega
  rw [this]
  rfl
end
theorem marks_one : ∀ u ∈ marks, u.oneCell' = true := by
  intro u hu
  simp [marks, prCells] at hu
  rcases hu with rfl | rfl | rfl | rfl <;> rfl

set_option maxRecDepth 100000 in
set_option maxHeartbeats 4000000 in
theorem roomy_any (v : Value) (ps : List Pr) (w : World) (h : PS w v ps) (hb : (ps.length + 2) * 24 ≤ 140737488355328) :
    Calls Try.prog 9 #[v] w fun e w' => (∃ g cap, e = .returned (.slice (some ⟨g, 0, none⟩) ps.length cap) ∧ Room w' w.heap.size g cap ps) ∧ Below w.heap.size w w' := by
  obtain ⟨A, c, rfl, hlc, hcm, hnil, hp⟩ := h
  obtain ⟨i0, hi, hz0, hz1, hz2⟩ := info_parts info67
  have hb0 := (Below.refl w.heap.size w).alloc (Nat.le_refl _) (.cells #[] 67)
  have hp' : ProdsAt (w.alloc (.cells #[] 67)) w.heap.size A ps := hp.below hb0
  have hem : (w.alloc (.cells #[] 67)).ownsRow w.heap.size 67 3 (.slice (some ⟨w.heap.size, 0, none⟩) 0 0) 0 [] := World.ownsRow_lit w #[] 0 (Nat.le_refl _) (by unfold maxLen; omega) (by simp)
  have hsz : w.heap.size ≤ (w.alloc (.cells #[] 67)).heap.size := by simp
  have Hb0 := Lib.hid hb0
  have hcm' := hcm
  unfold maxLen at hcm'
  clear hp hb0
  go_enter Try.func9, Try.ntmps9
  go_upto_region 2 with (first
    | (at_builtin; refine wpList_append_any _ rfl _ _ 22 rfl w.heap.size 67 i0 _ 3 24 Try.underlying22 hi hz0 hz1 hz2 rfl (by decide) _ 0 [] rfl hem A ps.length c rfl hnil (ps.flatMap prCells) (flat_len ps) (prods_news hp') prods_one (by unfold maxLen; omega) (by omega) hsz ?_; intro vc wc hown1 hgr1 hat1))
  rw [Nat.zero_add, List.nil_append] at hown1
  have Hown1 := Lib.hid hown1
  have hbc := Hb0.out.grown hgr1 hsz (fun j hj => by have e : some w.heap.size = some j := hj; injection e with e; omega)
  have Hbc := Lib.hid hbc
  have hszc := hbc.size
  clear hown1 hgr1 hat1 hem hp' hsz Hb0 hnil hbc
  go_upto_region 3 with (first
    | (at_builtin; refine wpList_append_lies _ rfl _ _ 22 rfl w.heap.size 67 i0 _ 3 24 Try.underlying22 hi hz0 hz1 hz2 rfl (by decide) _ ps.length (ps.flatMap prCells) rfl (World.ownsRow.alloc Hown1.out _) ⟨wc.heap.size, 0, none⟩ 2 2 marks rfl rfl (World.news_of_block (heap_alloc_new _ _)) marks_one (by decide) (by unfold maxLen; omega) (by omega) (by simp; omega) _ rfl ?_; intro g cap w8 hown3 hgr3 hat3 hlt3))
  have hR : Room w8 w.heap.size g cap ps := hown3
  have HR := Lib.hid hR
  have Hb8 := Lib.hid ((Hbc.out.alloc hszc (.cells #[.int .i64 (-1), .int .i64 0, .int .i64 0, .int .i64 (-2), .int .i64 0, .int .i64 0] 67)).grown hgr3 (by simp; omega) (fun j hj => (World.ownsRow.lt Hown1.out j hj).1))
  have hcap := hR.caps
  have hc1 : (ps.length : Int) ≤ cap := by omega
  have hc2 : ps.length ≤ cap := by omega
  have hcx := hcap.2
  unfold maxLen at hcx
  clear hown3 hgr3 hat3 hR hcap Hown1 Hbc
  go_wp2
  go_ret
  exact ⟨⟨g, cap, rfl, HR.out⟩, Hb8.out⟩

set_option maxRecDepth 100000 in
set_option maxHeartbeats 4000000 in
theorem kept_any (g cap base : Nat) (v : Value) (ps : List Pr) (w : World) (h : Room w base g cap ps) (hp : PS w v ps) :
    Calls Try.prog 13 #[.slice (some ⟨g, 0, none⟩) ps.length cap, v] w fun e w' => e = .returned (.bool true) ∧ Below w.heap.size w w' := by
  have cS := sameS h.toS hp
  rw [decide_eq_true rfl] at cS
  obtain ⟨A, c, rfl, hlc, hcm, hnil, _⟩ := hp
  have m1 := h.mark1
  have m2 := h.mark2
  have hgl := h.lt.2
  have hcap := h.caps
  have hcx := hcap.2
  have hc1 : (ps.length : Int) + 2 ≤ cap := by omega
  have hw2 : IntKind.i64.wrap ((ps.length : Int) + 2) = (ps.length + 2 : Nat) := by rw [IntKind.wrap_i64]; unfold maxLen at hcx; omega
  have hw1 : IntKind.i64.wrap ((ps.length : Int) + 1) = (ps.length + 1 : Nat) := by rw [IntKind.wrap_i64]; unfold maxLen at hcx; omega
  unfold maxLen at hcx
  obtain ⟨n1, hn1⟩ : ∃ n1, n1 = ps.length + 1 := ⟨_, rfl⟩
  obtain ⟨n2, hn2⟩ : ∃ n2, n2 = ps.length + 2 := ⟨_, rfl⟩
  rw [← hn1] at m2 hw1
  rw [← hn2] at hw2
  have hx0 : (n2 : Int) ≤ cap := by omega
  have hx1 : (ps.length : Int) < n2 := by omega
  have hx2 : (n1 : Int) < n2 := by omega
  have hx3 : n2 ≤ cap := by omega
  clear h hnil hn1 hn2 hcap hc1
  go_enter Try.func13, Try.ntmps13
  go_wp2_with (go_at_call 12; refine cS.mono ?_; rintro e w2 ⟨rfl, hb2⟩; have m1' := (hb2.cell (p := ⟨g, ps.length * 3, none⟩) hgl).trans m1; have m2' := (hb2.cell (p := ⟨g, n1 * 3, none⟩) hgl).trans m2; have Hb2 := Lib.hid hb2; clear hb2)
  go_ret
  exact ⟨rfl, Hb2.out⟩
end Go.Proofs.Ytmcahimapoddfaa
