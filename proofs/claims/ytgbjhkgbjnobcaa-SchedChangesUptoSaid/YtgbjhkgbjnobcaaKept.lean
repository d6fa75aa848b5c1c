/- The walk of the law's kept: the list is as it was, and all marks stand. Conditions: the turns are owned, with marks behind. -/
import Derived.Test.YtgbjhkgbjnobcaaRoomy
import Derived.Test.YtgbjhkgbjnobcaaSameBig
namespace Go.Proofs.Ytgbjhkgbjnobcaa
open Go.RowKit Trn

/-- A row behind the list. -/
theorem TQ.behind {w : World} {lo : Nat} {v : Value} {l : List QV} {tl : List R4} (h : TQ w lo v l tl) {j : Nat} {r : R4} (hr : tl[j]? = some r) : ∃ g c, v = .slice (some ⟨g, 0, none⟩) l.length c ∧ l.length + tl.length ≤ c ∧ c ≤ maxLen ∧ w.cell? ⟨g, (l.length + j) * 4, none⟩ = some r.a := by
  rcases h.row with ⟨_, _, rfl⟩ | ⟨g, c, R, rfl, _, hq, _, h1, h2, h3⟩
  · simp at hr
  · have := h3 (l.length + j) r (by rw [List.getElem?_append_right (by simp)]; simpa using hr)
    exact ⟨g, c, rfl, h1, h2, (hq.cells this).1⟩

set_option maxRecDepth 100000 in
set_option maxHeartbeats 8000000 in
theorem kept_any (vq : Value) (l : List QV) (lo : Nat) (vt : Value) (t : Tu) (B : Nat) (w : World) (h : TQ w lo vq l [qmark (-77), qmark (-78)]) (hl : l.map (·.1) = t.qs) (hmk : ∀ p ∈ l, p.2.2 = [-77, -78]) (hv : TuAt w B vt t) (hB : B ≤ w.heap.size) :
    Calls Try.prog 19 #[.agg #[vq, .int .i64 t.at_, .bool t.fr], vt] w fun e w' => e = .returned (.bool true) ∧ Below w.heap.size w w' := by
  have hsm : ∀ w1, Below w.heap.size w w1 → Calls Try.prog 18 #[.agg #[vq, .int .i64 t.at_, .bool t.fr], vt] w1 fun e w' => e = .returned (.bool true) ∧ Below w1.heap.size w1 w' := fun w1 hb =>
    same_big _ _ t w1 w.heap.size hb.size ((h.tu hl).below hb) ((hv.mono hB).below hb)
  have Hsm := Lib.hid hsm
  obtain ⟨g, c, rfl, hgc, hcm, m0⟩ := h.behind (j := 0) rfl
  obtain ⟨g', c', e, _, _, m1⟩ := h.behind (j := 1) rfl
  have hgg : g = g' := by
    injection e with e _ _
    injection e with e
    injection e
  subst hgg
  clear e
  dsimp only [qmark] at m0 m1
  have hcm2 : c ≤ 9223372036854775807 := by unfold maxLen at hcm; omega
  simp only [List.length_cons, List.length_nil] at hgc
  have hgs : g < w.heap.size := (h.lt (.inl rfl)).2
  obtain ⟨At, ct, rfl, hlt, hct, hqt⟩ := hv
  have hln : l.length = t.qs.length := by rw [← hl, List.length_map]
  have H := Lib.hid h
  have Hmk := Lib.hid hmk
  have M0 := Lib.hid m0
  have M1 := Lib.hid m1
  have hx := (Boxed.start w (some ⟨g, 0, none⟩) l.length c t.at_ t.fr).alloc (.cells #[.slice At t.qs.length ct, .int .i64 t.at_, .bool t.fr] 34)
  have hres := Blk.new (w.alloc (.cells #[.slice (some ⟨g, 0, none⟩) l.length c, .int .i64 t.at_, .bool t.fr] 34)) 34 #[.slice At t.qs.length ct, .int .i64 t.at_, .bool t.fr]
  rw [World.size_alloc] at hres
  clear h hcm hct hqt hmk hl hln hsm m0 m1
  go_enter Try.func19, Try.ntmps19
  go_upto_region 1 with fail
  generalize hW1 : World.alloc (World.alloc _ _) _ = W1 at *
  clear hW1
  obtain ⟨x0, x1, x2⟩ := hx.cells
  have y0 := hres.cell 0
  have y1 := hres.cell 1
  have y2 := hres.cell 2
  simp at y0 y1 y2
  have HX := Lib.hid hx
  clear hx hres
  go_upto_region 3 with (first
    | (go_at_call 18; refine Calls.mono (Hsm.out _ HX.out.below) ?_; rintro e w2 ⟨rfl, hb2⟩))
  have hx2 := HX.out.more hb2
  obtain ⟨z0, z1, z2⟩ := hx2.cells
  have HX2 := Lib.hid hx2
  clear hx2 hb2 HX x0 x1 x2 y0 y1 y2
  go_wp2
  go_loopg [5] l.length (fun g vi wr => ∃ (k : Nat), g + k = l.length ∧ vi = .int .i64 (k : Nat) ∧ Below w2.heap.size w2 wr)
  case atStart => exact ⟨0, by omega, rfl, Below.refl _ _⟩
  case round =>
    obtain ⟨k, hk, rfl, hbr⟩ := hrel
    have hkn : k ≤ l.length := by omega
    have Hk := Lib.hid hk
    have Hx := Lib.hid (HX2.out.more hbr)
    have Hbr := Lib.hid hbr
    obtain ⟨z0', z1', z2'⟩ := Hx.out.cells
    clear z0 z1 z2 hk hbr
    by_cases hkl : k < l.length
    · have hki : (k : Int) < l.length := by omega
      obtain ⟨⟨q, u, sp⟩, hp⟩ : ∃ p, l[k]? = some p := ⟨_, List.getElem?_eq_getElem hkl⟩
      have hsp : sp = [-77, -78] := Hmk.out _ (List.mem_of_getElem? hp)
      subst hsp
      have htq := H.out.keep fun b hb => Hx.out.below.block b (H.out.lt hb).2
      obtain ⟨g', c', hA, _, q0, q1, q2, q3, _⟩ := htq.at_ hp
      have hgg : g = g' := by
        injection hA with hA _ _
        injection hA with hA
        injection hA
      subst hgg
      clear hA
      dsimp only at q3
      have hir : IR wr lo u q.cs [-77, -78] := htq.own k _ hp
      obtain ⟨b, o, cq, hu, hcq, n0, _⟩ := hir.at_ (j := q.cs.length) (x := -77) (by rw [List.getElem?_append_right (Nat.le_refl _)]; simp)
      obtain ⟨b', o', cq', hu', _, n1, _⟩ := hir.at_ (j := q.cs.length + 1) (x := -78) (by rw [List.getElem?_append_right (by omega)]; simp)
      rw [hu] at hu'
      have hbb : b = b' := by
        injection hu' with e _ _
        injection e with e
        injection e
      have hoo : o = o' := by
        injection hu' with e _ _
        injection e with e
        injection e
      subst hbb hoo
      clear hu'
      subst hu
      obtain ⟨hcqm, hcq9⟩ : q.cs.length + 2 ≤ cq ∧ cq ≤ 9223372036854775807 := by
        obtain ⟨_, _, hsh, h1, h2⟩ := hir.shape
        injection hsh with _ _ hsh
        subst hsh
        unfold maxLen at h2
        simp only [List.length_cons, List.length_nil] at hcq
        exact ⟨by omega, by omega⟩
      have hwn : IntKind.i64.wrap ((q.cs.length : Int) + 2) = q.cs.length + 2 := by rw [IntKind.wrap_i64]; omega
      have hwn1 : IntKind.i64.wrap ((q.cs.length : Int) + 1) = q.cs.length + 1 := by rw [IntKind.wrap_i64]; omega
      have hi1 : (q.cs.length : Int) < q.cs.length + 2 := by omega
      have hi2 : (q.cs.length : Int) + 1 < q.cs.length + 2 := by omega
      have n1' : wr.cell? ⟨b, o + q.cs.length + 1, none⟩ = some (.int .i64 (-78)) := n1
      clear htq hir q0 q1 q2 hcq hp
      go_wp2
      have hk := Hk.out
      go_roundg (gk - 1)
      case measure => omega
      case rel => exact ⟨k + 1, by omega, by go_num, Hbr.out⟩
    · have hki : ¬ (k : Int) < l.length := by omega
      have m0 := (Hx.out.below.cell (p := ⟨g, (l.length + 0) * 4, none⟩) hgs).trans M0.out
      have m1 := (Hx.out.below.cell (p := ⟨g, (l.length + 1) * 4, none⟩) hgs).trans M1.out
      rw [Nat.add_zero] at m0
      have hc2 : l.length + 2 ≤ c := by omega
      have hwn : IntKind.i64.wrap ((l.length : Int) + 2) = l.length + 2 := by rw [IntKind.wrap_i64]; omega
      have hwn1 : IntKind.i64.wrap ((l.length : Int) + 1) = l.length + 1 := by rw [IntKind.wrap_i64]; omega
      have hi1 : (l.length : Int) < l.length + 2 := by omega
      have hi2 : (l.length : Int) + 1 < l.length + 2 := by omega
      clear hkl hkn
      go_wp2
      go_ret
      exact ⟨rfl, Hx.out.below⟩
end Go.Proofs.Ytgbjhkgbjnobcaa
