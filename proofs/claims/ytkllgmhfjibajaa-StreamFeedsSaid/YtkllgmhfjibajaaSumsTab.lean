/- The walks of octet's sums: step, sums, Extend, Sum. Conditions: the bytes are readable. -/
import Derived.Test.YtkllgmhfjibajaaMem
namespace Go.Proofs.Ytkllgmhfjibajaa
open Go.RowKit

/-- One step of the register. -/
def stepP (x : Int) : Int := if bits .and .u32 x 1 = 0 then x / 2 else bits .xor .u32 (x / 2) 2197175160
set_option maxRecDepth 100000 in
set_option maxHeartbeats 4000000 in
theorem step_any (x : Int) (w : World) : Calls Try.prog 76 #[.int .u32 x] w fun e w' => e = .returned (.int .u32 (stepP x)) ∧ w = w' := by
  have H := Lib.hid (show stepP x = if bits .and .u32 x 1 = 0 then x / 2 else bits .xor .u32 (x / 2) 2197175160 from rfl)
  by_cases h : bits .and .u32 x 1 = 0
  · rw [if_pos h] at H
    go_enter Try.func76, Try.ntmps76
    go_wp2
    go_ret
    exact ⟨by rw [H.out]; rfl, rfl⟩
  · rw [if_neg h] at H
    go_enter Try.func76, Try.ntmps76
    go_wp2
    go_ret
    exact ⟨by rw [H.out]; rfl, rfl⟩
def st4 (i : Int) : Int := stepP (stepP (stepP (stepP i)))
def iter (n : Nat) (x : Int) : Int := match n with | 0 => x | n + 1 => stepP (iter n x)
def tabI (k : Nat) : List Int := (List.range 16).map fun (i : Nat) => if i < k then iter 4 (i : Int) else 0
/-- The table, filled up to k. -/
def tabAt (k : Nat) : Array Value := ((tabI k).map (Value.int .u32)).toArray
theorem tabI_next (k : Nat) (hk : k < 16) : (tabI k).set k (iter 4 (k : Int)) = tabI (k + 1) := by
  have h : ∀ k : Fin 16, (tabI k.1).set k.1 (iter 4 (k.1 : Int)) = tabI (k.1 + 1) := by decide
  exact h ⟨k, hk⟩
theorem tab_next (k : Nat) (hk : k < 16) : (tabAt k).setIfInBounds k (.int .u32 (iter 4 (k : Int))) = tabAt (k + 1) := by
  unfold tabAt
  rw [← tabI_next k hk, List.map_set, List.setIfInBounds_toArray]
theorem tabI_length (k : Nat) : (tabI k).length = 16 := by simp [tabI]
theorem tab_size (k : Nat) : (tabAt k).size = 16 := by simp [tabAt, tabI_length]
structure SMs (w : World) (k : Nat) (wr : World) : Prop where
  below : Below w.heap.size w wr
  size : wr.heap.size = w.heap.size + 2
  res : Blk wr w.heap.size 94 (tabAt 0)
  tab : Blk wr (w.heap.size + 1) 94 (tabAt k)
theorem SMs.next {w wr : World} {k : Nat} (h : SMs w k wr) (hk : k < 16) : SMs w (k + 1) (wr.setCell ⟨w.heap.size + 1, k, none⟩ (.int .u32 (iter 4 (k : Int)))) := by
  have h1 := h.size
  refine ⟨h.below.setCell (by simp) _, by simpa using h1, h.res.far (by simp) _, ?_⟩
  rw [← tab_next k hk]
  exact h.tab.set_ k _
theorem zero16 : tabAt 0 = #[.int .u32 0, .int .u32 0, .int .u32 0, .int .u32 0, .int .u32 0, .int .u32 0, .int .u32 0, .int .u32 0, .int .u32 0, .int .u32 0, .int .u32 0, .int .u32 0, .int .u32 0, .int .u32 0, .int .u32 0, .int .u32 0] := rfl
theorem blk16 {w : World} {g : Nat} {t : TypeId} {c0 c1 c2 c3 c4 c5 c6 c7 c8 c9 c10 c11 c12 c13 c14 c15 : Value} (h : Blk w g t #[c0, c1, c2, c3, c4, c5, c6, c7, c8, c9, c10, c11, c12, c13, c14, c15]) (v0 v1 v2 v3 v4 v5 v6 v7 v8 v9 v10 v11 v12 v13 v14 v15 : Value) : Blk ((((((((((((((((w.setCell ⟨g, 0, none⟩ v0).setCell ⟨g, 1, none⟩ v1).setCell ⟨g, 2, none⟩ v2).setCell ⟨g, 3, none⟩ v3).setCell ⟨g, 4, none⟩ v4).setCell ⟨g, 5, none⟩ v5).setCell ⟨g, 6, none⟩ v6).setCell ⟨g, 7, none⟩ v7).setCell ⟨g, 8, none⟩ v8).setCell ⟨g, 9, none⟩ v9).setCell ⟨g, 10, none⟩ v10).setCell ⟨g, 11, none⟩ v11).setCell ⟨g, 12, none⟩ v12).setCell ⟨g, 13, none⟩ v13).setCell ⟨g, 14, none⟩ v14).setCell ⟨g, 15, none⟩ v15) g t #[v0, v1, v2, v3, v4, v5, v6, v7, v8, v9, v10, v11, v12, v13, v14, v15] := by
  have h0 : Blk (w.setCell ⟨g, 0, none⟩ v0) g t #[v0, c1, c2, c3, c4, c5, c6, c7, c8, c9, c10, c11, c12, c13, c14, c15] := by
    have := h.set_ 0 v0
    simpa using this
  have h1 : Blk ((w.setCell ⟨g, 0, none⟩ v0).setCell ⟨g, 1, none⟩ v1) g t #[v0, v1, c2, c3, c4, c5, c6, c7, c8, c9, c10, c11, c12, c13, c14, c15] := by
    have := h0.set_ 1 v1
    simpa using this
  have h2 : Blk (((w.setCell ⟨g, 0, none⟩ v0).setCell ⟨g, 1, none⟩ v1).setCell ⟨g, 2, none⟩ v2) g t #[v0, v1, v2, c3, c4, c5, c6, c7, c8, c9, c10, c11, c12, c13, c14, c15] := by
    have := h1.set_ 2 v2
    simpa using this
  have h3 : Blk ((((w.setCell ⟨g, 0, none⟩ v0).setCell ⟨g, 1, none⟩ v1).setCell ⟨g, 2, none⟩ v2).setCell ⟨g, 3, none⟩ v3) g t #[v0, v1, v2, v3, c4, c5, c6, c7, c8, c9, c10, c11, c12, c13, c14, c15] := by
    have := h2.set_ 3 v3
    simpa using this
  have h4 : Blk (((((w.setCell ⟨g, 0, none⟩ v0).setCell ⟨g, 1, none⟩ v1).setCell ⟨g, 2, none⟩ v2).setCell ⟨g, 3, none⟩ v3).setCell ⟨g, 4, none⟩ v4) g t #[v0, v1, v2, v3, v4, c5, c6, c7, c8, c9, c10, c11, c12, c13, c14, c15] := by
    have := h3.set_ 4 v4
    simpa using this
  have h5 : Blk ((((((w.setCell ⟨g, 0, none⟩ v0).setCell ⟨g, 1, none⟩ v1).setCell ⟨g, 2, none⟩ v2).setCell ⟨g, 3, none⟩ v3).setCell ⟨g, 4, none⟩ v4).setCell ⟨g, 5, none⟩ v5) g t #[v0, v1, v2, v3, v4, v5, c6, c7, c8, c9, c10, c11, c12, c13, c14, c15] := by
    have := h4.set_ 5 v5
    simpa using this
  have h6 : Blk (((((((w.setCell ⟨g, 0, none⟩ v0).setCell ⟨g, 1, none⟩ v1).setCell ⟨g, 2, none⟩ v2).setCell ⟨g, 3, none⟩ v3).setCell ⟨g, 4, none⟩ v4).setCell ⟨g, 5, none⟩ v5).setCell ⟨g, 6, none⟩ v6) g t #[v0, v1, v2, v3, v4, v5, v6, c7, c8, c9, c10, c11, c12, c13, c14, c15] := by
    have := h5.set_ 6 v6
    simpa using this
  have h7 : Blk ((((((((w.setCell ⟨g, 0, none⟩ v0).setCell ⟨g, 1, none⟩ v1).setCell ⟨g, 2, none⟩ v2).setCell ⟨g, 3, none⟩ v3).setCell ⟨g, 4, none⟩ v4).setCell ⟨g, 5, none⟩ v5).setCell ⟨g, 6, none⟩ v6).setCell ⟨g, 7, none⟩ v7) g t #[v0, v1, v2, v3, v4, v5, v6, v7, c8, c9, c10, c11, c12, c13, c14, c15] := by
    have := h6.set_ 7 v7
    simpa using this
  have h8 : Blk (((((((((w.setCell ⟨g, 0, none⟩ v0).setCell ⟨g, 1, none⟩ v1).setCell ⟨g, 2, none⟩ v2).setCell ⟨g, 3, none⟩ v3).setCell ⟨g, 4, none⟩ v4).setCell ⟨g, 5, none⟩ v5).setCell ⟨g, 6, none⟩ v6).setCell ⟨g, 7, none⟩ v7).setCell ⟨g, 8, none⟩ v8) g t #[v0, v1, v2, v3, v4, v5, v6, v7, v8, c9, c10, c11, c12, c13, c14, c15] := by
    have := h7.set_ 8 v8
    simpa using this
  have h9 : Blk ((((((((((w.setCell ⟨g, 0, none⟩ v0).setCell ⟨g, 1, none⟩ v1).setCell ⟨g, 2, none⟩ v2).setCell ⟨g, 3, none⟩ v3).setCell ⟨g, 4, none⟩ v4).setCell ⟨g, 5, none⟩ v5).setCell ⟨g, 6, none⟩ v6).setCell ⟨g, 7, none⟩ v7).setCell ⟨g, 8, none⟩ v8).setCell ⟨g, 9, none⟩ v9) g t #[v0, v1, v2, v3, v4, v5, v6, v7, v8, v9, c10, c11, c12, c13, c14, c15] := by
    have := h8.set_ 9 v9
    simpa using this
  have h10 : Blk (((((((((((w.setCell ⟨g, 0, none⟩ v0).setCell ⟨g, 1, none⟩ v1).setCell ⟨g, 2, none⟩ v2).setCell ⟨g, 3, none⟩ v3).setCell ⟨g, 4, none⟩ v4).setCell ⟨g, 5, none⟩ v5).setCell ⟨g, 6, none⟩ v6).setCell ⟨g, 7, none⟩ v7).setCell ⟨g, 8, none⟩ v8).setCell ⟨g, 9, none⟩ v9).setCell ⟨g, 10, none⟩ v10) g t #[v0, v1, v2, v3, v4, v5, v6, v7, v8, v9, v10, c11, c12, c13, c14, c15] := by
    have := h9.set_ 10 v10
    simpa using this
  have h11 : Blk ((((((((((((w.setCell ⟨g, 0, none⟩ v0).setCell ⟨g, 1, none⟩ v1).setCell ⟨g, 2, none⟩ v2).setCell ⟨g, 3, none⟩ v3).setCell ⟨g, 4, none⟩ v4).setCell ⟨g, 5, none⟩ v5).setCell ⟨g, 6, none⟩ v6).setCell ⟨g, 7, none⟩ v7).setCell ⟨g, 8, none⟩ v8).setCell ⟨g, 9, none⟩ v9).setCell ⟨g, 10, none⟩ v10).setCell ⟨g, 11, none⟩ v11) g t #[v0, v1, v2, v3, v4, v5, v6, v7, v8, v9, v10, v11, c12, c13, c14, c15] := by
    have := h10.set_ 11 v11
    simpa using this
  have h12 : Blk (((((((((((((w.setCell ⟨g, 0, none⟩ v0).setCell ⟨g, 1, none⟩ v1).setCell ⟨g, 2, none⟩ v2).setCell ⟨g, 3, none⟩ v3).setCell ⟨g, 4, none⟩ v4).setCell ⟨g, 5, none⟩ v5).setCell ⟨g, 6, none⟩ v6).setCell ⟨g, 7, none⟩ v7).setCell ⟨g, 8, none⟩ v8).setCell ⟨g, 9, none⟩ v9).setCell ⟨g, 10, none⟩ v10).setCell ⟨g, 11, none⟩ v11).setCell ⟨g, 12, none⟩ v12) g t #[v0, v1, v2, v3, v4, v5, v6, v7, v8, v9, v10, v11, v12, c13, c14, c15] := by
    have := h11.set_ 12 v12
    simpa using this
  have h13 : Blk ((((((((((((((w.setCell ⟨g, 0, none⟩ v0).setCell ⟨g, 1, none⟩ v1).setCell ⟨g, 2, none⟩ v2).setCell ⟨g, 3, none⟩ v3).setCell ⟨g, 4, none⟩ v4).setCell ⟨g, 5, none⟩ v5).setCell ⟨g, 6, none⟩ v6).setCell ⟨g, 7, none⟩ v7).setCell ⟨g, 8, none⟩ v8).setCell ⟨g, 9, none⟩ v9).setCell ⟨g, 10, none⟩ v10).setCell ⟨g, 11, none⟩ v11).setCell ⟨g, 12, none⟩ v12).setCell ⟨g, 13, none⟩ v13) g t #[v0, v1, v2, v3, v4, v5, v6, v7, v8, v9, v10, v11, v12, v13, c14, c15] := by
    have := h12.set_ 13 v13
    simpa using this
  have h14 : Blk (((((((((((((((w.setCell ⟨g, 0, none⟩ v0).setCell ⟨g, 1, none⟩ v1).setCell ⟨g, 2, none⟩ v2).setCell ⟨g, 3, none⟩ v3).setCell ⟨g, 4, none⟩ v4).setCell ⟨g, 5, none⟩ v5).setCell ⟨g, 6, none⟩ v6).setCell ⟨g, 7, none⟩ v7).setCell ⟨g, 8, none⟩ v8).setCell ⟨g, 9, none⟩ v9).setCell ⟨g, 10, none⟩ v10).setCell ⟨g, 11, none⟩ v11).setCell ⟨g, 12, none⟩ v12).setCell ⟨g, 13, none⟩ v13).setCell ⟨g, 14, none⟩ v14) g t #[v0, v1, v2, v3, v4, v5, v6, v7, v8, v9, v10, v11, v12, v13, v14, c15] := by
    have := h13.set_ 14 v14
    simpa using this
  have h15 : Blk ((((((((((((((((w.setCell ⟨g, 0, none⟩ v0).setCell ⟨g, 1, none⟩ v1).setCell ⟨g, 2, none⟩ v2).setCell ⟨g, 3, none⟩ v3).setCell ⟨g, 4, none⟩ v4).setCell ⟨g, 5, none⟩ v5).setCell ⟨g, 6, none⟩ v6).setCell ⟨g, 7, none⟩ v7).setCell ⟨g, 8, none⟩ v8).setCell ⟨g, 9, none⟩ v9).setCell ⟨g, 10, none⟩ v10).setCell ⟨g, 11, none⟩ v11).setCell ⟨g, 12, none⟩ v12).setCell ⟨g, 13, none⟩ v13).setCell ⟨g, 14, none⟩ v14).setCell ⟨g, 15, none⟩ v15) g t #[v0, v1, v2, v3, v4, v5, v6, v7, v8, v9, v10, v11, v12, v13, v14, v15] := by
    have := h14.set_ 15 v15
    simpa using this
  exact h15
theorem res60 (g : Nat) (tmps : Array Value) (W : World) (h0 : tmps[0]?.getD undef = .pointer (some ⟨g, 0, none⟩)) (hB : Blk W g 94 #[.int .u32 0, .int .u32 274646895, .int .u32 549293790, .int .u32 820201905, .int .u32 1098587580, .int .u32 1361435347, .int .u32 1640403810, .int .u32 1905808397, .int .u32 2197175160, .int .u32 2460548119, .int .u32 2722870694, .int .u32 2987750089, .int .u32 3280807620, .int .u32 3553878443, .int .u32 3811616794, .int .u32 4084100981]) : (results Try.f60 tmps).run Try.prog W = .ok (.agg (tabAt 16)) W := by
  have s0 : W.cell? ⟨g, 0, none⟩ = some (.int .u32 0) := (hB.cell 0).trans rfl
  have s1 : W.cell? ⟨g, 1, none⟩ = some (.int .u32 274646895) := (hB.cell 1).trans rfl
  have s2 : W.cell? ⟨g, 2, none⟩ = some (.int .u32 549293790) := (hB.cell 2).trans rfl
  have s3 : W.cell? ⟨g, 3, none⟩ = some (.int .u32 820201905) := (hB.cell 3).trans rfl
  have s4 : W.cell? ⟨g, 4, none⟩ = some (.int .u32 1098587580) := (hB.cell 4).trans rfl
  have s5 : W.cell? ⟨g, 5, none⟩ = some (.int .u32 1361435347) := (hB.cell 5).trans rfl
  have s6 : W.cell? ⟨g, 6, none⟩ = some (.int .u32 1640403810) := (hB.cell 6).trans rfl
  have s7 : W.cell? ⟨g, 7, none⟩ = some (.int .u32 1905808397) := (hB.cell 7).trans rfl
  have s8 : W.cell? ⟨g, 8, none⟩ = some (.int .u32 2197175160) := (hB.cell 8).trans rfl
  have s9 : W.cell? ⟨g, 9, none⟩ = some (.int .u32 2460548119) := (hB.cell 9).trans rfl
  have s10 : W.cell? ⟨g, 10, none⟩ = some (.int .u32 2722870694) := (hB.cell 10).trans rfl
  have s11 : W.cell? ⟨g, 11, none⟩ = some (.int .u32 2987750089) := (hB.cell 11).trans rfl
  have s12 : W.cell? ⟨g, 12, none⟩ = some (.int .u32 3280807620) := (hB.cell 12).trans rfl
  have s13 : W.cell? ⟨g, 13, none⟩ = some (.int .u32 3553878443) := (hB.cell 13).trans rfl
  have s14 : W.cell? ⟨g, 14, none⟩ = some (.int .u32 3811616794) := (hB.cell 14).trans rfl
  have s15 : W.cell? ⟨g, 15, none⟩ = some (.int .u32 4084100981) := (hB.cell 15).trans rfl
  have e : tabAt 16 = #[.int .u32 0, .int .u32 274646895, .int .u32 549293790, .int .u32 820201905, .int .u32 1098587580, .int .u32 1361435347, .int .u32 1640403810, .int .u32 1905808397, .int .u32 2197175160, .int .u32 2460548119, .int .u32 2722870694, .int .u32 2987750089, .int .u32 3280807620, .int .u32 3553878443, .int .u32 3811616794, .int .u32 4084100981] := rfl
  rw [e]
  clear hB
  simp [results, Try.results60, go_sem, h0, s0, s1, s2, s3, s4, s5, s6, s7, s8, s9, s10, s11, s12, s13, s14, s15]
end Go.Proofs.Ytkllgmhfjibajaa
