/- The walks of octet's sums: the table, Extend, Sum. Conditions: the bytes are readable. -/
import Derived.Test.YtkllgmhfjibajaaSumsTab
namespace Go.Proofs.Ytkllgmhfjibajaa
open Go.RowKit

theorem below16 {B g : Nat} {w0 w : World} (hb : Below B w0 w) (hg : B ≤ g) (v0 v1 v2 v3 v4 v5 v6 v7 v8 v9 v10 v11 v12 v13 v14 v15 : Value) : Below B w0 ((((((((((((((((w.setCell ⟨g, 0, none⟩ v0).setCell ⟨g, 1, none⟩ v1).setCell ⟨g, 2, none⟩ v2).setCell ⟨g, 3, none⟩ v3).setCell ⟨g, 4, none⟩ v4).setCell ⟨g, 5, none⟩ v5).setCell ⟨g, 6, none⟩ v6).setCell ⟨g, 7, none⟩ v7).setCell ⟨g, 8, none⟩ v8).setCell ⟨g, 9, none⟩ v9).setCell ⟨g, 10, none⟩ v10).setCell ⟨g, 11, none⟩ v11).setCell ⟨g, 12, none⟩ v12).setCell ⟨g, 13, none⟩ v13).setCell ⟨g, 14, none⟩ v14).setCell ⟨g, 15, none⟩ v15) :=
  (Below.setCell (Below.setCell (Below.setCell (Below.setCell (Below.setCell (Below.setCell (Below.setCell (Below.setCell (Below.setCell (Below.setCell (Below.setCell (Below.setCell (Below.setCell (Below.setCell (Below.setCell (Below.setCell hb hg v0) hg v1) hg v2) hg v3) hg v4) hg v5) hg v6) hg v7) hg v8) hg v9) hg v10) hg v11) hg v12) hg v13) hg v14) hg v15)
set_option maxRecDepth 100000 in
set_option maxHeartbeats 4000000 in
theorem sums_any (w : World) : Calls Try.prog 60 #[] w fun e w' => e = .returned (.agg (tabAt 16)) ∧ Below w.heap.size w w' := by
  go_enter Try.func60, Try.ntmps60
  go_wp2
  go_loopg [4] 16 (fun g i wr => ∃ k : Nat, g + k = 16 ∧ i = .int .i64 (k : Nat) ∧ SMs w k wr)
  case atStart =>
    have h1 : Blk ((w.alloc (.cells (tabAt 0) 94)).alloc (.cells (tabAt 0) 94)) (w.heap.size + 1) 94 (tabAt 0) := by
      have := Blk.new (w.alloc (.cells (tabAt 0) 94)) 94 (tabAt 0)
      simpa using this
    exact ⟨0, rfl, rfl, ⟨((Below.refl _ _).alloc (Nat.le_refl _) _).alloc (by simp) _, by simp, (Blk.new w 94 (tabAt 0)).alloc _, h1⟩⟩
  case round =>
    obtain ⟨k, hk, rfl, hS⟩ := hrel
    have Hk := Lib.hid hk
    by_cases hlt : k < 16
    · have hki : (k : Int) < 16 := by omega
      have hnk : ¬ (k : Int) < 0 := by omega
      clear hk
      go_wp2
      go_loopg [9, 3] 4 (fun g j x wx => ∃ m : Nat, g + m = 4 ∧ j = .int .i64 (m : Nat) ∧ x = .int .u32 (iter m (k : Int)) ∧ wr = wx)
      case atStart => exact ⟨0, rfl, rfl, rfl, rfl⟩
      case round =>
        obtain ⟨m, hm, rfl, rfl, rfl⟩ := hrel
        have Hm := Lib.hid hm
        by_cases hm4 : m < 4
        · have hmi : (m : Int) < 4 := by omega
          clear hm
          go_wp2_with (go_at_call 76; refine (step_any _ _).mono ?_; rintro e w1 ⟨rfl, rfl⟩)
          have hm := Hm.out
          go_roundg (3 - m)
          case measure => omega
          case rel => exact ⟨m + 1, by omega, by go_num, rfl, rfl⟩
        · have hmi : ¬ (m : Int) < 4 := by omega
          obtain rfl : m = 4 := by omega
          obtain ⟨x, hx⟩ : ∃ x, x = iter 4 (k : Int) := ⟨_, rfl⟩
          rw [← hx]
          have hn := hS.next hlt
          rw [← hx] at hn
          have Hx := Lib.hid hx
          have hsz := tab_size k
          have hfz := hS.tab.frozen k
          have hcl : (tabAt k)[k]? = some (tabAt k)[k] := Array.getElem?_eq_getElem (by omega)
          have hcc := (hS.tab.cell k).trans hcl
          have Hs := Lib.hid hsz
          clear hx hm hsz hcl
          go_wp2
          go_roundg (15 - k)
          case measure => have := Hk.out; omega
          case rel => exact ⟨k + 1, by have := Hk.out; omega, by go_num, hn⟩
    · have hki : ¬ (k : Int) < 16 := by omega
      obtain rfl : k = 16 := by omega
      have hb := hS.below
      have hsz := hS.size
      have hT := hS.tab
      have hR := hS.res
      have Hsz := Lib.hid hsz
      have hfz := hR.frozen
      have c0 : wr.cell? ⟨w.heap.size + 1, 0, none⟩ = some (.int .u32 0) := (hT.cell 0).trans rfl
      have d0 : wr.cell? ⟨w.heap.size, 0, none⟩ = some (.int .u32 0) := (hR.cell 0).trans rfl
      have c1 : wr.cell? ⟨w.heap.size + 1, 1, none⟩ = some (.int .u32 274646895) := (hT.cell 1).trans rfl
      have d1 : wr.cell? ⟨w.heap.size, 1, none⟩ = some (.int .u32 0) := (hR.cell 1).trans rfl
      have c2 : wr.cell? ⟨w.heap.size + 1, 2, none⟩ = some (.int .u32 549293790) := (hT.cell 2).trans rfl
      have d2 : wr.cell? ⟨w.heap.size, 2, none⟩ = some (.int .u32 0) := (hR.cell 2).trans rfl
      have c3 : wr.cell? ⟨w.heap.size + 1, 3, none⟩ = some (.int .u32 820201905) := (hT.cell 3).trans rfl
      have d3 : wr.cell? ⟨w.heap.size, 3, none⟩ = some (.int .u32 0) := (hR.cell 3).trans rfl
      have c4 : wr.cell? ⟨w.heap.size + 1, 4, none⟩ = some (.int .u32 1098587580) := (hT.cell 4).trans rfl
      have d4 : wr.cell? ⟨w.heap.size, 4, none⟩ = some (.int .u32 0) := (hR.cell 4).trans rfl
      have c5 : wr.cell? ⟨w.heap.size + 1, 5, none⟩ = some (.int .u32 1361435347) := (hT.cell 5).trans rfl
      have d5 : wr.cell? ⟨w.heap.size, 5, none⟩ = some (.int .u32 0) := (hR.cell 5).trans rfl
      have c6 : wr.cell? ⟨w.heap.size + 1, 6, none⟩ = some (.int .u32 1640403810) := (hT.cell 6).trans rfl
      have d6 : wr.cell? ⟨w.heap.size, 6, none⟩ = some (.int .u32 0) := (hR.cell 6).trans rfl
      have c7 : wr.cell? ⟨w.heap.size + 1, 7, none⟩ = some (.int .u32 1905808397) := (hT.cell 7).trans rfl
      have d7 : wr.cell? ⟨w.heap.size, 7, none⟩ = some (.int .u32 0) := (hR.cell 7).trans rfl
      have c8 : wr.cell? ⟨w.heap.size + 1, 8, none⟩ = some (.int .u32 2197175160) := (hT.cell 8).trans rfl
      have d8 : wr.cell? ⟨w.heap.size, 8, none⟩ = some (.int .u32 0) := (hR.cell 8).trans rfl
      have c9 : wr.cell? ⟨w.heap.size + 1, 9, none⟩ = some (.int .u32 2460548119) := (hT.cell 9).trans rfl
      have d9 : wr.cell? ⟨w.heap.size, 9, none⟩ = some (.int .u32 0) := (hR.cell 9).trans rfl
      have c10 : wr.cell? ⟨w.heap.size + 1, 10, none⟩ = some (.int .u32 2722870694) := (hT.cell 10).trans rfl
      have d10 : wr.cell? ⟨w.heap.size, 10, none⟩ = some (.int .u32 0) := (hR.cell 10).trans rfl
      have c11 : wr.cell? ⟨w.heap.size + 1, 11, none⟩ = some (.int .u32 2987750089) := (hT.cell 11).trans rfl
      have d11 : wr.cell? ⟨w.heap.size, 11, none⟩ = some (.int .u32 0) := (hR.cell 11).trans rfl
      have c12 : wr.cell? ⟨w.heap.size + 1, 12, none⟩ = some (.int .u32 3280807620) := (hT.cell 12).trans rfl
      have d12 : wr.cell? ⟨w.heap.size, 12, none⟩ = some (.int .u32 0) := (hR.cell 12).trans rfl
      have c13 : wr.cell? ⟨w.heap.size + 1, 13, none⟩ = some (.int .u32 3553878443) := (hT.cell 13).trans rfl
      have d13 : wr.cell? ⟨w.heap.size, 13, none⟩ = some (.int .u32 0) := (hR.cell 13).trans rfl
      have c14 : wr.cell? ⟨w.heap.size + 1, 14, none⟩ = some (.int .u32 3811616794) := (hT.cell 14).trans rfl
      have d14 : wr.cell? ⟨w.heap.size, 14, none⟩ = some (.int .u32 0) := (hR.cell 14).trans rfl
      have c15 : wr.cell? ⟨w.heap.size + 1, 15, none⟩ = some (.int .u32 4084100981) := (hT.cell 15).trans rfl
      have d15 : wr.cell? ⟨w.heap.size, 15, none⟩ = some (.int .u32 0) := (hR.cell 15).trans rfl
      clear hT hS Hk hk hsz
      have HR := Lib.hid hR
      clear hR
      go_wp2
      refine bodyPost_ret (res60 w.heap.size _ _ rfl ?_) rfl ⟨rfl, ?_⟩
      · have hz : Blk wr w.heap.size 94 _ := HR.out
        rw [zero16] at hz
        exact blk16 hz _ _ _ _ _ _ _ _ _ _ _ _ _ _ _ _
      · exact below16 hb (Nat.le_refl _) _ _ _ _ _ _ _ _ _ _ _ _ _ _ _ _
end Go.Proofs.Ytkllgmhfjibajaa
