/- The walk of the law's sameRecords, where both lists are one. Conditions: both are readable. -/
import Derived.Test.YtmcahimapoddfaaSlices
namespace Go.Proofs.Ytmcahimapoddfaa
open Go.RowKit Go.Maps

theorem guard32 : Try.prog.eqGuardType Try.prog.depth 32 = false := by kernel_rfl
theorem neq32 (r : Rc) (w : World) : Sem.run Try.prog (binOp .neq 32 (.agg #[.int .i64 r.kind, .int .i64 r.off, .int .i64 r.tim, .int .i64 r.pid, .int .i64 r.seq, .string r.key, .string r.val]) (.agg #[.int .i64 r.kind, .int .i64 r.off, .int .i64 r.tim, .int .i64 r.pid, .int .i64 r.seq, .string r.key, .string r.val])) w = .ok (.bool false) w := by
  have u2 := Try.underlying2
  have a2 := Try.isAgg2
  have z2 := Try.sizeOf2
  have u3 := Try.underlying3
  have a3 := Try.isAgg3
  have z3 := Try.sizeOf3
  have u9 := Try.underlying9
  have a9 := Try.isAgg9
  have z9 := Try.sizeOf9
  have hS : Try.prog.underlying 32 = some (.struct (Try.prog.fieldsOf 32)) := by kernel_rfl
  have hp : Try.prog.stoodInHeld 32 = false := by kernel_rfl
  rw [run_neq_struct, show (10000 : Nat) = 9999 + 1 from rfl, run_equalIn_agg w 9999 32 _ _ hS hp]
  simp only [Program.fieldsOf, Try.underlying32]
  go_simp

set_option maxRecDepth 100000 in
set_option maxHeartbeats 4000000 in
theorem sameRecs_any (v u : Value) (rs : List Rc) (w : World) (hv : RS w v rs) (hu : RS w u rs) : Calls Try.prog 14 #[v, u] w fun e w' => e = .returned (.bool true) ∧ Below w.heap.size w w' := by
  obtain ⟨A1, c1, rfl, h1, h2, hn1, hp⟩ := hv
  obtain ⟨A2, c2, rfl, k1, k2, hn2, hq⟩ := hu
  unfold maxLen at h2 k2
  have Hp := Lib.hid hp
  have Hq := Lib.hid hq
  clear hp hq hn1 hn2
  have hli : ((rs.length : Int) != rs.length) = false := by simp
  go_enter Try.func14, Try.ntmps14
  go_wp2
  go_loopg [5] rs.length (fun g i wr => ∃ k n : Nat, g + k = rs.length ∧ i = .int .i64 (k : Nat) ∧ w.drewN n = wr)
  case atStart => exact ⟨0, 0, by omega, rfl, rfl⟩
  case round =>
    obtain ⟨k, n, hk, rfl, hwr⟩ := hrel
    have hcw : ∀ a, wr.cell? a = w.cell? a := fun a => by rw [← hwr]; rfl
    have Hwr := Lib.hid hwr
    have Hk := Lib.hid hk
    have hkn : k ≤ rs.length := by omega
    clear hwr hk
    by_cases hkl : k < rs.length
    · have hki : (k : Int) < rs.length := by omega
      obtain ⟨b1, o1, he1, _, hr1⟩ := Hp.out (by omega)
      obtain ⟨b2, o2, he2, _, hr2⟩ := Hq.out (by omega)
      subst he1
      subst he2
      obtain ⟨r, hr⟩ : ∃ r, rs[k]? = some r := ⟨_, List.getElem?_eq_getElem hkl⟩
      obtain ⟨x0, x1, x2, x3, x4, x5, x6⟩ := hr1 k r hr
      obtain ⟨y0, y1, y2, y3, y4, y5, y6⟩ := hr2 k r hr
      rw [← hcw] at x0 x1 x2 x3 x4 x5 x6 y0 y1 y2 y3 y4 y5 y6
      have hne := fun W => neq32 r W
      have hgd := guard32
      clear hcw hr1 hr2 hr
      go_upto_region 6 with fail
      go_cut [25] (fun v wx => v = .bool false ∧ ∃ j, wr.drewN j = wx)
      case first =>
        go_quiet (fail)
        go_wp2
        go_meet
        case rel => exact ⟨rfl, _, rfl⟩
      case rest =>
        obtain ⟨rfl, j, rfl⟩ := hcut
        clear x0 x1 x2 x3 x4 x5 x6 y0 y1 y2 y3 y4 y5 y6 hne hgd
        go_wp2
        have hk := Hk.out
        go_roundg (gk - 1)
        case measure => omega
        case rel => exact ⟨k + 1, n + j, by omega, by go_num, by rw [← Hwr.out, World.drewN_drewN]⟩
    · have hki : ¬ (k : Int) < rs.length := by omega
      clear hcw
      go_wp2
      go_ret
      exact ⟨rfl, by rw [← Hwr.out]; exact below_drewN (Below.refl _ _) n⟩
end Go.Proofs.Ytmcahimapoddfaa
