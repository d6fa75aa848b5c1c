/- The walk of 'sched.Class': it computes 'Cls.served' and 'Cls.wait'. Conditions: none. -/
import Derived.Test.YtgbjhkgbjnobcaaRows
import Derived.Test.YtgbjhkgbjnobcaaClassPlain
import Derived.WalkKit
import Derived.WalkSpells
import Derived.WalkLawsBesides
import Derived.Deep.QuietTactic
import Derived.BigQuiet
import Derived.Lib.Hide
import Derived.Deep.LoopGhost
namespace Go.Proofs.Ytgbjhkgbjnobcaa
open Go.RowKit

/-- Block g is just the cells cs of element type t, none frozen. -/
def Blk (w : World) (g : Nat) (t : TypeId) (cs : Array Value) : Prop := w.heap[g]? = some (.cells cs t (0, 0))
section
variable {w w' : World} {g : Nat} {t : TypeId} {cs : Array Value}
theorem Blk.lt (h : Blk w g t cs) : g < w.heap.size := by
  rcases Nat.lt_or_ge g w.heap.size with hlt | hge
  · exact hlt
  · unfold Blk at h; rw [Array.getElem?_eq_none hge] at h; cases h
theorem Blk.cell (h : Blk w g t cs) (i : Nat) : w.cell? ⟨g, i, none⟩ = cs[i]? := cell_of_row w g i cs t (0, 0) h
theorem Blk.frozen (h : Blk w g t cs) (i : Nat) : w.frozen? ⟨g, i, none⟩ = false := by
  unfold Blk at h
  simp [World.frozen?, h]
theorem Blk.new (w : World) (t : TypeId) (cs : Array Value) : Blk (w.alloc (.cells cs t)) w.heap.size t cs := heap_alloc_new w _
theorem Blk.drew (h : Blk w g t cs) : Blk w.drew g t cs := h
theorem Blk.drewN (h : Blk w g t cs) (n : Nat) : Blk (w.drewN n) g t cs := h
theorem Blk.alloc (h : Blk w g t cs) (o : Obj) : Blk (w.alloc o) g t cs := (Below.heap_alloc w o g h.lt).trans h
theorem Blk.set_ (h : Blk w g t cs) (i : Nat) (u : Value) : Blk (w.setCell ⟨g, i, none⟩ u) g t (cs.setIfInBounds i u) := by
  unfold Blk at h ⊢
  simp [World.setCell, Array.getElem?_modify, h]
theorem Blk.far (h : Blk w g t cs) {p : Addr} (hp : g ≠ p.block) (u : Value) : Blk (w.setCell p u) g t cs := (Below.heap_setCell w p u g hp).trans h
theorem Blk.below {B : Nat} (h : Blk w g t cs) (hb : Below B w w') (hg : g < B) : Blk w' g t cs := (hb.block g hg).trans h
theorem Blk.grown {row : Option Nat} (h : Blk w g t cs) (hb : w.grownBy w' row) (hg : some g ≠ row) : Blk w' g t cs := (hb.block g h.lt hg).trans h
theorem Blk.four {a b c d : Value} (h : Blk w g t #[a, b, c, d]) :
    w.cell? ⟨g, 0, none⟩ = some a ∧ w.cell? ⟨g, 1, none⟩ = some b ∧ w.cell? ⟨g, 2, none⟩ = some c ∧ w.cell? ⟨g, 3, none⟩ = some d ∧
    w.frozen? ⟨g, 0, none⟩ = false ∧ w.frozen? ⟨g, 1, none⟩ = false ∧ w.frozen? ⟨g, 2, none⟩ = false ∧ w.frozen? ⟨g, 3, none⟩ = false :=
  ⟨h.cell 0, h.cell 1, h.cell 2, h.cell 3, h.frozen 0, h.frozen 1, h.frozen 2, h.frozen 3⟩
end

theorem run_max_mx {P : Program} (w : World) (ts : Array TypeId) (t : TypeId) (k k' : IntKind) (x y : Int) : (Builtin.max_ ts t #[.int k x, .int k' y]).run P w = .ok (.int k (Cls.mx x y)) w := by
  simp [Builtin.max_, Builtin.max2, Cls.mx]
theorem run_min_mn {P : Program} (w : World) (ts : Array TypeId) (t : TypeId) (k k' : IntKind) (x y : Int) : (Builtin.min_ ts t #[.int k x, .int k' y]).run P w = .ok (.int k (Cls.mn x y)) w := by
  simp [Builtin.min_, Builtin.min2, Cls.mn]
attribute [local go_sem high] run_max_mx run_min_mn

/-- Count j behind k rounds of the first loop. -/
def cw (c : Nat → Int) (k j : Nat) : Int := if j < k then Cls.cl (c j) else c j
/-- Four counts as cells. -/
def c4 (f : Nat → Int) : Array Value := #[.int .i64 (f 0), .int .i64 (f 1), .int .i64 (f 2), .int .i64 (f 3)]
theorem c4_at (f : Nat → Int) {j : Nat} (hj : j < 4) : (c4 f)[j]? = some (.int .i64 (f j)) := by
  match j, hj with
  | 0, _ => rfl
  | 1, _ => rfl
  | 2, _ => rfl
  | 3, _ => rfl
theorem c4_set (f : Nat → Int) {k : Nat} (hk : k < 4) (v : Int) : (c4 f).setIfInBounds k (.int .i64 v) = c4 (fun j => if j = k then v else f j) := by
  match k, hk with
  | 0, _ => rfl
  | 1, _ => rfl
  | 2, _ => rfl
  | 3, _ => rfl
theorem cw_next (c : Nat → Int) (k : Nat) : (fun j => if j = k then Cls.cl (c k) else cw c k j) = cw c (k + 1) := by
  funext j
  unfold cw
  by_cases h : j = k
  · subst h; simp
  · rw [if_neg h]
    by_cases h2 : j < k
    · rw [if_pos h2, if_pos (by omega)]
    · rw [if_neg h2, if_neg (by omega)]
theorem index_work (wk : Nat → Bool) {k : Nat} (hk : k < 4) (w : World) :
    (Instr.index 25 (.agg #[.bool (wk 0), .bool (wk 1), .bool (wk 2), .bool (wk 3)]) (.int .i64 (k : Int))).run Try.prog w = .ok (.bool (wk k)) w := by
  have h0 : (Instr.index 25 (.agg #[.bool (wk 0), .bool (wk 1), .bool (wk 2), .bool (wk 3)]) (.int .i64 0)).run Try.prog w = .ok (.bool (wk 0)) w := by kernel_rfl
  have h1 : (Instr.index 25 (.agg #[.bool (wk 0), .bool (wk 1), .bool (wk 2), .bool (wk 3)]) (.int .i64 1)).run Try.prog w = .ok (.bool (wk 1)) w := by kernel_rfl
  have h2 : (Instr.index 25 (.agg #[.bool (wk 0), .bool (wk 1), .bool (wk 2), .bool (wk 3)]) (.int .i64 2)).run Try.prog w = .ok (.bool (wk 2)) w := by kernel_rfl
  have h3 : (Instr.index 25 (.agg #[.bool (wk 0), .bool (wk 1), .bool (wk 2), .bool (wk 3)]) (.int .i64 3)).run Try.prog w = .ok (.bool (wk 3)) w := by kernel_rfl
  match k, hk with
  | 0, _ => exact h0
  | 1, _ => exact h1
  | 2, _ => exact h2
  | 3, _ => exact h3
theorem b4_at (f : Nat → Bool) {j : Nat} (hj : j < 4) : (#[.bool (f 0), .bool (f 1), .bool (f 2), .bool (f 3)] : Array Value)[j]? = some (.bool (f j)) := by
  match j, hj with
  | 0, _ => rfl
  | 1, _ => rfl
  | 2, _ => rfl
  | 3, _ => rfl
/-- Count j behind k rounds of the last loop. -/
def cx (c : Nat → Int) (wk : Nat → Bool) (s : Int) (k j : Nat) : Int := if j < k then Cls.wait c wk s j else cw c 4 j
theorem cx_next (c : Nat → Int) (wk : Nat → Bool) (s : Int) (k : Nat) : (fun j => if j = k then Cls.wait c wk s k else cx c wk s k j) = cx c wk s (k + 1) := by
  funext j
  unfold cx
  by_cases h : j = k
  · subst h; simp
  · rw [if_neg h]
    by_cases h2 : j < k
    · rw [if_pos h2, if_pos (by omega)]
    · rw [if_neg h2, if_neg (by omega)]
/-- The memory of Class: its own copies of the counts and of the work, the result's place. -/
structure ClMem (w : World) (cs : Array Value) (wk : Nat → Bool) (wr : World) : Prop where
  counts : Blk wr w.heap.size 24 cs
  work : Blk wr (w.heap.size + 1) 25 #[.bool (wk 0), .bool (wk 1), .bool (wk 2), .bool (wk 3)]
  res : Blk wr (w.heap.size + 1 + 1) 24 #[.int .i64 0, .int .i64 0, .int .i64 0, .int .i64 0]
  below : Below w.heap.size w wr

theorem ClMem.start (w : World) (cs : Array Value) (wk : Nat → Bool) :
    ClMem w cs wk (((w.alloc (.cells cs 24)).alloc (.cells #[.bool (wk 0), .bool (wk 1), .bool (wk 2), .bool (wk 3)] 25)).alloc (.cells #[.int .i64 0, .int .i64 0, .int .i64 0, .int .i64 0] 24)) := by
  refine ⟨((Blk.new _ _ _).alloc _).alloc _, ?_, ?_, (((Below.refl _ _).alloc (Nat.le_refl _) _).alloc (by simp) _).alloc (by simp; omega) _⟩
  · have h := (Blk.new (w.alloc (.cells cs 24)) 25 #[.bool (wk 0), .bool (wk 1), .bool (wk 2), .bool (wk 3)]).alloc (.cells #[.int .i64 0, .int .i64 0, .int .i64 0, .int .i64 0] 24)
    simpa using h
  · have h := Blk.new ((w.alloc (.cells cs 24)).alloc (.cells #[.bool (wk 0), .bool (wk 1), .bool (wk 2), .bool (wk 3)] 25)) 24 #[.int .i64 0, .int .i64 0, .int .i64 0, .int .i64 0]
    simpa using h
theorem ClMem.set_ {w wr : World} {cs : Array Value} {wk : Nat → Bool} (h : ClMem w cs wk wr) (i : Nat) (u : Value) : ClMem w (cs.setIfInBounds i u) wk (wr.setCell ⟨w.heap.size, i, none⟩ u) :=
  ⟨h.counts.set_ i u, h.work.far (by simp) u, h.res.far (by simp; omega) u, h.below.setCell (Nat.le_refl _) u⟩
theorem ClMem.drewN {w wr : World} {cs : Array Value} {wk : Nat → Bool} (h : ClMem w cs wk wr) (n : Nat) : ClMem w cs wk (wr.drewN n) :=
  ⟨h.counts, h.work, h.res, below_drewN h.below n⟩

set_option maxHeartbeats 2000000 in
theorem class_any (c : Nat → Int) (wk : Nat → Bool) (pick : Int) (w : World) :
    Calls Try.prog 10 #[.agg (c4 c), .agg #[.bool (wk 0), .bool (wk 1), .bool (wk 2), .bool (wk 3)], .int .i64 pick] w fun e w' =>
      e = .returned (.tuple #[.agg (c4 (Cls.wait c wk (Cls.served c wk pick))), .int .i64 (Cls.served c wk pick)]) ∧ Below w.heap.size w w' := by
  unfold c4
  go_enter Try.func10, Try.ntmps10
  go_wp2
  go_loopw [8, 17] (fun s i wr => ∃ k : Nat, k ≤ 4 ∧ i = .int .i64 k ∧ s = .int .i64 (Cls.best c wk k) ∧ ClMem w (c4 (cw c k)) wk wr) (fun _ i _ => 4 - (intOf i).toNat)
  case atStart => exact ⟨0, by omega, rfl, rfl, ClMem.start w _ wk⟩
  case round =>
    obtain ⟨k, hk, rfl, rfl, hm⟩ := hrel
    by_cases hlt : k < 4
    · have hi : (k : Int) < 4 := by omega
      have hix := index_work wk hlt
      have hck : wr.cell? ⟨w.heap.size, k, none⟩ = some (.int .i64 (c k)) := by
        rw [hm.counts.cell, c4_at _ hlt]; simp [cw]
      have hfk := hm.counts.frozen k
      have hb := Cls.best_bd c wk k
      go_wp2
      have hm2 := hm.set_ k (.int .i64 (Cls.cl (c k)))
      rw [c4_set _ hlt, cw_next] at hm2
      have ecl : Cls.mn (Cls.mx (c k) 0) 16 = Cls.cl (c k) := rfl
      rw [ecl]
      clear hm hck hfk hix ecl
      generalize wr.setCell ⟨w.heap.size, k, none⟩ (.int .i64 (Cls.cl (c k))) = w2 at *
      have hck := hm2.counts.cell k
      rw [c4_at _ hlt] at hck
      simp only [cw, Nat.lt_succ_self, if_true] at hck
      have hbc : 0 ≤ Cls.best c wk k → w2.cell? ⟨w.heap.size, (Cls.best c wk k).toNat, none⟩ = some (.int .i64 (Cls.cl (c (Cls.best c wk k).toNat))) := fun h0 => by
        rw [hm2.counts.cell, c4_at _ (by omega), cw, if_pos (by omega)]
      have Hm := Lib.hid hm2
      clear hm2
      cases hwk : wk k
      · go_quiet (fail)
        go_wp2
        go_roundw
        case rel => exact ⟨k + 1, by omega, by go_num, by simp [Cls.best, Cls.takes, hwk], Hm.out.drewN _⟩
        case measure => simp [intOf]; omega
      · by_cases h13 : 13 ≤ Cls.cl (c k)
        · by_cases hb0 : Cls.best c wk k < 0
          · go_quiet (fail)
            go_wp2
            go_roundw
            case rel => exact ⟨k + 1, by omega, by go_num, by simp [Cls.best, Cls.takes, hwk, h13, hb0], Hm.out.drewN _⟩
            case measure => simp [intOf]; omega
          · have hb1 : 0 ≤ Cls.best c wk k := by omega
            have hbc := hbc hb1
            have hb2 := hb.2
            go_quiet (fail)
            go_wp2
            · exact ⟨⟨k + 1, by omega, by go_num, by simp [Cls.best, Cls.takes, *], Hm.out.drewN _⟩, by simp [intOf]; omega⟩
            · exact ⟨⟨k + 1, by omega, by go_num, by simp [Cls.best, Cls.takes, hwk, h13, Int.not_lt.2 ‹Cls.cl (c k) ≤ _›, hb0], Hm.out.drewN _⟩, by simp [intOf]; omega⟩
        · go_quiet (fail)
          go_wp2
          go_roundw
          case rel => exact ⟨k + 1, by omega, by go_num, by simp [Cls.best, Cls.takes, hwk, h13], Hm.out.drewN _⟩
          case measure => simp [intOf]; omega
    · obtain rfl : k = 4 := by omega
      have hf := Cls.first_lt pick
      have hf2 := Cls.tmod4 pick
      rw [← Cls.sofar_zero c wk pick]
      go_wp2
      rw [Cls.first_eq' pick]
      clear hf2
      have Hm := Lib.hid hm
      clear hm
      go_loopg [8, 12] 4 (fun g s i wr => ∃ k : Nat, g + k = 4 ∧ i = .int .i64 k ∧ s = .int .i64 (Cls.sofar c wk pick k) ∧ ClMem w (c4 (cw c 4)) wk wr)
      case atStart => exact ⟨0, by omega, rfl, rfl, Hm⟩
      case round =>
        clear Hm
        obtain ⟨k, hk, rfl, rfl, hm⟩ := hrel
        have hk4 : k ≤ 4 := by omega
        have hkg := Lib.hid hk
        clear hk
        have hwc : wr.cell? ⟨w.heap.size + 1, (Cls.first pick + k) % 4, none⟩ = some (.bool (wk ((Cls.first pick + k) % 4))) := by rw [hm.work.cell, b4_at _ (by omega)]
        have hs := Cls.sofar_bd c wk pick k
        have hn := Lib.hid (Cls.sofar_next c wk pick k)
        have hend := Lib.hid (Cls.sofar_end c wk pick k hk4)
        have Hm := Lib.hid hm
        clear hm
        by_cases hgo : k < 4 ∧ Cls.sofar c wk pick k < 0
        · obtain ⟨hlt, hs0⟩ := hgo
          have hn := Lib.hid (hn.out hs0)
          cases hwk : wk ((Cls.first pick + k) % 4)
          all_goals
            go_wp2
            have hkg := hkg.out
            go_roundg (gk - 1)
            case measure => omega
            case rel => exact ⟨k + 1, by omega, by go_num, by rw [hn.out, hwk]; first | rfl | (rw [if_neg (by simp)]; congr 1; omega), Hm.out⟩
        · have hsrv := hend.out (by omega)
          have hsn : k < 4 → ¬ Cls.served c wk pick < 0 := fun h => by rw [← hsrv]; omega
          rw [hsrv]
          clear hn hend hsrv
          have hsb := Cls.served_bd c wk pick
          have hx0 : ClMem w (c4 (cx c wk (Cls.served c wk pick) 0)) wk wr := by
            have e : cx c wk (Cls.served c wk pick) 0 = cw c 4 := by funext j; simp [cx]
            rw [e]; exact Hm.out
          have Hx := Lib.hid hx0
          have w0 := Hm.out.work.four
          obtain ⟨w0, w1, w2, w3, _⟩ := w0
          clear hx0 Hm
          by_cases hlt : k < 4
          all_goals
            try have hs0 := hsn hlt
            clear hsn
            go_wp2
            go_loopg [76] 4 (fun g i wr => ∃ k : Nat, g + k = 4 ∧ i = .int .i64 k ∧ ClMem w (c4 (cx c wk (Cls.served c wk pick) k)) wk wr)
            case atStart => exact ⟨0, by omega, rfl, Hx.out⟩
            case round =>
              clear w0 w1 w2 w3 Hx hwc
              obtain ⟨j, hj, rfl, hm⟩ := hrel
              have hjg := Lib.hid hj
              have hj4 : j ≤ 4 := by omega
              clear hj
              by_cases hjt : j < 4
              · have hji : (j : Int) < 4 := by omega
                have hix := index_work wk hjt
                have hck : wr.cell? ⟨w.heap.size, j, none⟩ = some (.int .i64 (Cls.cl (c j))) := by
                  rw [hm.counts.cell, c4_at _ hjt]; simp [cx, cw, hjt]
                have hfk := hm.counts.frozen j
                have hb := Cls.cl_bd (c j)
                have Hm := Lib.hid hm
                clear hm
                have hgj : (j : Int) = Cls.served c wk pick ∨ ¬ (j : Int) = Cls.served c wk pick := Decidable.em _
                cases hwk : wk j
                · go_wp2
                  have hjg := hjg.out
                  have hm2 := Hm.out.set_ j (.int .i64 (Cls.wait c wk (Cls.served c wk pick) j))
                  rw [c4_set _ hjt, cx_next] at hm2
                  go_roundg (gk - 1)
                  case measure => omega
                  case rel => exact ⟨j + 1, by omega, by go_num, by simpa [Cls.wait, hwk] using hm2⟩
                · by_cases hjs : (j : Int) = Cls.served c wk pick
                  · have hne : ((j : Int) != Cls.served c wk pick) = false := by rw [hjs]; simp
                    clear hgj
                    have Hjs := Lib.hid hjs
                    clear hjs
                    go_wp2
                    have hjg := hjg.out
                    have hm2 := Hm.out.set_ j (.int .i64 (Cls.wait c wk (Cls.served c wk pick) j))
                    rw [c4_set _ hjt, cx_next] at hm2
                    have hw0 : Cls.wait c wk (Cls.served c wk pick) j = 0 := by simp [Cls.wait, Hjs.out]
                    rw [hw0] at hm2
                    go_roundg (gk - 1)
                    case measure => omega
                    case rel => exact ⟨j + 1, by omega, by go_num, hm2⟩
                  · have hne : ((j : Int) != Cls.served c wk pick) = true := by simp [hjs]
                    clear hgj
                    have Hjs := Lib.hid hjs
                    clear hjs
                    go_wp2
                    have hjg := hjg.out
                    have hm2 := Hm.out.set_ j (.int .i64 (Cls.wait c wk (Cls.served c wk pick) j))
                    rw [c4_set _ hjt, cx_next] at hm2
                    have hw0 : Cls.wait c wk (Cls.served c wk pick) j = Cls.cl (c j) + 1 := by simp [Cls.wait, Hjs.out, hwk]
                    rw [hw0] at hm2
                    go_roundg (gk - 1)
                    case measure => omega
                    case rel => exact ⟨j + 1, by omega, by go_num, hm2⟩
              · obtain rfl : j = 4 := by omega
                obtain ⟨a0, a1, a2, a3, _⟩ := hm.counts.four
                obtain ⟨r0, r1, r2, r3, s0, s1, s2, s3⟩ := hm.res.four
                have hbel := Lib.hid hm.below
                simp only [cx, Nat.reduceLT, if_true] at a0 a1 a2 a3
                clear hm
                go_wp2
                refine bodyPost_ret (v := .tuple #[.agg (c4 (Cls.wait c wk (Cls.served c wk pick))), .int .i64 (Cls.served c wk pick)]) (by simp [results, Try.results10, go_sem, c4, r0, r1, r2, r3]) rfl ⟨rfl, ?_⟩
                exact (((hbel.out.setCell (by simp; omega) _).setCell (by simp; omega) _).setCell (by simp; omega) _).setCell (by simp; omega) _
end Go.Proofs.Ytgbjhkgbjnobcaa
