/- The walk of the law 'SchedPatience'. Conditions: none. -/
import Derived.Test.YtgbjhkgbjnobcaaClassLaw
import Derived.Test.YtgbjhkgbjnobcaaPatiencePlain
import Derived.Deep.DeepCutAuto
import Derived.Deep.RegionHeld3
namespace Go.Proofs.Ytgbjhkgbjnobcaa
open Go.RowKit

/-- Four bools as cells. -/
def b4 (f : Nat → Bool) : Array Value := #[.bool (f 0), .bool (f 1), .bool (f 2), .bool (f 3)]
/-- The law's own memory at a round's head: the counts, how often each class was passed. -/
structure PM (w : World) (c p : Nat → Int) (wr : World) : Prop where
  counts : Blk wr w.heap.size 24 (c4 c)
  passed : Blk wr (w.heap.size + 1) 22 (c4 p)
  below : Below w.heap.size w wr
/-- .. and in a round, behind the pick: the round's work, the counts that come. -/
structure PR (w : World) (c p n : Nat → Int) (f : Nat → Bool) (b8 b9 : Nat) (wr : World) : Prop extends PM w c p wr where
  work : Blk wr b8 25 (b4 f)
  next : Blk wr b9 24 (c4 n)
  lt8 : w.heap.size + 1 < b8
  lt9 : w.heap.size + 1 < b9
theorem PM.start (w : World) : PM w (fun _ => 0) (fun _ => 0) ((w.alloc (.cells #[.int .i64 0, .int .i64 0, .int .i64 0, .int .i64 0] 24)).alloc (.cells #[.int .i64 0, .int .i64 0, .int .i64 0, .int .i64 0] 22)) := by
  refine ⟨(Blk.new _ _ _).alloc _, ?_, ((Below.refl _ _).alloc (Nat.le_refl _) _).alloc (by simp) _⟩
  have h := Blk.new (w.alloc (.cells #[.int .i64 0, .int .i64 0, .int .i64 0, .int .i64 0] 24)) 22 #[.int .i64 0, .int .i64 0, .int .i64 0, .int .i64 0]
  simpa [c4] using h
theorem PM.alloc {w wr : World} {c p : Nat → Int} (h : PM w c p wr) (o : Obj) : PM w c p (wr.alloc o) := ⟨h.counts.alloc o, h.passed.alloc o, h.below.alloc h.below.size o⟩
theorem PM.drewN {w wr : World} {c p : Nat → Int} (h : PM w c p wr) (n : Nat) : PM w c p (wr.drewN n) := ⟨h.counts, h.passed, below_drewN h.below n⟩
theorem PM.more {w wr w1 : World} {c p : Nat → Int} (h : PM w c p wr) (hb : Below wr.heap.size wr w1) : PM w c p w1 :=
  ⟨h.counts.below hb h.counts.lt, h.passed.below hb h.passed.lt, h.below.trans (hb.mono h.below.size)⟩

theorem cell_more {B b o : Nat} {W w1 : World} {v : Value} (hb : Below B W w1) (h : W.cell? ⟨b, o, none⟩ = some v) (hlt : b < B) : w1.cell? ⟨b, o, none⟩ = some v :=
  (hb.cell (p := ⟨b, o, none⟩) hlt).trans h
theorem cell_alloc {W : World} {a : Addr} {v : Value} (h : W.cell? a = some v) (o : Obj) : (W.alloc o).cell? a = some v := by
  rw [World.cell?_alloc_some _ _ _ (by rw [h]; rfl), h]

theorem second4 {wr w1 : World} {o : Obj} {t : TypeId} {p q r s : Value} (hb : Below ((wr.alloc o).alloc (.cells #[p, q, r, s] t)).drew.heap.size ((wr.alloc o).alloc (.cells #[p, q, r, s] t)).drew w1) :
    w1.cell? ⟨wr.heap.size + 1, 0, none⟩ = some p ∧ w1.cell? ⟨wr.heap.size + 1, 1, none⟩ = some q ∧ w1.cell? ⟨wr.heap.size + 1, 2, none⟩ = some r ∧ w1.cell? ⟨wr.heap.size + 1, 3, none⟩ = some s ∧
    w1.frozen? ⟨wr.heap.size + 1, 0, none⟩ = false ∧ w1.frozen? ⟨wr.heap.size + 1, 1, none⟩ = false ∧ w1.frozen? ⟨wr.heap.size + 1, 2, none⟩ = false ∧ w1.frozen? ⟨wr.heap.size + 1, 3, none⟩ = false := by
  have h := Blk.new (wr.alloc o) t #[p, q, r, s]
  have e : (wr.alloc o).heap.size = wr.heap.size + 1 := by simp
  rw [e] at h
  exact (Blk.below (w := ((wr.alloc o).alloc (.cells #[p, q, r, s] t)).drew) h hb (by simp)).four
theorem cell_drew {W : World} {a : Addr} {v : Value} (h : W.cell? a = some v) : W.drew.cell? a = some v := h

theorem PR.setp {w wr : World} {c p n : Nat → Int} {f : Nat → Bool} {b8 b9 : Nat} (h : PR w c p n f b8 b9 wr) (j : Nat) (hj : j < 4) (v : Int) :
    PR w c (fun i => if i = j then v else p i) n f b8 b9 (wr.setCell ⟨w.heap.size + 1, j, none⟩ (.int .i64 v)) := by
  have h8 := h.lt8
  have h9 := h.lt9
  refine ⟨⟨h.counts.far (by simp) _, ?_, h.below.setCell (by simp) _⟩, h.work.far (by simp; omega) _, h.next.far (by simp; omega) _, h8, h9⟩
  have := h.passed.set_ j (.int .i64 v)
  rwa [c4_set _ hj] at this
theorem PR.setc {w wr : World} {c p n : Nat → Int} {f : Nat → Bool} {b8 b9 : Nat} (h : PR w c p n f b8 b9 wr) :
    PM w n p ((((wr.setCell ⟨w.heap.size, 0, none⟩ (.int .i64 (n 0))).setCell ⟨w.heap.size, 1, none⟩ (.int .i64 (n 1))).setCell ⟨w.heap.size, 2, none⟩ (.int .i64 (n 2))).setCell ⟨w.heap.size, 3, none⟩ (.int .i64 (n 3))) :=
  ⟨(((h.counts.set_ 0 _).set_ 1 _).set_ 2 _).set_ 3 _, (((h.passed.far (by simp) _).far (by simp) _).far (by simp) _).far (by simp) _,
    (((h.below.setCell (by simp) _).setCell (by simp) _).setCell (by simp) _).setCell (by simp) _⟩
theorem PM.same {w wr : World} {c n : Nat → Int} (h : PM w n (Cls.upto c n 4) wr) : PM w n n wr :=
  ⟨h.counts, h.passed, h.below⟩
theorem class_last (w : World) : Calls Try.prog 10 #[.agg #[.int .i64 0, .int .i64 0, .int .i64 0, .int .i64 0], .agg #[.bool false, .bool false, .bool true, .bool false], .int .i64 0] w fun e w' =>
    (∃ a b c d : Int, e = .returned (.tuple #[.agg #[.int .i64 a, .int .i64 b, .int .i64 c, .int .i64 d], .int .i64 2])) ∧ Below w.heap.size w w' := by
  have h := class_any (fun _ => 0) (fun i => i == 2) 0 w
  refine Calls.mono h ?_
  rintro e w' ⟨rfl, hb⟩
  exact ⟨⟨_, _, _, _, rfl⟩, hb⟩
theorem PR.late {w wr w1 : World} {c p n : Nat → Int} {f : Nat → Bool} (h : PM w c p wr) (hb : Below (wr.alloc (.cells (b4 f) 25)).drew.heap.size (wr.alloc (.cells (b4 f) 25)).drew w1) :
    PR w c p n f wr.heap.size w1.heap.size (w1.alloc (.cells (c4 n) 24)) := by
  have h1 : PM w c p (wr.alloc (.cells (b4 f) 25)).drew := (h.alloc _).drewN 1
  have h2 := h1.more hb
  refine ⟨h2.alloc _, ?_, Blk.new _ _ _, h.passed.lt, h2.passed.lt⟩
  exact (Blk.below (w := (wr.alloc (.cells (b4 f) 25)).drew) (Blk.new wr 25 (b4 f)) hb (by simp)).alloc _
theorem PR.early {w wr w1 : World} {c p n : Nat → Int} {f : Nat → Bool} {z : Nat → Int} (h : PM w c p wr)
    (hb : Below ((wr.alloc (.cells (b4 f) 25)).alloc (.cells (c4 z) 24)).drew.heap.size ((wr.alloc (.cells (b4 f) 25)).alloc (.cells (c4 z) 24)).drew w1) :
    PR w c p n f wr.heap.size (wr.heap.size + 1) ((((w1.setCell ⟨wr.heap.size + 1, 0, none⟩ (.int .i64 (n 0))).setCell ⟨wr.heap.size + 1, 1, none⟩ (.int .i64 (n 1))).setCell ⟨wr.heap.size + 1, 2, none⟩ (.int .i64 (n 2))).setCell ⟨wr.heap.size + 1, 3, none⟩ (.int .i64 (n 3))) := by
  have h1 : PM w c p ((wr.alloc (.cells (b4 f) 25)).alloc (.cells (c4 z) 24)).drew := ((h.alloc _).alloc _).drewN 1
  have h2 := h1.more hb
  have hl := h.passed.lt
  have q : Blk w1 wr.heap.size 25 (b4 f) := Blk.below (w := ((wr.alloc (.cells (b4 f) 25)).alloc (.cells (c4 z) 24)).drew) ((Blk.new wr 25 (b4 f)).alloc _) hb (by simp; omega)
  have r0 := Blk.new (wr.alloc (.cells (b4 f) 25)) 24 (c4 z)
  have e : (wr.alloc (.cells (b4 f) 25)).heap.size = wr.heap.size + 1 := by simp
  rw [e] at r0
  have r : Blk w1 (wr.heap.size + 1) 24 (c4 z) := Blk.below (w := ((wr.alloc (.cells (b4 f) 25)).alloc (.cells (c4 z) 24)).drew) r0 hb (by simp)
  refine ⟨⟨?_, ?_, ?_⟩, ?_, ?_, by omega, by omega⟩
  · exact (((h2.counts.far (by simp; omega) _).far (by simp; omega) _).far (by simp; omega) _).far (by simp; omega) _
  · exact (((h2.passed.far (by simp; omega) _).far (by simp; omega) _).far (by simp; omega) _).far (by simp; omega) _
  · exact (((h2.below.setCell (by simp; omega) _).setCell (by simp; omega) _).setCell (by simp; omega) _).setCell (by simp; omega) _
  · exact (((q.far (by simp) _).far (by simp) _).far (by simp) _).far (by simp) _
  · exact (((r.set_ 0 _).set_ 1 _).set_ 2 _).set_ 3 _

set_option maxRecDepth 100000 in
set_option maxHeartbeats 2000000 in
theorem patience_any (A B : Option Addr) (n m cap cap' : Nat) (wk : Nat → Nat → Bool) (pk : Nat → Int) (w : World) (hn : n ≤ 9223372036854775807) (hm : m ≤ 9223372036854775807)
    (hA : 0 < n → ∃ b o, A = some ⟨b, o, none⟩ ∧ b < w.heap.size ∧ ∀ i, i < n → w.cell? ⟨b, o + i * 4, none⟩ = some (.bool (wk i 0)) ∧ w.cell? ⟨b, o + i * 4 + 1, none⟩ = some (.bool (wk i 1)) ∧
      w.cell? ⟨b, o + i * 4 + 2, none⟩ = some (.bool (wk i 2)) ∧ w.cell? ⟨b, o + i * 4 + 3, none⟩ = some (.bool (wk i 3)))
    (hB : 0 < m → ∃ b o, B = some ⟨b, o, none⟩ ∧ b < w.heap.size ∧ ∀ i, i < m → w.cell? ⟨b, o + i, none⟩ = some (.int .i64 (pk i))) :
    Calls Try.prog 4 #[.slice A n cap, .slice B m cap'] w fun e w' => e = .returned (.bool true) ∧ Below w.heap.size w w' := by
  have HA := Lib.hid hA
  have HB := Lib.hid hB
  clear hA hB
  go_enter Try.func4, Try.ntmps4
  go_wp2
  go_loopg [7] n (fun g i wr => ∃ (k : Nat) (c : Nat → Int), g + k = n ∧ i = .int .i64 k ∧ Cls.Ok c ∧ PM w c c wr)
  case atStart => exact ⟨0, fun _ => 0, by omega, rfl, Cls.Ok.zero, PM.start w⟩
  case round =>
    obtain ⟨k, c, hk, rfl, hok, hm0⟩ := hrel
    have Hk := Lib.hid hk
    have hkn : k ≤ n := by omega
    have Hok := Lib.hid hok
    clear hk hok
    by_cases hlt : k < n ∧ k < m
    · obtain ⟨b, o, rfl, hb, hc⟩ := HA.out (by omega)
      obtain ⟨b', o', rfl, hb', hc'⟩ := HB.out (by omega)
      have HP := Lib.hid (hc' k hlt.2)
      obtain ⟨a0, a1, a2, a3⟩ := hc k hlt.1
      have a4 := hc' k hlt.2
      rw [← hm0.below.cell hb] at a0 a1 a2 a3
      rw [← hm0.below.cell hb'] at a4
      have hsz := hm0.below.size
      have hbr : b < wr.heap.size := by omega
      have hbr' : b' < wr.heap.size := by omega
      have hBr : w.heap.size < wr.heap.size := hm0.counts.lt
      have hBr1 : w.heap.size + 1 < wr.heap.size := hm0.passed.lt
      obtain ⟨c0, c1, c2, c3, _⟩ := hm0.counts.four
      clear hc hc' hsz
      have g1 : w.heap.size < wr.heap.size + 1 := by omega
      have g2 : w.heap.size < wr.heap.size + 1 + 1 := by omega
      have g3 : b' < wr.heap.size + 1 := by omega
      have g4 : b' < wr.heap.size + 1 + 1 := by omega
      have n1 : ¬ w.heap.size = wr.heap.size + 1 := by omega
      have n2 : ¬ b' = wr.heap.size + 1 := by omega
      have n3 : ¬ wr.heap.size + 1 = w.heap.size := by omega
      have n4 : ¬ wr.heap.size + 1 = b' := by omega
      have g5 : wr.heap.size < wr.heap.size + 1 + 1 := by omega
      have Hm := Lib.hid hm0
      clear hm0
      go_upto_region 7 with fail
      go_cut [9, 10] (fun s9 s10 wx => ∃ b9 : Nat, s9 = .pointer (some ⟨b9, 0, none⟩) ∧ s10 = .int .i64 (Cls.served c (wk k) (pk k)) ∧ PR w c c (Cls.wait c (wk k) (Cls.served c (wk k) (pk k))) (wk k) wr.heap.size b9 wx)
      case first =>
        go_region_held3 (fun w' => w'.cell? ⟨w.heap.size, 0, none⟩ = some (.int .i64 (c 0)) ∧ w'.cell? ⟨w.heap.size, 1, none⟩ = some (.int .i64 (c 1)) ∧ w'.cell? ⟨w.heap.size, 2, none⟩ = some (.int .i64 (c 2)) ∧ w'.cell? ⟨w.heap.size, 3, none⟩ = some (.int .i64 (c 3)) ∧
            w'.cell? ⟨wr.heap.size, 0, none⟩ = some (.bool (wk k 0)) ∧ w'.cell? ⟨wr.heap.size, 1, none⟩ = some (.bool (wk k 1)) ∧ w'.cell? ⟨wr.heap.size, 2, none⟩ = some (.bool (wk k 2)) ∧ w'.cell? ⟨wr.heap.size, 3, none⟩ = some (.bool (wk k 3)) ∧
            w'.cell? ⟨b', o' + k, none⟩ = some (.int .i64 (pk k)))
          (go_keep)
          (first | (go_at_call 10; refine (class_any c (wk k) (pk k) _).mono ?_; rintro e w1 ⟨rfl, hb1⟩; unfold c4; obtain ⟨hcc, hff⟩ := bcell hb1; have z1 : wr.heap.size < w1.heap.size := (by have := hb1.size; simp at this; omega); have z2 : w.heap.size < w1.heap.size := (by omega); have z3 : b' < w1.heap.size := (by omega)))
        · go_wp2
          go_meet
          case rel => exact ⟨_, rfl, rfl, PR.late Hm.out hb1⟩
        · go_wp2
          go_meet
          case rel => exact ⟨_, rfl, rfl, PR.early (z := fun _ => 0) Hm.out hb1⟩
      case rest =>
        clear a0 a1 a2 a3 a4 c0 c1 c2 c3 hbr hbr' hBr hBr1 g1 g2 g3 g4 g5 n1 n2 n3 n4 Hm
        obtain ⟨b9, rfl, rfl, hr⟩ := hcut
        generalize wr.heap.size = b8 at *
        have hsb := Cls.served_bd c (wk k) (pk k)
        go_wp2
        go_loopg [11, 12] 4 (fun g a i wx => ∃ j : Nat, g + j = 4 ∧ i = .int .i64 j ∧ a = .bool (Cls.anyw (wk k) j) ∧ wx = wc)
        case atStart => exact ⟨0, by omega, rfl, rfl, rfl⟩
        case round =>
          obtain ⟨j, hj, rfl, rfl, rfl⟩ := hrel
          have Hj := Lib.hid hj
          have hj4 : j ≤ 4 := by omega
          clear hj
          by_cases hjt : j < 4
          · have hji : (j : Int) < 4 := by omega
            have hwc : wr.cell? ⟨b8, j, none⟩ = some (.bool (wk k j)) := by rw [hr.work.cell]; exact b4_at _ hjt
            have Hr := Lib.hid hr
            clear hr
            cases han : Cls.anyw (wk k) j
            all_goals
              go_wp2
              have hjg := Hj.out
              go_roundg (gk - 1)
              case measure => omega
              case rel => exact ⟨j + 1, by omega, by go_num, by simp [Cls.anyw, han], rfl⟩
          · obtain rfl : j = 4 := by omega
            clear Hj hjt hj4
            rw [show ((4 : Nat) : Int) = 4 from rfl]
            have hf := Cls.first_lt (pk k)
            have hf2 := Cls.tmod4 (pk k)
            have hpk : wr.cell? ⟨b', o' + k, none⟩ = some (.int .i64 (pk k)) := (hr.below.cell (p := ⟨b', o' + k, none⟩) hb').trans HP.out
            have hwf : wr.cell? ⟨b8, Cls.first (pk k), none⟩ = some (.bool (wk k (Cls.first (pk k)))) := by rw [hr.work.cell]; exact b4_at _ hf
            have hws : 0 ≤ Cls.served c (wk k) (pk k) → wr.cell? ⟨b8, (Cls.served c (wk k) (pk k)).toNat, none⟩ = some (.bool true) := fun h => by
              rw [hr.work.cell, ← Cls.served_work c (wk k) (pk k) h]; exact b4_at _ (by omega)
            have Hr := Lib.hid hr
            have hws := Lib.hid hws
            clear hr
            go_upto_region 13 with fail
            go_cut [11, 63] (fun s11 s wx => s11 = .bool (Cls.anyw (wk k) 4) ∧ s = .bool false ∧ wx = wr)
            case first =>
              cases han : Cls.anyw (wk k) 4
              · have hno := Cls.served_no c (wk k) (pk k) han
                have hn1 : Cls.served c (wk k) (pk k) < 0 := by omega
                clear hno
                go_wp2
                go_meet
                case rel => exact ⟨by rw [han], by simp; omega, rfl⟩
              · have hn1 := Cls.served_any c (wk k) (pk k) han
                go_wp2
                go_meet
                case rel => exact ⟨by rw [han], by simp; omega, rfl⟩
            case rest =>
              obtain ⟨rfl, rfl, rfl⟩ := hcut
              go_upto_region 15 with fail
              go_cut [11, 70] (fun s11 s wx => s11 = .bool (Cls.anyw (wk k) 4) ∧ s = .bool false ∧ wx = wc)
              case first =>
                cases han : Cls.anyw (wk k) 4
                · go_wp2
                  go_meet
                  case rel => exact ⟨by rw [han], rfl, rfl⟩
                · have hn1 := Cls.served_any c (wk k) (pk k) han
                  have hws := hws.out hn1
                  go_wp2
                  go_meet
                  case rel => exact ⟨by rw [han], rfl, rfl⟩
              case rest =>
                obtain ⟨rfl, rfl, rfl⟩ := hcut
                clear hws
                go_wp2
                rw [Cls.first_eq' (pk k)]
                clear hf2 hpk
                go_loopg [14, 15] 4 (fun g a i wx => ∃ j : Nat, g + j = 4 ∧ i = .int .i64 j ∧ a = .bool (Cls.early c j) ∧ wx = wc)
                case atStart => exact ⟨0, by omega, rfl, rfl, rfl⟩
                case round =>
                  obtain ⟨j, hj, rfl, rfl, rfl⟩ := hrel
                  have Hj := Lib.hid hj
                  have hj4 : j ≤ 4 := by omega
                  clear hj
                  by_cases hjt : j < 4
                  · have hji : (j : Int) < 4 := by omega
                    have hwc : wr.cell? ⟨w.heap.size + 1, j, none⟩ = some (.int .i64 (c j)) := by rw [Hr.out.passed.cell]; exact c4_at _ hjt
                    clear hwf
                    cases han : Cls.early c j
                    all_goals
                      go_wp2
                      have hjg := Hj.out
                      go_roundg (gk - 1)
                      case measure => omega
                      case rel => exact ⟨j + 1, by omega, by go_num, by simp [Cls.early, han], rfl⟩
                  · obtain rfl : j = 4 := by omega
                    clear Hj hjt hj4
                    rw [show ((4 : Nat) : Int) = 4 from rfl]
                    go_upto_region 23 with fail
                    go_cut [11, 14, 102] (fun s11 s14 s wx => s11 = .bool (Cls.anyw (wk k) 4) ∧ s14 = .bool (Cls.early c 4) ∧ s = .bool false ∧ wx = wr)
                    case first =>
                      cases he : Cls.early c 4
                      · go_wp2
                        go_meet
                        case rel => exact ⟨rfl, by rw [he], rfl, rfl⟩
                      · cases han : Cls.anyw (wk k) 4
                        · go_wp2
                          go_meet
                          case rel => exact ⟨by rw [han], by rw [he], rfl, rfl⟩
                        · cases hw1 : wk k (Cls.first (pk k))
                          · rw [hw1] at hwf
                            clear hw1
                            go_wp2
                            go_meet
                            case rel => exact ⟨by rw [han], by rw [he], rfl, rfl⟩
                          · have hsf := Cls.served_first c (wk k) (pk k) (Cls.early_at c 4 he) hw1
                            have hne : (Cls.served c (wk k) (pk k) != (Cls.first (pk k) : Int)) = false := by rw [hsf]; simp
                            rw [hw1] at hwf
                            clear hw1 hsf
                            go_wp2
                            go_meet
                            case rel => exact ⟨by rw [han], by rw [he], rfl, rfl⟩
                    case rest =>
                      obtain ⟨rfl, rfl, rfl, rfl⟩ := hcut
                      have hokn := Cls.Ok.next (wk k) (pk k) Hok.out
                      have Hokn := Lib.hid hokn
                      clear hokn hwf
                      have H0 : PR w c (Cls.upto c (Cls.wait c (wk k) (Cls.served c (wk k) (pk k))) 0) (Cls.wait c (wk k) (Cls.served c (wk k) (pk k))) (wk k) b8 b9 wc := Hr.out
                      have H0 := Lib.hid H0
                      clear Hr
                      go_wp2
                      go_loopg [16] 4 (fun g i wx => ∃ j : Nat, g + j = 4 ∧ i = .int .i64 j ∧ PR w c (Cls.upto c (Cls.wait c (wk k) (Cls.served c (wk k) (pk k))) j) (Cls.wait c (wk k) (Cls.served c (wk k) (pk k))) (wk k) b8 b9 wx)
                      case atStart => exact ⟨0, by omega, rfl, H0.out⟩
                      case round =>
                        clear H0
                        obtain ⟨j, hj, rfl, hr⟩ := hrel
                        have Hj := Lib.hid hj
                        have hj4 : j ≤ 4 := by omega
                        clear hj
                        by_cases hjt : j < 4
                        · have hji : (j : Int) < 4 := by omega
                          have hp : wr.cell? ⟨w.heap.size + 1, j, none⟩ = some (.int .i64 (c j)) := by
                            rw [hr.passed.cell, c4_at _ hjt]; simp [Cls.upto]
                          have hfz := hr.passed.frozen j
                          have hwj : wr.cell? ⟨b8, j, none⟩ = some (.bool (wk k j)) := by rw [hr.work.cell]; exact b4_at _ hjt
                          have hb8 : ¬ b8 = w.heap.size + 1 := by have := hr.lt8; omega
                          have hcb := Hok.out.at_ hjt
                          have hnb := Hokn.out.at_ hjt
                          have hn := hr.setp j hjt (Cls.wait c (wk k) (Cls.served c (wk k) (pk k)) j)
                          rw [Cls.upto_next] at hn
                          have Hn := Lib.hid hn
                          clear hn hr
                          by_cases hgo : wk k j = true ∧ (j : Int) ≠ Cls.served c (wk k) (pk k)
                          · have hwv : Cls.wait c (wk k) (Cls.served c (wk k) (pk k)) j = c j + 1 := by
                              simp only [Cls.wait, hgo.1, hgo.2, Bool.true_and, decide_true, if_true, Cls.cl_id hcb, ne_eq, not_false_eq_true]
                            have hne : ((j : Int) != Cls.served c (wk k) (pk k)) = true := by simpa using hgo.2
                            have hn := Hn.out
                            rw [hwv] at hn
                            have Hn := Lib.hid hn
                            rw [hwv] at hnb
                            rw [hgo.1] at hwj
                            clear hn hwv hgo
                            go_wp2
                            have hjg := Hj.out
                            go_roundg (gk - 1)
                            case measure => omega
                            case rel => exact ⟨j + 1, by omega, by go_num, Hn.out⟩
                          · have hwv : Cls.wait c (wk k) (Cls.served c (wk k) (pk k)) j = 0 := by
                              unfold Cls.wait
                              rw [if_neg]
                              intro h
                              simp only [Bool.and_eq_true, decide_eq_true_eq] at h
                              exact hgo h
                            have hn := Hn.out
                            rw [hwv] at hn
                            have Hn := Lib.hid hn
                            clear hn hwv hnb
                            cases hw1 : wk k j
                            · rw [hw1] at hwj
                              clear hw1 hgo
                              go_wp2
                              have hjg := Hj.out
                              go_roundg (gk - 1)
                              case measure => omega
                              case rel => exact ⟨j + 1, by omega, by go_num, Hn.out⟩
                            · have hje : (j : Int) = Cls.served c (wk k) (pk k) := by
                                rcases Decidable.em ((j : Int) = Cls.served c (wk k) (pk k)) with h | h
                                · exact h
                                · exact absurd ⟨hw1, h⟩ hgo
                              have hne : ((j : Int) != Cls.served c (wk k) (pk k)) = false := by rw [hje]; simp
                              rw [hw1] at hwj
                              clear hw1 hgo hje
                              go_wp2
                              have hjg := Hj.out
                              go_roundg (gk - 1)
                              case measure => omega
                              case rel => exact ⟨j + 1, by omega, by go_num, Hn.out⟩
                        · obtain rfl : j = 4 := by omega
                          clear Hj hjt hj4
                          obtain ⟨a0, a1, a2, a3, _⟩ := hr.next.four
                          obtain ⟨r0, r1, r2, r3, s0, s1, s2, s3⟩ := hr.counts.four
                          have hl := hr.lt9
                          have hb9 : ¬ b9 = w.heap.size := by omega
                          have hfin := hr.setc
                          have Hf := Lib.hid hfin
                          clear hfin hl hr
                          go_wp2
                          have hk := Hk.out
                          go_roundg (n - (k + 1))
                          case measure => omega
                          case rel => exact ⟨k + 1, _, by omega, by go_num, Hokn.out, Hf.out.same⟩
    · have hb := hm0.below
      have hB := Lib.hid hb
      clear hb hm0 HA HB
      by_cases h1 : k < n
      all_goals
        have h2 : n ≤ k ∨ m ≤ k := by omega
        go_wp2_with fail
        refine (class_last _).mono ?_
        rintro e w1 ⟨⟨x0, x1, x2, x3, rfl⟩, hb1⟩
        have hb2 := hB.out
        have hz1 := hb1.size
        have hz2 := hb2.size
        simp at hz1
        have e1 : Below w.heap.size w w1 := (hb2.alloc hb2.size _).trans (hb1.mono (by simp; omega))
        clear hb1 hb2
        go_wp2
        go_ret
        exact ⟨rfl, e1.alloc e1.size _⟩
end Go.Proofs.Ytgbjhkgbjnobcaa
