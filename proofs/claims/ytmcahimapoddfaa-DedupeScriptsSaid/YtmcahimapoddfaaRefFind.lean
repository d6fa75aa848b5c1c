/- The walks of the document's find and laid. Conditions: the list is readable, by rising numbers. -/
import Derived.Test.YtmcahimapoddfaaLaidPlain
import Derived.Test.YtmcahimapoddfaaSlices
namespace Go.Proofs.Ytmcahimapoddfaa
open Go.RowKit Go.Maps

/-- The place of a number in the list. -/
def FindIs (tb : List Pr) (pid r : Int) : Prop := (r = -1 ∧ look tb pid = none) ∨ ∃ (k : Nat) (p : Pr), r = k ∧ tb[k]? = some p ∧ look tb pid = some p
set_option maxRecDepth 100000 in
set_option maxHeartbeats 4000000 in
theorem find_any (v : Value) (tb : List Pr) (pid : Int) (w : World) (h : PS w v tb) (hr : Rising tb) :
    Calls Try.prog 33 #[v, .int .i64 pid] w fun e w' => w = w' ∧ ∃ r : Int, e = .returned (.int .i64 r) ∧ FindIs tb pid r := by
  obtain ⟨A, c, rfl, h1, h2, _, h3⟩ := h
  unfold maxLen at h2
  have H := Lib.hid h3
  have Hr := Lib.hid hr
  clear h3 hr
  go_enter Try.func33, Try.ntmps33
  go_wp2
  go_loopg [5] tb.length (fun g i wr => ∃ k : Nat, g + k = tb.length ∧ i = .int .i64 (k : Nat) ∧ w = wr ∧ ∀ (j : Nat) (p : Pr), j < k → tb[j]? = some p → p.pid ≠ pid)
  case atStart => exact ⟨0, by omega, rfl, rfl, (by intro j g hj; omega)⟩
  case round =>
    obtain ⟨k, hk, rfl, rfl, hno⟩ := hrel
    have Hk := Lib.hid hk
    have Hno := Lib.hid hno
    have hkn : k ≤ tb.length := by omega
    clear hk hno
    by_cases hkl : k < tb.length
    · have hki : (k : Int) < tb.length := by omega
      obtain ⟨p, hp⟩ : ∃ p, tb[k]? = some p := ⟨_, List.getElem?_eq_getElem hkl⟩
      obtain ⟨b, o, he, hbl, hc⟩ := H.out (by omega)
      subst he
      have x0 := (hc k p hp).1
      have Hp := Lib.hid hp
      clear hp hc
      by_cases he : p.pid = pid
      · have hq : (p.pid == pid) = true := by simpa using he
        have He := Lib.hid he
        clear he
        go_wp2
        go_ret
        refine ⟨rfl, k, rfl, .inr ⟨k, p, rfl, Hp.out, ?_⟩⟩
        have := look_of_mem Hr.out (List.mem_of_getElem? Hp.out)
        rw [He.out] at this
        exact this
      · have hq : (p.pid == pid) = false := by simpa using he
        have He := Lib.hid he
        clear he
        go_wp2
        have hk := Hk.out
        go_roundg (gk - 1)
        case measure => omega
        case rel => exact ⟨k + 1, by omega, by go_num, rfl, fun j g hj hg => by
          rcases Nat.lt_or_ge j k with h1 | h1
          · exact Hno.out j g h1 hg
          · obtain rfl : j = k := by omega
            rw [Hp.out] at hg
            injection hg with hg
            rw [← hg]
            exact He.out⟩
    · have hki : ¬ (k : Int) < tb.length := by omega
      have Hke := Lib.hid (show k = tb.length by omega)
      go_wp2
      go_ret
      refine ⟨rfl, -1, rfl, .inl ⟨rfl, ?_⟩⟩
      unfold look
      refine List.find?_eq_none.2 fun q hq e => ?_
      obtain ⟨j, hj⟩ := List.mem_iff_getElem?.1 hq
      exact Hno.out j q (by have := (List.getElem?_eq_some_iff.1 hj).1; have := Hke.out; omega) hj (by simpa using e)

theorem OwnP.snoc {w : World} {base : Nat} {v : Value} {n : Nat} {m : List Pr} {y : Pr} (hn : n = m.length + 1) (h : w.ownsRow base 67 3 v n (m.flatMap prCells ++ prCells y)) : OwnP w base v (m ++ [y]) := by
  subst hn
  unfold OwnP
  rw [List.length_append, List.flatMap_append]
  simpa using h

theorem laid_len {tb m : List Pr} {p : Pr} {k : Nat} (h : LaidIs tb p k false m) : m.length ≤ k := by
  rcases h with ⟨_, _, rfl⟩ | ⟨h, _⟩
  · simp; omega
  · cases h
set_option maxRecDepth 100000 in
set_option maxHeartbeats 4000000 in
theorem laid_any (v : Value) (tb : List Pr) (p : Pr) (w : World) (h : PS w v tb) (hr : Rising tb) (h64 : tb.length ≤ 64) :
    Calls Try.prog 34 #[v, .agg #[.int .i64 p.pid, .int .i64 p.seq, .int .i64 p.off]] w fun e w' => ∃ v', e = .returned v' ∧ OwnP w' w.heap.size v' (put tb p) ∧ Below w.heap.size w w' := by
  obtain ⟨A, c, rfl, h1, h2, hnn, h3⟩ := h
  unfold maxLen at h2
  clear hnn
  have H := Lib.hid h3
  have Hr := Lib.hid hr
  obtain ⟨i0, hi, hz0, hz1, hz2⟩ := info_parts info67
  have x0 := Blk.new w 67 #[.int .i64 p.pid, .int .i64 p.seq, .int .i64 p.off]
  have hb0 : Below w.heap.size w (w.alloc (.cells #[.int .i64 p.pid, .int .i64 p.seq, .int .i64 p.off] 67)) := (Below.refl _ _).alloc (Nat.le_refl _) _
  have hs0 : (w.alloc (.cells #[.int .i64 p.pid, .int .i64 p.seq, .int .i64 p.off] 67)).heap.size = w.heap.size + 1 := by simp
  clear h3 hr
  go_enter Try.func34, Try.ntmps34
  go_upto_region 1 with fail
  generalize hw1 : w.alloc (.cells #[.int .i64 p.pid, .int .i64 p.seq, .int .i64 p.off] 67) = w1 at *
  clear hw1
  have X0 := Lib.hid x0
  have Hb0 := Lib.hid hb0
  have Hs0 := Lib.hid hs0
  clear x0 hb0 hs0
  go_wp2
  go_loopg [5, 6, 7] tb.length (fun g vm vd i wr => ∃ (k : Nat) (d : Bool) (m : List Pr), g + k = tb.length ∧ i = .int .i64 (k : Nat) ∧ vd = .bool d ∧ m.length ≤ k + 1 ∧ LaidIs tb p k d m ∧
    OwnP wr (w.heap.size + 1) vm m ∧ Blk wr w.heap.size 67 #[.int .i64 p.pid, .int .i64 p.seq, .int .i64 p.off] ∧ Below w.heap.size w wr)
  case atStart => exact ⟨0, false, [], by omega, rfl, rfl, by simp, laid_zero, OwnP.nil _ _, X0.out, Hb0.out⟩
  case round =>
    obtain ⟨k, d, m, hk, rfl, rfl, hml, hla, hown, hblk, hbw⟩ := hrel
    have Hk := Lib.hid hk
    have hkn : k ≤ tb.length := by omega
    have Hla := Lib.hid hla
    have Hown := Lib.hid hown
    have Hblk := Lib.hid hblk
    have Hbw := Lib.hid hbw
    have b0 := hblk.cell 0
    have b1 := hblk.cell 1
    have b2 := hblk.cell 2
    simp only [List.getElem?_toArray, List.getElem?_cons_zero, List.getElem?_cons_succ] at b0 b1 b2
    have hws : w.heap.size < wr.heap.size := hblk.lt
    have hapnd : ∀ (W W' : World) (vm v' : Value) (m : List Pr) (y : Pr) (n : Nat), n = m.length + 1 → OwnP W (w.heap.size + 1) vm m → Blk W w.heap.size 67 #[.int .i64 p.pid, .int .i64 p.seq, .int .i64 p.off] → Below w.heap.size w W →
        W'.ownsRow (w.heap.size + 1) 67 3 v' n (m.flatMap prCells ++ prCells y) → ∀ o : Obj, (W.alloc o).grownBy W' vm.ownBlock →
        OwnP W' (w.heap.size + 1) v' (m ++ [y]) ∧ Blk W' w.heap.size 67 #[.int .i64 p.pid, .int .i64 p.seq, .int .i64 p.off] ∧ Below w.heap.size w W' := fun W W' vm v' m y n hn ho hb hbe hr o hg => by
      refine ⟨OwnP.snoc hn hr, (hb.alloc o).grown hg (fun e => ?_), (hbe.alloc hbe.size o).grown hg (by have := hbe.size; simp; omega) (fun j hj => by have := (ho.lt hj).1; omega)⟩
      have := (ho.lt e.symm).1
      omega
    have Happ := Lib.hid hapnd
    clear hk hla hown hblk hbw hapnd
    by_cases hkl : k < tb.length
    · have hki : (k : Int) < tb.length := by omega
      obtain ⟨y, hy⟩ : ∃ y, tb[k]? = some y := ⟨_, List.getElem?_eq_getElem hkl⟩
      obtain ⟨b, o, he, hbl, hc⟩ := H.out (by omega)
      subst he
      obtain ⟨q0, q1, q2⟩ := hc k y hy
      have Q0 := Lib.hid q0
      have Q1 := Lib.hid q1
      have Q2 := Lib.hid q2
      have y0 := (Hbw.out.cell (p := ⟨b, o + k * 3, none⟩) hbl).trans q0
      have y1 := (Hbw.out.cell (p := ⟨b, o + k * 3 + 1, none⟩) hbl).trans q1
      have y2 := (Hbw.out.cell (p := ⟨b, o + k * 3 + 2, none⟩) hbl).trans q2
      have Hy := Lib.hid hy
      have Hbl := Lib.hid hbl
      clear hy hc q0 q1 q2 hbl
      cases d
      · rcases Int.lt_trichotomy y.pid p.pid with hlt | heq | hgt
        · have hge : decide (y.pid ≥ p.pid) = false := decide_eq_false (by omega)
          have hne : (y.pid != p.pid) = true := by simp; omega
          have Hc := Lib.hid (laid_low Hla.out Hy.out hlt)
          have hml' : m.length ≤ k := laid_len Hla.out
          clear hlt
          go_upto_region 6 with fail
          go_cut [25] (fun s wx => s = .bool false ∧ Below wr.heap.size wr wx)
          case first =>
            go_quiet (fail)
            go_wp2
            go_meet
            case rel => exact ⟨rfl, below_drewN (Below.refl _ _) _⟩
          case rest =>
            obtain ⟨hs, hbx⟩ := hcut
            subst hs
            rename World => wa
            clear y0 y1 y2 b0 b1 b2
            have Hown1 := Lib.hid (Hown.out.below hbx (Nat.le_refl _))
            have Hblk1 := Lib.hid (Hblk.out.below hbx Hblk.out.lt)
            have Hbw1 := Lib.hid (Hbw.out.trans (hbx.mono Hbw.out.size))
            clear hbx
            have b0 := Hblk1.out.cell 0
            have b1 := Hblk1.out.cell 1
            have b2 := Hblk1.out.cell 2
            simp only [List.getElem?_toArray, List.getElem?_cons_zero, List.getElem?_cons_succ] at b0 b1 b2
            have y0 := (Hbw1.out.cell (p := ⟨b, o + k * 3, none⟩) Hbl.out).trans Q0.out
            have y1 := (Hbw1.out.cell (p := ⟨b, o + k * 3 + 1, none⟩) Hbl.out).trans Q1.out
            have y2 := (Hbw1.out.cell (p := ⟨b, o + k * 3 + 2, none⟩) Hbl.out).trans Q2.out
            have hszwa : w.heap.size + 1 ≤ wa.heap.size := Hblk1.out.lt
            go_upto_region 9 with fail
            go_cut [37] (fun s wx => s = .bool true ∧ Below wa.heap.size wa wx)
            case first =>
              go_quiet (fail)
              go_wp2
              go_meet
              case rel => exact ⟨rfl, below_drewN (Below.refl _ _) _⟩
            case rest =>
              obtain ⟨hs, hbx⟩ := hcut
              subst hs
              rename World => wc
              clear y0 y1 y2 b0 b1 b2
              have Hown3 := Lib.hid (Hown1.out.below hbx (Nat.le_refl _))
              have Hblk3 := Lib.hid (Hblk1.out.below hbx Hblk1.out.lt)
              have Hbw3 := Lib.hid (Hbw1.out.trans (hbx.mono Hbw1.out.size))
              clear hbx
              have b0 := Hblk3.out.cell 0
              have b1 := Hblk3.out.cell 1
              have b2 := Hblk3.out.cell 2
              simp only [List.getElem?_toArray, List.getElem?_cons_zero, List.getElem?_cons_succ] at b0 b1 b2
              have y0 := (Hbw3.out.cell (p := ⟨b, o + k * 3, none⟩) Hbl.out).trans Q0.out
              have y1 := (Hbw3.out.cell (p := ⟨b, o + k * 3 + 1, none⟩) Hbl.out).trans Q1.out
              have y2 := (Hbw3.out.cell (p := ⟨b, o + k * 3 + 2, none⟩) Hbl.out).trans Q2.out
              have hszwc : w.heap.size + 1 ≤ wc.heap.size := Hblk3.out.lt
              go_wp2_with (first | (at_builtin; refine wpList_append_lies _ rfl _ _ 22 rfl (w.heap.size + 1) 67 i0 _ 3 24 Try.underlying22 hi hz0 hz1 hz2 rfl (by decide) _ (m).length ((m).flatMap prCells) rfl (OwnP.keep Hown3.out (w' := World.alloc wc _) fun j hj => Below.heap_alloc _ _ j (Hown3.out.lt hj).2) ⟨wc.heap.size, 0, none⟩ 1 1 (prCells y) rfl rfl (World.news_of_block (heap_alloc_new _ _)) pr_one (by decide) (by unfold maxLen; skip; omega) (by skip; omega) (by have := hszwc; simp; omega) _ rfl ?_; intro g' cap wd hownwd hgrwd hatwd hltwd))
              obtain ⟨r1, r2, r3⟩ := Happ.out _ _ _ _ (m) y _ rfl Hown3.out Hblk3.out Hbw3.out hownwd _ hgrwd
              have hk := Hk.out
              go_roundg (gk - 1)
              case measure => omega
              case rel => exact ⟨k + 1, false, (m) ++ [y], by omega, by go_num, rfl, by simp <;> omega, Hc.out, r1, r2, r3⟩
        · have hge : decide (y.pid ≥ p.pid) = true := decide_eq_true (by omega)
          have hne : (y.pid != p.pid) = false := by simp; omega
          have Hc := Lib.hid (laid_at Hla.out Hy.out heq)
          have hml' : m.length ≤ k := laid_len Hla.out
          clear heq
          go_upto_region 6 with fail
          go_cut [25] (fun s wx => s = .bool true ∧ Below wr.heap.size wr wx)
          case first =>
            go_quiet (fail)
            go_wp2
            go_meet
            case rel => exact ⟨rfl, below_drewN (Below.refl _ _) _⟩
          case rest =>
            obtain ⟨hs, hbx⟩ := hcut
            subst hs
            rename World => wa
            clear y0 y1 y2 b0 b1 b2
            have Hown1 := Lib.hid (Hown.out.below hbx (Nat.le_refl _))
            have Hblk1 := Lib.hid (Hblk.out.below hbx Hblk.out.lt)
            have Hbw1 := Lib.hid (Hbw.out.trans (hbx.mono Hbw.out.size))
            clear hbx
            have b0 := Hblk1.out.cell 0
            have b1 := Hblk1.out.cell 1
            have b2 := Hblk1.out.cell 2
            simp only [List.getElem?_toArray, List.getElem?_cons_zero, List.getElem?_cons_succ] at b0 b1 b2
            have y0 := (Hbw1.out.cell (p := ⟨b, o + k * 3, none⟩) Hbl.out).trans Q0.out
            have y1 := (Hbw1.out.cell (p := ⟨b, o + k * 3 + 1, none⟩) Hbl.out).trans Q1.out
            have y2 := (Hbw1.out.cell (p := ⟨b, o + k * 3 + 2, none⟩) Hbl.out).trans Q2.out
            have hszwa : w.heap.size + 1 ≤ wa.heap.size := Hblk1.out.lt
            go_upto_region 9 with (first | (at_builtin; refine wpList_append_lies _ rfl _ _ 22 rfl (w.heap.size + 1) 67 i0 _ 3 24 Try.underlying22 hi hz0 hz1 hz2 rfl (by decide) _ (m).length ((m).flatMap prCells) rfl (OwnP.keep Hown1.out (w' := World.alloc wa _) fun j hj => Below.heap_alloc _ _ j (Hown1.out.lt hj).2) ⟨wa.heap.size, 0, none⟩ 1 1 (prCells p) rfl rfl (World.news_of_block (heap_alloc_new _ _)) pr_one (by decide) (by unfold maxLen; skip; omega) (by skip; omega) (by have := hszwa; simp; omega) _ rfl ?_; intro g' cap wb hownwb hgrwb hatwb hltwb))
            obtain ⟨r1, r2, r3⟩ := Happ.out _ _ _ _ m p _ rfl Hown1.out Hblk1.out Hbw1.out hownwb _ hgrwb
            have Hown2 := Lib.hid r1
            have Hblk2 := Lib.hid r2
            have Hbw2 := Lib.hid r3
            clear r1 r2 r3 hownwb hgrwb hatwb hltwb
            clear y0 y1 y2 b0 b1 b2
            have b0 := Hblk2.out.cell 0
            have b1 := Hblk2.out.cell 1
            have b2 := Hblk2.out.cell 2
            simp only [List.getElem?_toArray, List.getElem?_cons_zero, List.getElem?_cons_succ] at b0 b1 b2
            have y0 := (Hbw2.out.cell (p := ⟨b, o + k * 3, none⟩) Hbl.out).trans Q0.out
            have y1 := (Hbw2.out.cell (p := ⟨b, o + k * 3 + 1, none⟩) Hbl.out).trans Q1.out
            have y2 := (Hbw2.out.cell (p := ⟨b, o + k * 3 + 2, none⟩) Hbl.out).trans Q2.out
            have hszwb : w.heap.size + 1 ≤ wb.heap.size := Hblk2.out.lt
            go_cut [37] (fun s wx => s = .bool false ∧ Below wb.heap.size wb wx)
            case first =>
              go_quiet (fail)
              go_wp2
              go_meet
              case rel => exact ⟨rfl, below_drewN (Below.refl _ _) _⟩
            case rest =>
              obtain ⟨hs, hbx⟩ := hcut
              subst hs
              rename World => wc
              clear y0 y1 y2 b0 b1 b2
              have Hown3 := Lib.hid (Hown2.out.below hbx (Nat.le_refl _))
              have Hblk3 := Lib.hid (Hblk2.out.below hbx Hblk2.out.lt)
              have Hbw3 := Lib.hid (Hbw2.out.trans (hbx.mono Hbw2.out.size))
              clear hbx
              have b0 := Hblk3.out.cell 0
              have b1 := Hblk3.out.cell 1
              have b2 := Hblk3.out.cell 2
              simp only [List.getElem?_toArray, List.getElem?_cons_zero, List.getElem?_cons_succ] at b0 b1 b2
              have y0 := (Hbw3.out.cell (p := ⟨b, o + k * 3, none⟩) Hbl.out).trans Q0.out
              have y1 := (Hbw3.out.cell (p := ⟨b, o + k * 3 + 1, none⟩) Hbl.out).trans Q1.out
              have y2 := (Hbw3.out.cell (p := ⟨b, o + k * 3 + 2, none⟩) Hbl.out).trans Q2.out
              have hszwc : w.heap.size + 1 ≤ wc.heap.size := Hblk3.out.lt
              go_wp2
              have hk := Hk.out
              go_roundg (gk - 1)
              case measure => omega
              case rel => exact ⟨k + 1, true, m ++ [p], by omega, by go_num, rfl, by simp <;> omega, Hc.out, Hown3.out, Hblk3.out, Hbw3.out⟩
        · have hge : decide (y.pid ≥ p.pid) = true := decide_eq_true (by omega)
          have hne : (y.pid != p.pid) = true := by simp; omega
          have Hc := Lib.hid (laid_over Hla.out Hy.out hgt)
          have hml' : m.length ≤ k := laid_len Hla.out
          clear hgt
          go_upto_region 6 with fail
          go_cut [25] (fun s wx => s = .bool true ∧ Below wr.heap.size wr wx)
          case first =>
            go_quiet (fail)
            go_wp2
            go_meet
            case rel => exact ⟨rfl, below_drewN (Below.refl _ _) _⟩
          case rest =>
            obtain ⟨hs, hbx⟩ := hcut
            subst hs
            rename World => wa
            clear y0 y1 y2 b0 b1 b2
            have Hown1 := Lib.hid (Hown.out.below hbx (Nat.le_refl _))
            have Hblk1 := Lib.hid (Hblk.out.below hbx Hblk.out.lt)
            have Hbw1 := Lib.hid (Hbw.out.trans (hbx.mono Hbw.out.size))
            clear hbx
            have b0 := Hblk1.out.cell 0
            have b1 := Hblk1.out.cell 1
            have b2 := Hblk1.out.cell 2
            simp only [List.getElem?_toArray, List.getElem?_cons_zero, List.getElem?_cons_succ] at b0 b1 b2
            have y0 := (Hbw1.out.cell (p := ⟨b, o + k * 3, none⟩) Hbl.out).trans Q0.out
            have y1 := (Hbw1.out.cell (p := ⟨b, o + k * 3 + 1, none⟩) Hbl.out).trans Q1.out
            have y2 := (Hbw1.out.cell (p := ⟨b, o + k * 3 + 2, none⟩) Hbl.out).trans Q2.out
            have hszwa : w.heap.size + 1 ≤ wa.heap.size := Hblk1.out.lt
            go_upto_region 9 with (first | (at_builtin; refine wpList_append_lies _ rfl _ _ 22 rfl (w.heap.size + 1) 67 i0 _ 3 24 Try.underlying22 hi hz0 hz1 hz2 rfl (by decide) _ (m).length ((m).flatMap prCells) rfl (OwnP.keep Hown1.out (w' := World.alloc wa _) fun j hj => Below.heap_alloc _ _ j (Hown1.out.lt hj).2) ⟨wa.heap.size, 0, none⟩ 1 1 (prCells p) rfl rfl (World.news_of_block (heap_alloc_new _ _)) pr_one (by decide) (by unfold maxLen; skip; omega) (by skip; omega) (by have := hszwa; simp; omega) _ rfl ?_; intro g' cap wb hownwb hgrwb hatwb hltwb))
            obtain ⟨r1, r2, r3⟩ := Happ.out _ _ _ _ m p _ rfl Hown1.out Hblk1.out Hbw1.out hownwb _ hgrwb
            have Hown2 := Lib.hid r1
            have Hblk2 := Lib.hid r2
            have Hbw2 := Lib.hid r3
            clear r1 r2 r3 hownwb hgrwb hatwb hltwb
            clear y0 y1 y2 b0 b1 b2
            have b0 := Hblk2.out.cell 0
            have b1 := Hblk2.out.cell 1
            have b2 := Hblk2.out.cell 2
            simp only [List.getElem?_toArray, List.getElem?_cons_zero, List.getElem?_cons_succ] at b0 b1 b2
            have y0 := (Hbw2.out.cell (p := ⟨b, o + k * 3, none⟩) Hbl.out).trans Q0.out
            have y1 := (Hbw2.out.cell (p := ⟨b, o + k * 3 + 1, none⟩) Hbl.out).trans Q1.out
            have y2 := (Hbw2.out.cell (p := ⟨b, o + k * 3 + 2, none⟩) Hbl.out).trans Q2.out
            have hszwb : w.heap.size + 1 ≤ wb.heap.size := Hblk2.out.lt
            go_cut [37] (fun s wx => s = .bool true ∧ Below wb.heap.size wb wx)
            case first =>
              go_quiet (fail)
              go_wp2
              go_meet
              case rel => exact ⟨rfl, below_drewN (Below.refl _ _) _⟩
            case rest =>
              obtain ⟨hs, hbx⟩ := hcut
              subst hs
              rename World => wc
              clear y0 y1 y2 b0 b1 b2
              have Hown3 := Lib.hid (Hown2.out.below hbx (Nat.le_refl _))
              have Hblk3 := Lib.hid (Hblk2.out.below hbx Hblk2.out.lt)
              have Hbw3 := Lib.hid (Hbw2.out.trans (hbx.mono Hbw2.out.size))
              clear hbx
              have b0 := Hblk3.out.cell 0
              have b1 := Hblk3.out.cell 1
              have b2 := Hblk3.out.cell 2
              simp only [List.getElem?_toArray, List.getElem?_cons_zero, List.getElem?_cons_succ] at b0 b1 b2
              have y0 := (Hbw3.out.cell (p := ⟨b, o + k * 3, none⟩) Hbl.out).trans Q0.out
              have y1 := (Hbw3.out.cell (p := ⟨b, o + k * 3 + 1, none⟩) Hbl.out).trans Q1.out
              have y2 := (Hbw3.out.cell (p := ⟨b, o + k * 3 + 2, none⟩) Hbl.out).trans Q2.out
              have hszwc : w.heap.size + 1 ≤ wc.heap.size := Hblk3.out.lt
              go_wp2_with (first | (at_builtin; refine wpList_append_lies _ rfl _ _ 22 rfl (w.heap.size + 1) 67 i0 _ 3 24 Try.underlying22 hi hz0 hz1 hz2 rfl (by decide) _ (m ++ [p]).length ((m ++ [p]).flatMap prCells) rfl (OwnP.keep Hown3.out (w' := World.alloc wc _) fun j hj => Below.heap_alloc _ _ j (Hown3.out.lt hj).2) ⟨wc.heap.size, 0, none⟩ 1 1 (prCells y) rfl rfl (World.news_of_block (heap_alloc_new _ _)) pr_one (by decide) (by unfold maxLen; simp only [List.length_append, List.length_singleton]; omega) (by simp only [List.length_append, List.length_singleton]; omega) (by have := hszwc; simp; omega) _ rfl ?_; intro g' cap wd hownwd hgrwd hatwd hltwd))
              obtain ⟨r1, r2, r3⟩ := Happ.out _ _ _ _ (m ++ [p]) y _ rfl Hown3.out Hblk3.out Hbw3.out hownwd _ hgrwd
              have hk := Hk.out
              go_roundg (gk - 1)
              case measure => omega
              case rel => exact ⟨k + 1, true, (m ++ [p]) ++ [y], by omega, by go_num, rfl, by simp <;> omega, Hc.out, by simpa only [List.length_append, List.length_singleton] using r1, r2, r3⟩
      · obtain ⟨hgt, hla2⟩ := laid_on Hla.out Hr.out Hy.out
        have hne : (y.pid != p.pid) = true := by simp; omega
        have Hc := Lib.hid hla2
        clear hgt hla2
        go_upto_region 6 with fail
        go_cut [25] (fun s wx => s = .bool false ∧ Below wr.heap.size wr wx)
        case first =>
          go_quiet (fail)
          go_wp2
          go_meet
          case rel => exact ⟨rfl, below_drewN (Below.refl _ _) _⟩
        case rest =>
          obtain ⟨hs, hbx⟩ := hcut
          subst hs
          rename World => wa
          clear y0 y1 y2 b0 b1 b2
          have Hown1 := Lib.hid (Hown.out.below hbx (Nat.le_refl _))
          have Hblk1 := Lib.hid (Hblk.out.below hbx Hblk.out.lt)
          have Hbw1 := Lib.hid (Hbw.out.trans (hbx.mono Hbw.out.size))
          clear hbx
          have b0 := Hblk1.out.cell 0
          have b1 := Hblk1.out.cell 1
          have b2 := Hblk1.out.cell 2
          simp only [List.getElem?_toArray, List.getElem?_cons_zero, List.getElem?_cons_succ] at b0 b1 b2
          have y0 := (Hbw1.out.cell (p := ⟨b, o + k * 3, none⟩) Hbl.out).trans Q0.out
          have y1 := (Hbw1.out.cell (p := ⟨b, o + k * 3 + 1, none⟩) Hbl.out).trans Q1.out
          have y2 := (Hbw1.out.cell (p := ⟨b, o + k * 3 + 2, none⟩) Hbl.out).trans Q2.out
          have hszwa : w.heap.size + 1 ≤ wa.heap.size := Hblk1.out.lt
          go_upto_region 9 with fail
          go_cut [37] (fun s wx => s = .bool true ∧ Below wa.heap.size wa wx)
          case first =>
            go_quiet (fail)
            go_wp2
            go_meet
            case rel => exact ⟨rfl, below_drewN (Below.refl _ _) _⟩
          case rest =>
            obtain ⟨hs, hbx⟩ := hcut
            subst hs
            rename World => wc
            clear y0 y1 y2 b0 b1 b2
            have Hown3 := Lib.hid (Hown1.out.below hbx (Nat.le_refl _))
            have Hblk3 := Lib.hid (Hblk1.out.below hbx Hblk1.out.lt)
            have Hbw3 := Lib.hid (Hbw1.out.trans (hbx.mono Hbw1.out.size))
            clear hbx
            have b0 := Hblk3.out.cell 0
            have b1 := Hblk3.out.cell 1
            have b2 := Hblk3.out.cell 2
            simp only [List.getElem?_toArray, List.getElem?_cons_zero, List.getElem?_cons_succ] at b0 b1 b2
            have y0 := (Hbw3.out.cell (p := ⟨b, o + k * 3, none⟩) Hbl.out).trans Q0.out
            have y1 := (Hbw3.out.cell (p := ⟨b, o + k * 3 + 1, none⟩) Hbl.out).trans Q1.out
            have y2 := (Hbw3.out.cell (p := ⟨b, o + k * 3 + 2, none⟩) Hbl.out).trans Q2.out
            have hszwc : w.heap.size + 1 ≤ wc.heap.size := Hblk3.out.lt
            go_wp2_with (first | (at_builtin; refine wpList_append_lies _ rfl _ _ 22 rfl (w.heap.size + 1) 67 i0 _ 3 24 Try.underlying22 hi hz0 hz1 hz2 rfl (by decide) _ (m).length ((m).flatMap prCells) rfl (OwnP.keep Hown3.out (w' := World.alloc wc _) fun j hj => Below.heap_alloc _ _ j (Hown3.out.lt hj).2) ⟨wc.heap.size, 0, none⟩ 1 1 (prCells y) rfl rfl (World.news_of_block (heap_alloc_new _ _)) pr_one (by decide) (by unfold maxLen; skip; omega) (by skip; omega) (by have := hszwc; simp; omega) _ rfl ?_; intro g' cap wd hownwd hgrwd hatwd hltwd))
            obtain ⟨r1, r2, r3⟩ := Happ.out _ _ _ _ (m) y _ rfl Hown3.out Hblk3.out Hbw3.out hownwd _ hgrwd
            have hk := Hk.out
            go_roundg (gk - 1)
            case measure => omega
            case rel => exact ⟨k + 1, true, (m) ++ [y], by omega, by go_num, rfl, by simp <;> omega, Hc.out, r1, r2, r3⟩
    · have hki : ¬ (k : Int) < tb.length := by omega
      have Hke := Lib.hid (show k = tb.length by omega)
      have hend := laid_end (by have := Hla.out; rw [Hke.out] at this; exact this)
      have Hend := Lib.hid hend
      have hsz1 : w.heap.size + 1 ≤ wr.heap.size := hws
      clear hend
      cases d
      · have he1 := Hend.out.1 rfl
        have He1 := Lib.hid he1
        clear he1 Hend
        go_wp2_with (first
          | (at_builtin; refine wpList_append_lies _ rfl _ _ 22 rfl (w.heap.size + 1) 67 i0 _ 3 24 Try.underlying22 hi hz0 hz1 hz2 rfl (by decide) _ m.length (m.flatMap prCells) rfl (OwnP.keep Hown.out (w' := wr.alloc _) fun j hj => Below.heap_alloc _ _ j (Hown.out.lt hj).2) ⟨wr.heap.size, 0, none⟩ 1 1 (prCells p) rfl rfl (World.news_of_block (heap_alloc_new _ _)) pr_one (by decide) (by unfold maxLen; omega) (by omega) (by simp; omega) _ rfl ?_; intro g' cap w8 hown3 hgr3 hat3 hlt3))
        go_ret
        obtain ⟨r1, _, r3⟩ := Happ.out _ _ _ _ m p _ rfl Hown.out Hblk.out Hbw.out hown3 _ hgr3
        exact ⟨_, rfl, by rw [He1.out] at r1; exact r1.mono (by omega), r3⟩
      · have he1 := Hend.out.2 rfl
        have He1 := Lib.hid he1
        clear he1 Hend
        go_wp2
        go_ret
        exact ⟨_, rfl, by rw [← He1.out]; exact Hown.out.mono (by omega), Hbw.out⟩
end Go.Proofs.Ytmcahimapoddfaa
