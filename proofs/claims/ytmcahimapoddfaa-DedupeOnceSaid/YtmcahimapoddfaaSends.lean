/- The walk of the law's 'sends', way by way. Conditions: the table and the list of what was given go together; the offset is a right one. -/
import Derived.Test.YtmcahimapoddfaaPlace
namespace Go.Proofs.Ytmcahimapoddfaa
open Go.RowKit Go.Maps

theorem GM.shape {w : World} {base : Nat} {v : Value} {l : List (Gv × Value)} (h : GM w base v l) : ∃ A c, v = .slice A l.length c := by
  rcases h.row.2 with ⟨rfl, h0⟩ | ⟨g, cap, cur, rfl, _⟩
  · exact ⟨none, 0, by rw [h0]⟩
  · exact ⟨_, _, rfl⟩
theorem TabAt.kept {B b m : Nat} {tb : List Pr} {S : Nat → Prop} {w w' : World} (h : TabAt w B b m tb) (hk : Kp S w w') (h1 : ¬ S b) (h2 : ¬ S m) : TabAt w' B b m tb := by
  refine ⟨(hk.block b h.cell.lt h1).trans h.cell, ?_, h.lb, h.lm, h.ne⟩
  obtain ⟨es, clock, hm, r⟩ := h.tab
  exact ⟨es, clock, (hk.block m h.tab.lt h2).trans hm, r⟩
theorem TabAt.low {B base b m : Nat} {tb : List Pr} {v : Value} {l : List (Gv × Value)} {w wg w' : World} (h : TabAt w B b m tb) (hg : GM wg base v l) (hk : Kp (Fp v l) w w') (h1 : b < base) (h2 : m < base) : TabAt w' B b m tb :=
  h.kept hk (fun e => by have := (hg.lt e).1; omega) (fun e => by have := (hg.lt e).1; omega)
theorem info69 : (Try.prog.info? 69).map (fun i => (i.zero, i.size, i.bytes)) = some (some (.agg #[.int .i64 0, .slice none 0 0]), 2, 32) := by kernel_rfl
theorem info2 : (Try.prog.info? 2).map (fun i => (i.zero, i.size, i.bytes)) = some (some (.int .i64 0), 1, 8) := by kernel_rfl
theorem news2 {w : World} {g : Nat} {x y : Value} (h0 : w.cell? ⟨g, 0, none⟩ = some x) (h1 : w.cell? ⟨g, 1, none⟩ = some y) : ∀ j u, [x, y][j]? = some u → w.cell? ((⟨g, 0, none⟩ : Addr).add j) = some u
  | 0, u, h => by injection h with h; subst h; exact h0
  | 1, u, h => by injection h with h; subst h; exact h1
/-- What 'sends' leaves behind. -/
def SendPost (B b m base : Nat) (w : World) (v0 : Value) (l : List (Gv × Value)) (tb : List Pr) (pid seq off : Int) (e : Ending) (w' : World) : Prop :=
  ∃ taken v' l' tb', e = .returned (.tuple #[v', .bool taken, .bool true]) ∧ TabAt w' B b m tb' ∧ GM w' base v' l' ∧ Once (l'.map (·.1)) tb' ∧
    (taken = true → goodB pid seq = true ∧ tb' = put tb ⟨pid, seq, off⟩ ∧ (look tb pid = none → tb.length < 64) ∧ ∀ q, look tb pid = some q → q.seq < seq) ∧ (taken = false → tb' = tb) ∧
    Kp (fun j => j = m ∨ Fp v0 l j) w w' ∧ ∀ j, Fp v' l' j → Fp v0 l j ∨ w.heap.size ≤ j
theorem post_same {B b m base : Nat} {w w' : World} {v0 : Value} {l : List (Gv × Value)} {tb : List Pr} {pid seq off : Int} (ht : TabAt w' B b m tb) (hg : GM w' base v0 l) (ho : Once (l.map (·.1)) tb)
    (hk : Kp (fun j => j = m ∨ Fp v0 l j) w w') : SendPost B b m base w v0 l tb pid seq off (.returned (.tuple #[v0, .bool false, .bool true])) w' :=
  ⟨false, v0, l, tb, rfl, ht, hg, ho, (by intro h; cases h), fun _ => rfl, hk, fun j hj => .inl hj⟩
/-- .. and behind a Note that changed nothing. -/
theorem post_noted {B b m base : Nat} {w w1 w2 w' : World} {v0 : Value} {l : List (Gv × Value)} {tb tb' : List Pr} {pid seq off : Int} (hb : Below w.heap.size w w1) (hg : GM w1 base v0 l) (hb2 : Below w1.heap.size w1 w2) (ho : Once (l.map (·.1)) tb)
    (ht : TabAt w' B b m tb') (he : tb' = tb) (hn : w2.grownBy w' (some m)) (hm : m < base) : SendPost B b m base w v0 l tb pid seq off (.returned (.tuple #[v0, .bool false, .bool true])) w' := by
  subst he
  refine post_same ht ((hg.below hb2).grown hn hm) ho ?_
  refine (Kp.of_below (S := fun j => j = m ∨ Fp v0 l j) (hb.trans (hb2.mono hb.size))).trans (Kp.of_grown hn) (fun j hj => ?_)
  injection hj with hj
  exact .inl (.inl hj.symm)

set_option maxRecDepth 100000 in
set_option maxHeartbeats 4000000 in
theorem sends_free (B b m base : Nat) (v0 : Value) (l : List (Gv × Value)) (tb : List Pr) (pid seq off : Int) (w : World) (ht : TabAt w B b m tb) (hb : b < base) (hm : m < base) (hB : base ≤ w.heap.size) (hg : GM w base v0 l) (ho : Once (l.map (·.1)) tb) (hoff : goodO off = true)
    (hp : pid = 0) (hs : seq = 0) :
    Calls Try.prog 28 #[.pointer (some ⟨b, 0, none⟩), v0, .agg #[.int .i64 pid, .int .i64 seq], .int .i64 off] w fun e w' => SendPost B b m base w v0 l tb pid seq off e w' := by
  obtain ⟨A, c, rfl⟩ := hg.shape
  have h64 : l.length ≤ 64 := by have := ho.size; simpa using this
  have hno : ∀ (k : Nat) (g : Gv), (l.map (·.1))[k]? = some g → g.pid ≠ pid := fun k g hk e => by
    obtain ⟨o, _, h2⟩ := ho.has k g hk
    have := (newOk_iff.1 ho.ok).2.2 _ (look_mem h2).1
    unfold okPr at this
    dsimp only at this
    omega
  have hj : judge tb pid seq = (0, 0) := judge_free ⟨hp, hs⟩
  have h0 : (pid == 0) = true := by simpa using hp
  have h1 : (seq == 0) = true := by simpa using hs
  have hbl := (Below.refl w.heap.size w).alloc (Nat.le_refl _) (.cells #[.int .i64 pid, .int .i64 seq] 39)
  have cJ := judge_any B b m tb _ (ht.below hbl (Nat.le_refl _)) ho.ok pid seq
  rw [hj] at cJ
  have x0 := cell_of_row _ _ 0 _ _ _ (heap_alloc_new w (.cells #[.int .i64 pid, .int .i64 seq] 39))
  have x1 := cell_of_row _ _ 1 _ _ _ (heap_alloc_new w (.cells #[.int .i64 pid, .int .i64 seq] 39))
  simp only [List.getElem?_toArray, List.getElem?_cons_zero, List.getElem?_cons_succ] at x0 x1
  have hs1 : w.heap.size < (w.alloc (.cells #[.int .i64 pid, .int .i64 seq] 39)).heap.size := by simp
  have Ht' := Lib.hid ht
  have Hg' := Lib.hid hg
  have Ho' := Lib.hid ho
  have Hbl' := Lib.hid hbl
  have Hs1' := Lib.hid hs1
  have Hoff' := Lib.hid hoff
  have HB' := Lib.hid hB
  have Hb' := Lib.hid hb
  have Hm' := Lib.hid hm
  clear ht hg ho hbl hs1 hoff hj hB hb hm
  have Hno := Lib.hid hno
  clear hno
  clear hp hs
  go_enter Try.func28, Try.ntmps28
  go_upto_region 1 with fail
  generalize hw1 : w.alloc (.cells #[.int .i64 pid, .int .i64 seq] 39) = w1 at *
  clear hw1
  go_upto_region 3 with (first
    | (go_at_call 18; refine cJ.mono ?_; rintro e w2 ⟨rfl, hb2⟩; have z0 := (hb2.cell (p := ⟨w.heap.size, 0, none⟩) Hs1'.out).trans x0; have z1 := (hb2.cell (p := ⟨w.heap.size, 1, none⟩) Hs1'.out).trans x1)
    | (go_at_call 29; refine (place_no (Hg'.out.below (Hbl'.out.trans (hb2.mono Hbl'.out.size))) h64 Hno.out).mono ?_; rintro e w3 ⟨rfl, rfl⟩))
  have hbw := Hbl'.out.trans (hb2.mono Hbl'.out.size)
  have Ht := Lib.hid (Ht'.out.below hbw (Nat.le_refl _))
  have Hg := Lib.hid (Hg'.out.below hbw)
  have Hb := Lib.hid hbw
  have hs2 : w.heap.size < w2.heap.size := by have := Hs1'.out; have := hb2.size; omega
  clear cJ x0 x1 hbw hb2 Ht' Hg' Hbl' Hs1'
  go_wp2
  go_ret3
  exact post_same Ht.out Hg.out Ho'.out (Kp.of_below Hb.out)

set_option maxRecDepth 100000 in
set_option maxHeartbeats 4000000 in
theorem sends_bad_no (B b m base : Nat) (v0 : Value) (l : List (Gv × Value)) (tb : List Pr) (pid seq off : Int) (w : World) (ht : TabAt w B b m tb) (hb : b < base) (hm : m < base) (hB : base ≤ w.heap.size) (hg : GM w base v0 l) (ho : Once (l.map (·.1)) tb) (hoff : goodO off = true)
    (hnz : pid = 0 → ¬ seq = 0) (hgood : goodB pid seq = false) (hno : ∀ (k : Nat) (g : Gv), (l.map (·.1))[k]? = some g → g.pid ≠ pid) :
    Calls Try.prog 28 #[.pointer (some ⟨b, 0, none⟩), v0, .agg #[.int .i64 pid, .int .i64 seq], .int .i64 off] w fun e w' => SendPost B b m base w v0 l tb pid seq off e w' := by
  obtain ⟨A, c, rfl⟩ := hg.shape
  have h64 : l.length ≤ 64 := by have := ho.size; simpa using this
  have hj : judge tb pid seq = (-1, 0) := judge_bad (fun h => hnz h.1 h.2) hgood
  have hbl := (Below.refl w.heap.size w).alloc (Nat.le_refl _) (.cells #[.int .i64 pid, .int .i64 seq] 39)
  have cJ := judge_any B b m tb _ (ht.below hbl (Nat.le_refl _)) ho.ok pid seq
  rw [hj] at cJ
  have x0 := cell_of_row _ _ 0 _ _ _ (heap_alloc_new w (.cells #[.int .i64 pid, .int .i64 seq] 39))
  have x1 := cell_of_row _ _ 1 _ _ _ (heap_alloc_new w (.cells #[.int .i64 pid, .int .i64 seq] 39))
  simp only [List.getElem?_toArray, List.getElem?_cons_zero, List.getElem?_cons_succ] at x0 x1
  have hs1 : w.heap.size < (w.alloc (.cells #[.int .i64 pid, .int .i64 seq] 39)).heap.size := by simp
  have Ht' := Lib.hid ht
  have Hg' := Lib.hid hg
  have Ho' := Lib.hid ho
  have Hbl' := Lib.hid hbl
  have Hs1' := Lib.hid hs1
  have Hoff' := Lib.hid hoff
  have HB' := Lib.hid hB
  have Hb' := Lib.hid hb
  have Hm' := Lib.hid hm
  clear ht hg ho hbl hs1 hoff hj hB hb hm
  have Hno := Lib.hid hno
  clear hno
  go_enter Try.func28, Try.ntmps28
  go_upto_region 1 with fail
  generalize hw1 : w.alloc (.cells #[.int .i64 pid, .int .i64 seq] 39) = w1 at *
  clear hw1
  go_upto_region 3 with (first
    | (go_at_call 18; refine cJ.mono ?_; rintro e w2 ⟨rfl, hb2⟩; have z0 := (hb2.cell (p := ⟨w.heap.size, 0, none⟩) Hs1'.out).trans x0; have z1 := (hb2.cell (p := ⟨w.heap.size, 1, none⟩) Hs1'.out).trans x1)
    | (go_at_call 29; refine (place_no (Hg'.out.below (Hbl'.out.trans (hb2.mono Hbl'.out.size))) h64 Hno.out).mono ?_; rintro e w3 ⟨rfl, rfl⟩))
  have hbw := Hbl'.out.trans (hb2.mono Hbl'.out.size)
  have Ht := Lib.hid (Ht'.out.below hbw (Nat.le_refl _))
  have Hg := Lib.hid (Hg'.out.below hbw)
  have Hb := Lib.hid hbw
  have hs2 : w.heap.size < w2.heap.size := by have := Hs1'.out; have := hb2.size; omega
  clear cJ x0 x1 hbw hb2 Ht' Hg' Hbl' Hs1'
  go_upto_region 6 with fail
  go_cut [37] (fun s wx => s = .bool false ∧ w2 = wx)
  case first =>
    by_cases hp0 : pid = 0
    · have hp0' : (pid == 0) = true := by simpa using hp0
      have hs0' : (seq == 0) = false := by simpa using hnz hp0
      clear hp0
      go_wp2
      go_meet
      case rel => exact ⟨rfl, rfl⟩
    · have hp0' : (pid == 0) = false := by simpa using hp0
      clear hp0
      go_wp2
      go_meet
      case rel => exact ⟨rfl, rfl⟩
  case rest =>
    obtain ⟨rfl, rfl⟩ := hcut
    clear hnz
    go_wp2_with (first | (go_at_call 43; refine (mine_any pid seq w2).mono ?_; rintro e w4 ⟨he4, hb4⟩; rw [hgood] at he4; subst he4; have z04 := (hb4.cell (p := ⟨w.heap.size, 0, none⟩) hs2).trans z0; have z14 := (hb4.cell (p := ⟨w.heap.size, 1, none⟩) hs2).trans z1))
    go_ret3
    exact post_same (Ht.out.below hb4 (Nat.le_refl _)) (Hg.out.below hb4) Ho'.out (Kp.of_below (Hb.out.trans (hb4.mono Hb.out.size)))

set_option maxRecDepth 100000 in
set_option maxHeartbeats 4000000 in
theorem sends_bad_yes (B b m base : Nat) (v0 : Value) (l : List (Gv × Value)) (tb : List Pr) (pid seq off : Int) (w : World) (ht : TabAt w B b m tb) (hb : b < base) (hm : m < base) (hB : base ≤ w.heap.size) (hg : GM w base v0 l) (ho : Once (l.map (·.1)) tb) (hoff : goodO off = true)
    (hnz : pid = 0 → ¬ seq = 0) (hgood : goodB pid seq = false) (hyes : ∃ (k : Nat) (p : Gv × Value), l[k]? = some p ∧ p.1.pid = pid) :
    Calls Try.prog 28 #[.pointer (some ⟨b, 0, none⟩), v0, .agg #[.int .i64 pid, .int .i64 seq], .int .i64 off] w fun e w' => SendPost B b m base w v0 l tb pid seq off e w' := by
  obtain ⟨A, c, rfl⟩ := hg.shape
  have h64 : l.length ≤ 64 := by have := ho.size; simpa using this
  obtain ⟨k, p, hk, hgp⟩ := hyes
  have hkm : (l.map (·.1))[k]? = some p.1 := by rw [List.getElem?_map, hk]; rfl
  obtain ⟨o1, hlast, hlk⟩ := ho.has k p.1 hkm
  have hcnt := ho.count hkm
  rw [hgp] at hlk
  have hj : judge tb pid seq = (-1, 0) := judge_bad (fun h => hnz h.1 h.2) hgood
  have hbl := (Below.refl w.heap.size w).alloc (Nat.le_refl _) (.cells #[.int .i64 pid, .int .i64 seq] 39)
  have cJ := judge_any B b m tb _ (ht.below hbl (Nat.le_refl _)) ho.ok pid seq
  rw [hj] at cJ
  have x0 := cell_of_row _ _ 0 _ _ _ (heap_alloc_new w (.cells #[.int .i64 pid, .int .i64 seq] 39))
  have x1 := cell_of_row _ _ 1 _ _ _ (heap_alloc_new w (.cells #[.int .i64 pid, .int .i64 seq] 39))
  simp only [List.getElem?_toArray, List.getElem?_cons_zero, List.getElem?_cons_succ] at x0 x1
  have hs1 : w.heap.size < (w.alloc (.cells #[.int .i64 pid, .int .i64 seq] 39)).heap.size := by simp
  have Ht' := Lib.hid ht
  have Hg' := Lib.hid hg
  have Ho' := Lib.hid ho
  have Hbl' := Lib.hid hbl
  have Hs1' := Lib.hid hs1
  have Hoff' := Lib.hid hoff
  have HB' := Lib.hid hB
  have Hb' := Lib.hid hb
  have Hm' := Lib.hid hm
  clear ht hg ho hbl hs1 hoff hj hB hb hm
  have Hk := Lib.hid hk
  have Hkm := Lib.hid hkm
  have Hgp := Lib.hid hgp
  have Hlast := Lib.hid hlast
  have Hlk := Lib.hid hlk
  clear hk hkm hgp hlast hlk
  go_enter Try.func28, Try.ntmps28
  go_upto_region 1 with fail
  generalize hw1 : w.alloc (.cells #[.int .i64 pid, .int .i64 seq] 39) = w1 at *
  clear hw1
  go_upto_region 3 with (first
    | (go_at_call 18; refine cJ.mono ?_; rintro e w2 ⟨rfl, hb2⟩; have z0 := (hb2.cell (p := ⟨w.heap.size, 0, none⟩) Hs1'.out).trans x0; have z1 := (hb2.cell (p := ⟨w.heap.size, 1, none⟩) Hs1'.out).trans x1)
    | (go_at_call 29; refine (place_yes (Hg'.out.below (Hbl'.out.trans (hb2.mono Hbl'.out.size))) h64 Hkm.out Hgp.out Ho'.out.one).mono ?_; rintro e w3 ⟨rfl, rfl⟩))
  have hbw := Hbl'.out.trans (hb2.mono Hbl'.out.size)
  have Ht := Lib.hid (Ht'.out.below hbw (Nat.le_refl _))
  have Hg := Lib.hid (Hg'.out.below hbw)
  have Hb := Lib.hid hbw
  have hs2 : w.heap.size < w2.heap.size := by have := Hs1'.out; have := hb2.size; omega
  clear cJ x0 x1 hbw hb2 Ht' Hg' Hbl' Hs1'
  have hkl := (List.getElem?_eq_some_iff.1 Hk.out).1
  obtain ⟨gb, cap, he, hgb1, hgb2, y0, y1, y2⟩ := Hg.out.place Hk.out
  injection he with he _ he2
  subst he he2
  obtain ⟨ub, ucap, hu, hub1, hub2⟩ := World.ownsRow.form (Hg.out.own k p Hk.out) (by omega)
  rw [hu] at y1
  have hki : (k : Int) < l.length := by omega
  have hk0 : (k : Int) ≥ 0 := by omega
  have hk1 : ¬ (k : Int) < 0 := by omega
  have hwl : IntKind.i64.wrap ((p.1.offs.length : Int) + 1) = p.1.offs.length + 1 := by rw [IntKind.wrap_i64]; omega
  have Hu := Lib.hid hu
  clear hu hub1 hgb1
  go_upto_region 6 with fail
  go_cut [37] (fun s wx => s = .bool false ∧ w2 = wx)
  case first =>
    by_cases hp0 : pid = 0
    · have hp0' : (pid == 0) = true := by simpa using hp0
      have hs0' : (seq == 0) = false := by simpa using hnz hp0
      clear hp0
      go_wp2
      go_meet
      case rel => exact ⟨rfl, rfl⟩
    · have hp0' : (pid == 0) = false := by simpa using hp0
      clear hp0
      go_wp2
      go_meet
      case rel => exact ⟨rfl, rfl⟩
  case rest =>
    obtain ⟨rfl, rfl⟩ := hcut
    clear hnz
    go_wp2_with (first | (go_at_call 43; refine (mine_any pid seq w2).mono ?_; rintro e w4 ⟨he4, hb4⟩; rw [hgood] at he4; subst he4; have z04 := (hb4.cell (p := ⟨w.heap.size, 0, none⟩) hs2).trans z0; have z14 := (hb4.cell (p := ⟨w.heap.size, 1, none⟩) hs2).trans z1))
    go_ret3
    exact post_same (Ht.out.below hb4 (Nat.le_refl _)) (Hg.out.below hb4) Ho'.out (Kp.of_below (Hb.out.trans (hb4.mono Hb.out.size)))

set_option maxRecDepth 100000 in
set_option maxHeartbeats 4000000 in
theorem sends_full (B b m base : Nat) (v0 : Value) (l : List (Gv × Value)) (tb : List Pr) (pid seq off : Int) (w : World) (ht : TabAt w B b m tb) (hb : b < base) (hm : m < base) (hB : base ≤ w.heap.size) (hg : GM w base v0 l) (ho : Once (l.map (·.1)) tb) (hoff : goodO off = true)
    (hgood : goodB pid seq = true) (hno : ∀ (k : Nat) (g : Gv), (l.map (·.1))[k]? = some g → g.pid ≠ pid) (hs : seq = 1) (hf : 64 ≤ l.length) :
    Calls Try.prog 28 #[.pointer (some ⟨b, 0, none⟩), v0, .agg #[.int .i64 pid, .int .i64 seq], .int .i64 off] w fun e w' => SendPost B b m base w v0 l tb pid seq off e w' := by
  obtain ⟨A, c, rfl⟩ := hg.shape
  have h64 : l.length ≤ 64 := by have := ho.size; simpa using this
  have hnz : pid = 0 → ¬ seq = 0 := fun h h' => absurd hgood (by rw [h, h']; decide)
  have hj : judge tb pid seq = (5, 0) := by rw [judge_none hgood (ho.non pid hno), if_neg (not_not_intro hs), if_pos (by have := ho.len; simp at this; omega)]
  have hs1' : (seq == 1) = true := by simpa using hs
  have hfi : (l.length : Int) ≥ 64 := by omega
  have hbl := (Below.refl w.heap.size w).alloc (Nat.le_refl _) (.cells #[.int .i64 pid, .int .i64 seq] 39)
  have cJ := judge_any B b m tb _ (ht.below hbl (Nat.le_refl _)) ho.ok pid seq
  rw [hj] at cJ
  have x0 := cell_of_row _ _ 0 _ _ _ (heap_alloc_new w (.cells #[.int .i64 pid, .int .i64 seq] 39))
  have x1 := cell_of_row _ _ 1 _ _ _ (heap_alloc_new w (.cells #[.int .i64 pid, .int .i64 seq] 39))
  simp only [List.getElem?_toArray, List.getElem?_cons_zero, List.getElem?_cons_succ] at x0 x1
  have hs1 : w.heap.size < (w.alloc (.cells #[.int .i64 pid, .int .i64 seq] 39)).heap.size := by simp
  have Ht' := Lib.hid ht
  have Hg' := Lib.hid hg
  have Ho' := Lib.hid ho
  have Hbl' := Lib.hid hbl
  have Hs1' := Lib.hid hs1
  have Hoff' := Lib.hid hoff
  have HB' := Lib.hid hB
  have Hb' := Lib.hid hb
  have Hm' := Lib.hid hm
  clear ht hg ho hbl hs1 hoff hj hB hb hm
  have Hno := Lib.hid hno
  clear hno
  clear hs hf
  go_enter Try.func28, Try.ntmps28
  go_upto_region 1 with fail
  generalize hw1 : w.alloc (.cells #[.int .i64 pid, .int .i64 seq] 39) = w1 at *
  clear hw1
  go_upto_region 3 with (first
    | (go_at_call 18; refine cJ.mono ?_; rintro e w2 ⟨rfl, hb2⟩; have z0 := (hb2.cell (p := ⟨w.heap.size, 0, none⟩) Hs1'.out).trans x0; have z1 := (hb2.cell (p := ⟨w.heap.size, 1, none⟩) Hs1'.out).trans x1)
    | (go_at_call 29; refine (place_no (Hg'.out.below (Hbl'.out.trans (hb2.mono Hbl'.out.size))) h64 Hno.out).mono ?_; rintro e w3 ⟨rfl, rfl⟩))
  have hbw := Hbl'.out.trans (hb2.mono Hbl'.out.size)
  have Ht := Lib.hid (Ht'.out.below hbw (Nat.le_refl _))
  have Hg := Lib.hid (Hg'.out.below hbw)
  have Hb := Lib.hid hbw
  have hs2 : w.heap.size < w2.heap.size := by have := Hs1'.out; have := hb2.size; omega
  clear cJ x0 x1 hbw hb2 Ht' Hg' Hbl' Hs1'
  go_upto_region 6 with fail
  go_cut [37] (fun s wx => s = .bool false ∧ w2 = wx)
  case first =>
    by_cases hp0 : pid = 0
    · have hp0' : (pid == 0) = true := by simpa using hp0
      have hs0' : (seq == 0) = false := by simpa using hnz hp0
      clear hp0
      go_wp2
      go_meet
      case rel => exact ⟨rfl, rfl⟩
    · have hp0' : (pid == 0) = false := by simpa using hp0
      clear hp0
      go_wp2
      go_meet
      case rel => exact ⟨rfl, rfl⟩
  case rest =>
    obtain ⟨rfl, rfl⟩ := hcut
    clear hnz
    go_wp2_with (first | (go_at_call 43; refine (mine_any pid seq w2).mono ?_; rintro e w4 ⟨he4, hb4⟩; rw [hgood] at he4; subst he4; have z04 := (hb4.cell (p := ⟨w.heap.size, 0, none⟩) hs2).trans z0; have z14 := (hb4.cell (p := ⟨w.heap.size, 1, none⟩) hs2).trans z1))
    go_ret3
    exact post_same (Ht.out.below hb4 (Nat.le_refl _)) (Hg.out.below hb4) Ho'.out (Kp.of_below (Hb.out.trans (hb4.mono Hb.out.size)))

set_option maxRecDepth 100000 in
set_option maxHeartbeats 4000000 in
theorem sends_gap_no (B b m base : Nat) (v0 : Value) (l : List (Gv × Value)) (tb : List Pr) (pid seq off : Int) (w : World) (ht : TabAt w B b m tb) (hb : b < base) (hm : m < base) (hB : base ≤ w.heap.size) (hg : GM w base v0 l) (ho : Once (l.map (·.1)) tb) (hoff : goodO off = true)
    (hgood : goodB pid seq = true) (hno : ∀ (k : Nat) (g : Gv), (l.map (·.1))[k]? = some g → g.pid ≠ pid) (hs : ¬ seq = 1) :
    Calls Try.prog 28 #[.pointer (some ⟨b, 0, none⟩), v0, .agg #[.int .i64 pid, .int .i64 seq], .int .i64 off] w fun e w' => SendPost B b m base w v0 l tb pid seq off e w' := by
  obtain ⟨A, c, rfl⟩ := hg.shape
  have h64 : l.length ≤ 64 := by have := ho.size; simpa using this
  have hnz : pid = 0 → ¬ seq = 0 := fun h h' => absurd hgood (by rw [h, h']; decide)
  have hgd := of_decide_eq_true hgood
  have hj : judge tb pid seq = (4, 0) := by rw [judge_none hgood (ho.non pid hno), if_pos hs]
  have hnote : noteR tb pid seq off = (90, tb) := by rw [note_not (by rw [hj]; decide), hj]; rfl
  have hs1' : (seq == 1) = false := by simpa using hs
  have hs2' : seq > 0 := by omega
  have hbl := (Below.refl w.heap.size w).alloc (Nat.le_refl _) (.cells #[.int .i64 pid, .int .i64 seq] 39)
  have cJ := judge_any B b m tb _ (ht.below hbl (Nat.le_refl _)) ho.ok pid seq
  rw [hj] at cJ
  have x0 := cell_of_row _ _ 0 _ _ _ (heap_alloc_new w (.cells #[.int .i64 pid, .int .i64 seq] 39))
  have x1 := cell_of_row _ _ 1 _ _ _ (heap_alloc_new w (.cells #[.int .i64 pid, .int .i64 seq] 39))
  simp only [List.getElem?_toArray, List.getElem?_cons_zero, List.getElem?_cons_succ] at x0 x1
  have hs1 : w.heap.size < (w.alloc (.cells #[.int .i64 pid, .int .i64 seq] 39)).heap.size := by simp
  have Ht' := Lib.hid ht
  have Hg' := Lib.hid hg
  have Ho' := Lib.hid ho
  have Hbl' := Lib.hid hbl
  have Hs1' := Lib.hid hs1
  have Hoff' := Lib.hid hoff
  have HB' := Lib.hid hB
  have Hb' := Lib.hid hb
  have Hm' := Lib.hid hm
  clear ht hg ho hbl hs1 hoff hj hB hb hm
  have Hno := Lib.hid hno
  clear hno
  clear hs hgd
  go_enter Try.func28, Try.ntmps28
  go_upto_region 1 with fail
  generalize hw1 : w.alloc (.cells #[.int .i64 pid, .int .i64 seq] 39) = w1 at *
  clear hw1
  go_upto_region 3 with (first
    | (go_at_call 18; refine cJ.mono ?_; rintro e w2 ⟨rfl, hb2⟩; have z0 := (hb2.cell (p := ⟨w.heap.size, 0, none⟩) Hs1'.out).trans x0; have z1 := (hb2.cell (p := ⟨w.heap.size, 1, none⟩) Hs1'.out).trans x1)
    | (go_at_call 29; refine (place_no (Hg'.out.below (Hbl'.out.trans (hb2.mono Hbl'.out.size))) h64 Hno.out).mono ?_; rintro e w3 ⟨rfl, rfl⟩))
  have hbw := Hbl'.out.trans (hb2.mono Hbl'.out.size)
  have Ht := Lib.hid (Ht'.out.below hbw (Nat.le_refl _))
  have Hg := Lib.hid (Hg'.out.below hbw)
  have Hb := Lib.hid hbw
  have hs2 : w.heap.size < w2.heap.size := by have := Hs1'.out; have := hb2.size; omega
  clear cJ x0 x1 hbw hb2 Ht' Hg' Hbl' Hs1'
  go_upto_region 6 with fail
  go_cut [37] (fun s wx => s = .bool false ∧ w2 = wx)
  case first =>
    by_cases hp0 : pid = 0
    · have hp0' : (pid == 0) = true := by simpa using hp0
      have hs0' : (seq == 0) = false := by simpa using hnz hp0
      clear hp0
      go_wp2
      go_meet
      case rel => exact ⟨rfl, rfl⟩
    · have hp0' : (pid == 0) = false := by simpa using hp0
      clear hp0
      go_wp2
      go_meet
      case rel => exact ⟨rfl, rfl⟩
  case rest =>
    obtain ⟨rfl, rfl⟩ := hcut
    clear hnz
    go_wp2_with (first | (go_at_call 43; refine (mine_any pid seq w2).mono ?_; rintro e w4 ⟨he4, hb4⟩; rw [hgood] at he4; subst he4; have z04 := (hb4.cell (p := ⟨w.heap.size, 0, none⟩) hs2).trans z0; have z14 := (hb4.cell (p := ⟨w.heap.size, 1, none⟩) hs2).trans z1) | (go_at_call 20; refine (note_any B b m tb w4 (Ht.out.below hb4 (Nat.le_refl _)) Ho'.out.ok pid seq off).mono ?_; rintro e w5 ⟨he5, ht5, hg5⟩; rw [hnote] at he5 ht5; dsimp only at he5 ht5; subst he5))
    go_ret3
    exact post_noted Hb.out Hg.out hb4 Ho'.out ht5 rfl hg5 Hm'.out

set_option maxRecDepth 100000 in
set_option maxHeartbeats 4000000 in
theorem sends_gap_yes (B b m base : Nat) (v0 : Value) (l : List (Gv × Value)) (tb : List Pr) (pid seq off : Int) (w : World) (ht : TabAt w B b m tb) (hb : b < base) (hm : m < base) (hB : base ≤ w.heap.size) (hg : GM w base v0 l) (ho : Once (l.map (·.1)) tb) (hoff : goodO off = true)
    (hgood : goodB pid seq = true) (hyes : ∃ (k : Nat) (p : Gv × Value), l[k]? = some p ∧ p.1.pid = pid) (hs : ∀ q, look tb pid = some q → q.seq < seq ∧ ¬ seq = q.seq + 1) :
    Calls Try.prog 28 #[.pointer (some ⟨b, 0, none⟩), v0, .agg #[.int .i64 pid, .int .i64 seq], .int .i64 off] w fun e w' => SendPost B b m base w v0 l tb pid seq off e w' := by
  obtain ⟨A, c, rfl⟩ := hg.shape
  have h64 : l.length ≤ 64 := by have := ho.size; simpa using this
  obtain ⟨k, p, hk, hgp⟩ := hyes
  have hkm : (l.map (·.1))[k]? = some p.1 := by rw [List.getElem?_map, hk]; rfl
  obtain ⟨o1, hlast, hlk⟩ := ho.has k p.1 hkm
  have hcnt := ho.count hkm
  rw [hgp] at hlk
  have hnz : pid = 0 → ¬ seq = 0 := fun h h' => absurd hgood (by rw [h, h']; decide)
  have hss := hs _ hlk
  dsimp only at hss
  have hj : judge tb pid seq = (4, 0) := by rw [judge_some hgood hlk, if_neg (by dsimp only; omega), if_neg (by dsimp only; omega), if_pos (by dsimp only; omega)]
  have hnote : noteR tb pid seq off = (90, tb) := by rw [note_not (by rw [hj]; decide), hj]; rfl
  have hs1' : (seq == (p.1.offs.length : Int) + 1) = false := by simpa using hss.2
  have hs2' : seq > p.1.offs.length := by omega
  have hbl := (Below.refl w.heap.size w).alloc (Nat.le_refl _) (.cells #[.int .i64 pid, .int .i64 seq] 39)
  have cJ := judge_any B b m tb _ (ht.below hbl (Nat.le_refl _)) ho.ok pid seq
  rw [hj] at cJ
  have x0 := cell_of_row _ _ 0 _ _ _ (heap_alloc_new w (.cells #[.int .i64 pid, .int .i64 seq] 39))
  have x1 := cell_of_row _ _ 1 _ _ _ (heap_alloc_new w (.cells #[.int .i64 pid, .int .i64 seq] 39))
  simp only [List.getElem?_toArray, List.getElem?_cons_zero, List.getElem?_cons_succ] at x0 x1
  have hs1 : w.heap.size < (w.alloc (.cells #[.int .i64 pid, .int .i64 seq] 39)).heap.size := by simp
  have Ht' := Lib.hid ht
  have Hg' := Lib.hid hg
  have Ho' := Lib.hid ho
  have Hbl' := Lib.hid hbl
  have Hs1' := Lib.hid hs1
  have Hoff' := Lib.hid hoff
  have HB' := Lib.hid hB
  have Hb' := Lib.hid hb
  have Hm' := Lib.hid hm
  clear ht hg ho hbl hs1 hoff hj hB hb hm
  have Hk := Lib.hid hk
  have Hkm := Lib.hid hkm
  have Hgp := Lib.hid hgp
  have Hlast := Lib.hid hlast
  have Hlk := Lib.hid hlk
  clear hk hkm hgp hlast hlk
  clear hss hs
  go_enter Try.func28, Try.ntmps28
  go_upto_region 1 with fail
  generalize hw1 : w.alloc (.cells #[.int .i64 pid, .int .i64 seq] 39) = w1 at *
  clear hw1
  go_upto_region 3 with (first
    | (go_at_call 18; refine cJ.mono ?_; rintro e w2 ⟨rfl, hb2⟩; have z0 := (hb2.cell (p := ⟨w.heap.size, 0, none⟩) Hs1'.out).trans x0; have z1 := (hb2.cell (p := ⟨w.heap.size, 1, none⟩) Hs1'.out).trans x1)
    | (go_at_call 29; refine (place_yes (Hg'.out.below (Hbl'.out.trans (hb2.mono Hbl'.out.size))) h64 Hkm.out Hgp.out Ho'.out.one).mono ?_; rintro e w3 ⟨rfl, rfl⟩))
  have hbw := Hbl'.out.trans (hb2.mono Hbl'.out.size)
  have Ht := Lib.hid (Ht'.out.below hbw (Nat.le_refl _))
  have Hg := Lib.hid (Hg'.out.below hbw)
  have Hb := Lib.hid hbw
  have hs2 : w.heap.size < w2.heap.size := by have := Hs1'.out; have := hb2.size; omega
  clear cJ x0 x1 hbw hb2 Ht' Hg' Hbl' Hs1'
  have hkl := (List.getElem?_eq_some_iff.1 Hk.out).1
  obtain ⟨gb, cap, he, hgb1, hgb2, y0, y1, y2⟩ := Hg.out.place Hk.out
  injection he with he _ he2
  subst he he2
  obtain ⟨ub, ucap, hu, hub1, hub2⟩ := World.ownsRow.form (Hg.out.own k p Hk.out) (by omega)
  rw [hu] at y1
  have hki : (k : Int) < l.length := by omega
  have hk0 : (k : Int) ≥ 0 := by omega
  have hk1 : ¬ (k : Int) < 0 := by omega
  have hwl : IntKind.i64.wrap ((p.1.offs.length : Int) + 1) = p.1.offs.length + 1 := by rw [IntKind.wrap_i64]; omega
  have Hu := Lib.hid hu
  clear hu hub1 hgb1
  go_upto_region 6 with fail
  go_cut [37] (fun s wx => s = .bool false ∧ w2 = wx)
  case first =>
    by_cases hp0 : pid = 0
    · have hp0' : (pid == 0) = true := by simpa using hp0
      have hs0' : (seq == 0) = false := by simpa using hnz hp0
      clear hp0
      go_wp2
      go_meet
      case rel => exact ⟨rfl, rfl⟩
    · have hp0' : (pid == 0) = false := by simpa using hp0
      clear hp0
      go_wp2
      go_meet
      case rel => exact ⟨rfl, rfl⟩
  case rest =>
    obtain ⟨rfl, rfl⟩ := hcut
    clear hnz
    go_wp2_with (first | (go_at_call 43; refine (mine_any pid seq w2).mono ?_; rintro e w4 ⟨he4, hb4⟩; rw [hgood] at he4; subst he4; have z04 := (hb4.cell (p := ⟨w.heap.size, 0, none⟩) hs2).trans z0; have z14 := (hb4.cell (p := ⟨w.heap.size, 1, none⟩) hs2).trans z1) | (go_at_call 20; refine (note_any B b m tb w4 (Ht.out.below hb4 (Nat.le_refl _)) Ho'.out.ok pid seq off).mono ?_; rintro e w5 ⟨he5, ht5, hg5⟩; rw [hnote] at he5 ht5; dsimp only at he5 ht5; subst he5))
    go_ret3
    exact post_noted Hb.out Hg.out hb4 Ho'.out ht5 rfl hg5 Hm'.out

set_option maxRecDepth 100000 in
set_option maxHeartbeats 4000000 in
theorem sends_stale (B b m base : Nat) (v0 : Value) (l : List (Gv × Value)) (tb : List Pr) (pid seq off : Int) (w : World) (ht : TabAt w B b m tb) (hb : b < base) (hm : m < base) (hB : base ≤ w.heap.size) (hg : GM w base v0 l) (ho : Once (l.map (·.1)) tb) (hoff : goodO off = true)
    (hgood : goodB pid seq = true) (hyes : ∃ (k : Nat) (p : Gv × Value), l[k]? = some p ∧ p.1.pid = pid) (hs : ∀ q, look tb pid = some q → seq < q.seq) :
    Calls Try.prog 28 #[.pointer (some ⟨b, 0, none⟩), v0, .agg #[.int .i64 pid, .int .i64 seq], .int .i64 off] w fun e w' => SendPost B b m base w v0 l tb pid seq off e w' := by
  obtain ⟨A, c, rfl⟩ := hg.shape
  have h64 : l.length ≤ 64 := by have := ho.size; simpa using this
  obtain ⟨k, p, hk, hgp⟩ := hyes
  have hkm : (l.map (·.1))[k]? = some p.1 := by rw [List.getElem?_map, hk]; rfl
  obtain ⟨o1, hlast, hlk⟩ := ho.has k p.1 hkm
  have hcnt := ho.count hkm
  rw [hgp] at hlk
  have hnz : pid = 0 → ¬ seq = 0 := fun h h' => absurd hgood (by rw [h, h']; decide)
  have hss := hs _ hlk
  dsimp only at hss
  have hj : judge tb pid seq = (3, 0) := by rw [judge_some hgood hlk, if_neg (by dsimp only; omega), if_pos (by dsimp only; omega)]
  have hnote : noteR tb pid seq off = (91, tb) := by rw [note_not (by rw [hj]; decide), hj]; rfl
  have hs1' : (seq == (p.1.offs.length : Int) + 1) = false := by simp; omega
  have hs2' : ¬ seq > p.1.offs.length := by omega
  have hs3' : (seq == (p.1.offs.length : Int)) = false := by simp; omega
  have hbl := (Below.refl w.heap.size w).alloc (Nat.le_refl _) (.cells #[.int .i64 pid, .int .i64 seq] 39)
  have cJ := judge_any B b m tb _ (ht.below hbl (Nat.le_refl _)) ho.ok pid seq
  rw [hj] at cJ
  have x0 := cell_of_row _ _ 0 _ _ _ (heap_alloc_new w (.cells #[.int .i64 pid, .int .i64 seq] 39))
  have x1 := cell_of_row _ _ 1 _ _ _ (heap_alloc_new w (.cells #[.int .i64 pid, .int .i64 seq] 39))
  simp only [List.getElem?_toArray, List.getElem?_cons_zero, List.getElem?_cons_succ] at x0 x1
  have hs1 : w.heap.size < (w.alloc (.cells #[.int .i64 pid, .int .i64 seq] 39)).heap.size := by simp
  have Ht' := Lib.hid ht
  have Hg' := Lib.hid hg
  have Ho' := Lib.hid ho
  have Hbl' := Lib.hid hbl
  have Hs1' := Lib.hid hs1
  have Hoff' := Lib.hid hoff
  have HB' := Lib.hid hB
  have Hb' := Lib.hid hb
  have Hm' := Lib.hid hm
  clear ht hg ho hbl hs1 hoff hj hB hb hm
  have Hk := Lib.hid hk
  have Hkm := Lib.hid hkm
  have Hgp := Lib.hid hgp
  have Hlast := Lib.hid hlast
  have Hlk := Lib.hid hlk
  clear hk hkm hgp hlast hlk
  clear hss hs
  go_enter Try.func28, Try.ntmps28
  go_upto_region 1 with fail
  generalize hw1 : w.alloc (.cells #[.int .i64 pid, .int .i64 seq] 39) = w1 at *
  clear hw1
  go_upto_region 3 with (first
    | (go_at_call 18; refine cJ.mono ?_; rintro e w2 ⟨rfl, hb2⟩; have z0 := (hb2.cell (p := ⟨w.heap.size, 0, none⟩) Hs1'.out).trans x0; have z1 := (hb2.cell (p := ⟨w.heap.size, 1, none⟩) Hs1'.out).trans x1)
    | (go_at_call 29; refine (place_yes (Hg'.out.below (Hbl'.out.trans (hb2.mono Hbl'.out.size))) h64 Hkm.out Hgp.out Ho'.out.one).mono ?_; rintro e w3 ⟨rfl, rfl⟩))
  have hbw := Hbl'.out.trans (hb2.mono Hbl'.out.size)
  have Ht := Lib.hid (Ht'.out.below hbw (Nat.le_refl _))
  have Hg := Lib.hid (Hg'.out.below hbw)
  have Hb := Lib.hid hbw
  have hs2 : w.heap.size < w2.heap.size := by have := Hs1'.out; have := hb2.size; omega
  clear cJ x0 x1 hbw hb2 Ht' Hg' Hbl' Hs1'
  have hkl := (List.getElem?_eq_some_iff.1 Hk.out).1
  obtain ⟨gb, cap, he, hgb1, hgb2, y0, y1, y2⟩ := Hg.out.place Hk.out
  injection he with he _ he2
  subst he he2
  obtain ⟨ub, ucap, hu, hub1, hub2⟩ := World.ownsRow.form (Hg.out.own k p Hk.out) (by omega)
  rw [hu] at y1
  have hki : (k : Int) < l.length := by omega
  have hk0 : (k : Int) ≥ 0 := by omega
  have hk1 : ¬ (k : Int) < 0 := by omega
  have hwl : IntKind.i64.wrap ((p.1.offs.length : Int) + 1) = p.1.offs.length + 1 := by rw [IntKind.wrap_i64]; omega
  have Hu := Lib.hid hu
  clear hu hub1 hgb1
  go_upto_region 6 with fail
  go_cut [37] (fun s wx => s = .bool false ∧ w2 = wx)
  case first =>
    by_cases hp0 : pid = 0
    · have hp0' : (pid == 0) = true := by simpa using hp0
      have hs0' : (seq == 0) = false := by simpa using hnz hp0
      clear hp0
      go_wp2
      go_meet
      case rel => exact ⟨rfl, rfl⟩
    · have hp0' : (pid == 0) = false := by simpa using hp0
      clear hp0
      go_wp2
      go_meet
      case rel => exact ⟨rfl, rfl⟩
  case rest =>
    obtain ⟨rfl, rfl⟩ := hcut
    clear hnz
    go_wp2_with (first | (go_at_call 43; refine (mine_any pid seq w2).mono ?_; rintro e w4 ⟨he4, hb4⟩; rw [hgood] at he4; subst he4; have z04 := (hb4.cell (p := ⟨w.heap.size, 0, none⟩) hs2).trans z0; have z14 := (hb4.cell (p := ⟨w.heap.size, 1, none⟩) hs2).trans z1) | (go_at_call 20; refine (note_any B b m tb w4 (Ht.out.below hb4 (Nat.le_refl _)) Ho'.out.ok pid seq off).mono ?_; rintro e w5 ⟨he5, ht5, hg5⟩; rw [hnote] at he5 ht5; dsimp only at he5 ht5; subst he5))
    go_ret3
    exact post_noted Hb.out Hg.out hb4 Ho'.out ht5 rfl hg5 Hm'.out

set_option maxRecDepth 100000 in
set_option maxHeartbeats 4000000 in
theorem sends_again (B b m base : Nat) (v0 : Value) (l : List (Gv × Value)) (tb : List Pr) (pid seq off : Int) (w : World) (ht : TabAt w B b m tb) (hb : b < base) (hm : m < base) (hB : base ≤ w.heap.size) (hg : GM w base v0 l) (ho : Once (l.map (·.1)) tb) (hoff : goodO off = true)
    (hgood : goodB pid seq = true) (hyes : ∃ (k : Nat) (p : Gv × Value), l[k]? = some p ∧ p.1.pid = pid) (hs : ∀ q, look tb pid = some q → seq = q.seq) :
    Calls Try.prog 28 #[.pointer (some ⟨b, 0, none⟩), v0, .agg #[.int .i64 pid, .int .i64 seq], .int .i64 off] w fun e w' => SendPost B b m base w v0 l tb pid seq off e w' := by
  obtain ⟨A, c, rfl⟩ := hg.shape
  have h64 : l.length ≤ 64 := by have := ho.size; simpa using this
  obtain ⟨k, p, hk, hgp⟩ := hyes
  have hkm : (l.map (·.1))[k]? = some p.1 := by rw [List.getElem?_map, hk]; rfl
  obtain ⟨o1, hlast, hlk⟩ := ho.has k p.1 hkm
  have hcnt := ho.count hkm
  rw [hgp] at hlk
  have hnz : pid = 0 → ¬ seq = 0 := fun h h' => absurd hgood (by rw [h, h']; decide)
  have hss := hs _ hlk
  dsimp only at hss
  have hj : judge tb pid seq = (2, o1) := by rw [judge_some hgood hlk, if_pos hss]
  have hnote : noteR tb pid seq off = (0, tb) := note_again (by rw [hj]; rfl) (by rw [hj]; exact (by decide : ¬ (2 : Int) = 1)) hoff
  have hs1' : (seq == (p.1.offs.length : Int) + 1) = false := by simp; omega
  have hs2' : ¬ seq > p.1.offs.length := by omega
  have hs3' : (seq == (p.1.offs.length : Int)) = true := by simpa using hss
  have hbl := (Below.refl w.heap.size w).alloc (Nat.le_refl _) (.cells #[.int .i64 pid, .int .i64 seq] 39)
  have cJ := judge_any B b m tb _ (ht.below hbl (Nat.le_refl _)) ho.ok pid seq
  rw [hj] at cJ
  have x0 := cell_of_row _ _ 0 _ _ _ (heap_alloc_new w (.cells #[.int .i64 pid, .int .i64 seq] 39))
  have x1 := cell_of_row _ _ 1 _ _ _ (heap_alloc_new w (.cells #[.int .i64 pid, .int .i64 seq] 39))
  simp only [List.getElem?_toArray, List.getElem?_cons_zero, List.getElem?_cons_succ] at x0 x1
  have hs1 : w.heap.size < (w.alloc (.cells #[.int .i64 pid, .int .i64 seq] 39)).heap.size := by simp
  have Ht' := Lib.hid ht
  have Hg' := Lib.hid hg
  have Ho' := Lib.hid ho
  have Hbl' := Lib.hid hbl
  have Hs1' := Lib.hid hs1
  have Hoff' := Lib.hid hoff
  have HB' := Lib.hid hB
  have Hb' := Lib.hid hb
  have Hm' := Lib.hid hm
  clear ht hg ho hbl hs1 hoff hj hB hb hm
  have Hk := Lib.hid hk
  have Hkm := Lib.hid hkm
  have Hgp := Lib.hid hgp
  have Hlast := Lib.hid hlast
  have Hlk := Lib.hid hlk
  clear hk hkm hgp hlast hlk
  clear hss hs
  go_enter Try.func28, Try.ntmps28
  go_upto_region 1 with fail
  generalize hw1 : w.alloc (.cells #[.int .i64 pid, .int .i64 seq] 39) = w1 at *
  clear hw1
  go_upto_region 3 with (first
    | (go_at_call 18; refine cJ.mono ?_; rintro e w2 ⟨rfl, hb2⟩; have z0 := (hb2.cell (p := ⟨w.heap.size, 0, none⟩) Hs1'.out).trans x0; have z1 := (hb2.cell (p := ⟨w.heap.size, 1, none⟩) Hs1'.out).trans x1)
    | (go_at_call 29; refine (place_yes (Hg'.out.below (Hbl'.out.trans (hb2.mono Hbl'.out.size))) h64 Hkm.out Hgp.out Ho'.out.one).mono ?_; rintro e w3 ⟨rfl, rfl⟩))
  have hbw := Hbl'.out.trans (hb2.mono Hbl'.out.size)
  have Ht := Lib.hid (Ht'.out.below hbw (Nat.le_refl _))
  have Hg := Lib.hid (Hg'.out.below hbw)
  have Hb := Lib.hid hbw
  have hs2 : w.heap.size < w2.heap.size := by have := Hs1'.out; have := hb2.size; omega
  clear cJ x0 x1 hbw hb2 Ht' Hg' Hbl' Hs1'
  have hkl := (List.getElem?_eq_some_iff.1 Hk.out).1
  obtain ⟨gb, cap, he, hgb1, hgb2, y0, y1, y2⟩ := Hg.out.place Hk.out
  injection he with he _ he2
  subst he he2
  obtain ⟨ub, ucap, hu, hub1, hub2⟩ := World.ownsRow.form (Hg.out.own k p Hk.out) (by omega)
  rw [hu] at y1
  have hki : (k : Int) < l.length := by omega
  have hk0 : (k : Int) ≥ 0 := by omega
  have hk1 : ¬ (k : Int) < 0 := by omega
  have hwl : IntKind.i64.wrap ((p.1.offs.length : Int) + 1) = p.1.offs.length + 1 := by rw [IntKind.wrap_i64]; omega
  have Hu := Lib.hid hu
  clear hu hub1 hgb1
  go_upto_region 6 with fail
  go_cut [37] (fun s wx => s = .bool false ∧ w2 = wx)
  case first =>
    by_cases hp0 : pid = 0
    · have hp0' : (pid == 0) = true := by simpa using hp0
      have hs0' : (seq == 0) = false := by simpa using hnz hp0
      clear hp0
      go_wp2
      go_meet
      case rel => exact ⟨rfl, rfl⟩
    · have hp0' : (pid == 0) = false := by simpa using hp0
      clear hp0
      go_wp2
      go_meet
      case rel => exact ⟨rfl, rfl⟩
  case rest =>
    obtain ⟨rfl, rfl⟩ := hcut
    clear hnz
    have hoo : (o1 == o1) = true := by simp
    have hwm : IntKind.i64.wrap ((p.1.offs.length : Int) - 1) = ((p.1.offs.length - 1 : Nat) : Int) := by rw [IntKind.wrap_i64]; omega
    have hix : ((p.1.offs.length - 1 : Nat) : Int) < p.1.offs.length := by omega
    have hown := Hg.out.own k p Hk.out
    rw [Hu.out] at hown
    have hcu : w2.cell? ⟨ub, p.1.offs.length - 1, none⟩ = some (.int .i64 o1) := by rw [World.ownsRow.cellAt hown _ (by omega), List.getElem?_map, Hlast.out]; rfl
    clear hown
    go_upto_region 22 with (first | (go_at_call 43; refine (mine_any pid seq w2).mono ?_; rintro e w4 ⟨he4, hb4⟩; rw [hgood] at he4; subst he4; have z04 := (hb4.cell (p := ⟨w.heap.size, 0, none⟩) hs2).trans z0; have z14 := (hb4.cell (p := ⟨w.heap.size, 1, none⟩) hs2).trans z1) | (go_at_call 20; refine (note_any B b m tb w4 (Ht.out.below hb4 (Nat.le_refl _)) Ho'.out.ok pid seq off).mono ?_; rintro e w5 ⟨he5, ht5, hg5⟩; rw [hnote] at he5 ht5; dsimp only at he5 ht5; subst he5))
    have hcu4 := (hb4.cell (p := ⟨ub, p.1.offs.length - 1, none⟩) hub2).trans hcu
    have y14 := (hb4.cell (p := ⟨gb, k * 2 + 1, none⟩) hgb2).trans y1
    go_wp2_with (first | (go_at_call 20; refine (note_any B b m tb w4 (Ht.out.below hb4 (Nat.le_refl _)) Ho'.out.ok pid seq off).mono ?_; rintro e w5 ⟨he5, ht5, hg5⟩; rw [hnote] at he5 ht5; dsimp only at he5 ht5; subst he5))
    go_ret3
    exact post_noted Hb.out Hg.out hb4 Ho'.out ht5 rfl hg5 Hm'.out

set_option maxRecDepth 100000 in
set_option maxHeartbeats 4000000 in
theorem sends_next (B b m base : Nat) (v0 : Value) (l : List (Gv × Value)) (tb : List Pr) (pid seq off : Int) (w : World) (ht : TabAt w B b m tb) (hb : b < base) (hm : m < base) (hB : base ≤ w.heap.size) (hg : GM w base v0 l) (ho : Once (l.map (·.1)) tb) (hoff : goodO off = true)
    (hgood : goodB pid seq = true) (hyes : ∃ (k : Nat) (p : Gv × Value), l[k]? = some p ∧ p.1.pid = pid) (hs : ∀ q, look tb pid = some q → seq = q.seq + 1) :
    Calls Try.prog 28 #[.pointer (some ⟨b, 0, none⟩), v0, .agg #[.int .i64 pid, .int .i64 seq], .int .i64 off] w fun e w' => SendPost B b m base w v0 l tb pid seq off e w' := by
  obtain ⟨A, c, rfl⟩ := hg.shape
  have h64 : l.length ≤ 64 := by have := ho.size; simpa using this
  obtain ⟨k, p, hk, hgp⟩ := hyes
  have hkm : (l.map (·.1))[k]? = some p.1 := by rw [List.getElem?_map, hk]; rfl
  obtain ⟨o1, hlast, hlk⟩ := ho.has k p.1 hkm
  have hcnt := ho.count hkm
  rw [hgp] at hlk
  have hnz : pid = 0 → ¬ seq = 0 := fun h h' => absurd hgood (by rw [h, h']; decide)
  have hss := hs _ hlk
  dsimp only at hss
  have hj : judge tb pid seq = (1, 0) := by rw [judge_some hgood hlk, if_neg (by dsimp only; omega), if_neg (by dsimp only; omega), if_neg (by dsimp only; omega)]
  have hnote : noteR tb pid seq off = (0, put tb ⟨pid, seq, off⟩) := note_put (by rw [hj]) hoff
  have hs1' : (seq == (p.1.offs.length : Int) + 1) = true := by simpa using hss
  have Hss := Lib.hid hss
  have Hgood := Lib.hid hgood
  have hbl := (Below.refl w.heap.size w).alloc (Nat.le_refl _) (.cells #[.int .i64 pid, .int .i64 seq] 39)
  have cJ := judge_any B b m tb _ (ht.below hbl (Nat.le_refl _)) ho.ok pid seq
  rw [hj] at cJ
  have x0 := cell_of_row _ _ 0 _ _ _ (heap_alloc_new w (.cells #[.int .i64 pid, .int .i64 seq] 39))
  have x1 := cell_of_row _ _ 1 _ _ _ (heap_alloc_new w (.cells #[.int .i64 pid, .int .i64 seq] 39))
  simp only [List.getElem?_toArray, List.getElem?_cons_zero, List.getElem?_cons_succ] at x0 x1
  have hs1 : w.heap.size < (w.alloc (.cells #[.int .i64 pid, .int .i64 seq] 39)).heap.size := by simp
  have Ht' := Lib.hid ht
  have Hg' := Lib.hid hg
  have Ho' := Lib.hid ho
  have Hbl' := Lib.hid hbl
  have Hs1' := Lib.hid hs1
  have Hoff' := Lib.hid hoff
  have HB' := Lib.hid hB
  have Hb' := Lib.hid hb
  have Hm' := Lib.hid hm
  clear ht hg ho hbl hs1 hoff hj hB hb hm
  have Hk := Lib.hid hk
  have Hkm := Lib.hid hkm
  have Hgp := Lib.hid hgp
  have Hlast := Lib.hid hlast
  have Hlk := Lib.hid hlk
  clear hk hkm hgp hlast hlk
  clear hss hs
  go_enter Try.func28, Try.ntmps28
  go_upto_region 1 with fail
  generalize hw1 : w.alloc (.cells #[.int .i64 pid, .int .i64 seq] 39) = w1 at *
  clear hw1
  go_upto_region 3 with (first
    | (go_at_call 18; refine cJ.mono ?_; rintro e w2 ⟨rfl, hb2⟩; have z0 := (hb2.cell (p := ⟨w.heap.size, 0, none⟩) Hs1'.out).trans x0; have z1 := (hb2.cell (p := ⟨w.heap.size, 1, none⟩) Hs1'.out).trans x1)
    | (go_at_call 29; refine (place_yes (Hg'.out.below (Hbl'.out.trans (hb2.mono Hbl'.out.size))) h64 Hkm.out Hgp.out Ho'.out.one).mono ?_; rintro e w3 ⟨rfl, rfl⟩))
  have hbw := Hbl'.out.trans (hb2.mono Hbl'.out.size)
  have Ht := Lib.hid (Ht'.out.below hbw (Nat.le_refl _))
  have Hg := Lib.hid (Hg'.out.below hbw)
  have Hb := Lib.hid hbw
  have hs2 : w.heap.size < w2.heap.size := by have := Hs1'.out; have := hb2.size; omega
  clear cJ x0 x1 hbw hb2 Ht' Hg' Hbl' Hs1'
  have hkl := (List.getElem?_eq_some_iff.1 Hk.out).1
  obtain ⟨gb, cap, he, hgb1, hgb2, y0, y1, y2⟩ := Hg.out.place Hk.out
  injection he with he _ he2
  subst he he2
  obtain ⟨ub, ucap, hu, hub1, hub2⟩ := World.ownsRow.form (Hg.out.own k p Hk.out) (by omega)
  rw [hu] at y1
  have hki : (k : Int) < l.length := by omega
  have hk0 : (k : Int) ≥ 0 := by omega
  have hk1 : ¬ (k : Int) < 0 := by omega
  have hwl : IntKind.i64.wrap ((p.1.offs.length : Int) + 1) = p.1.offs.length + 1 := by rw [IntKind.wrap_i64]; omega
  have Hu := Lib.hid hu
  clear hu hub1 hgb1
  go_upto_region 6 with fail
  go_cut [37] (fun s wx => s = .bool false ∧ w2 = wx)
  case first =>
    by_cases hp0 : pid = 0
    · have hp0' : (pid == 0) = true := by simpa using hp0
      have hs0' : (seq == 0) = false := by simpa using hnz hp0
      clear hp0
      go_wp2
      go_meet
      case rel => exact ⟨rfl, rfl⟩
    · have hp0' : (pid == 0) = false := by simpa using hp0
      clear hp0
      go_wp2
      go_meet
      case rel => exact ⟨rfl, rfl⟩
  case rest =>
    obtain ⟨rfl, rfl⟩ := hcut
    clear hnz
    have hub3 := Hg.out.far k p Hk.out ub (by rw [Hu.out]; rfl)
    have hgbu : gb ≠ ub := fun e => hub3 (by rw [← e]; rfl)
    go_upto_region 17 with (first | (go_at_call 43; refine (mine_any pid seq w2).mono ?_; rintro e w4 ⟨he4, hb4⟩; rw [hgood] at he4; subst he4; have z04 := (hb4.cell (p := ⟨w.heap.size, 0, none⟩) hs2).trans z0; have z14 := (hb4.cell (p := ⟨w.heap.size, 1, none⟩) hs2).trans z1) | (go_at_call 20; refine (note_any B b m tb w4 (Ht.out.below hb4 (Nat.le_refl _)) Ho'.out.ok pid seq off).mono ?_; rintro e w5 ⟨he5, ht5, hg5⟩; rw [hnote] at he5 ht5; dsimp only at he5 ht5; subst he5))
    have g5 := (Hg.out.below hb4).grown hg5 Hm'.out
    obtain ⟨gb', cap', he, _, _, _, y15, y25⟩ := (g5.below ((Below.refl _ _).alloc (Nat.le_refl _) (.cells #[.int .i64 off] 2))).place Hk.out
    injection he with he _ he2
    injection he with he
    injection he with he _ _
    subst he he2
    rw [Hu.out] at y15
    obtain ⟨gb', cap', he, _, hgl5, _, y16, _⟩ := g5.place Hk.out
    injection he with he _ he2
    injection he with he
    injection he with he _ _
    subst he he2
    rw [Hu.out] at y16
    have hown := World.ownsRow.alloc (g5.own k p Hk.out) (.cells #[.int .i64 off] 2)
    rw [Hu.out] at hown
    obtain ⟨i0, hi, hz0, hz1, hz2⟩ := info_parts info2
    have hszB : base ≤ w5.heap.size := by have := (g5.lt (b := gb) (.inl rfl)); omega
    have Hown := Lib.hid hown
    have G5 := Lib.hid g5
    have Ht5 := Lib.hid ht5
    have Hb4 := Lib.hid hb4
    have Hg5 := Lib.hid hg5
    have hfb : (w5.alloc (.cells #[.int .i64 off] 2)).heap.size = w5.heap.size + 1 := by simp
    clear hown g5 ht5 hb4 hg5
    go_wp2_with (first
      | (at_builtin; refine wpList_append_lies _ rfl _ _ 61 rfl base 2 i0 (.int .i64 0) 1 8 Try.underlying61 hi hz0 hz1 hz2 rfl (by decide) _ p.1.offs.length (p.1.offs.map (Value.int .i64)) rfl Hown.out ⟨w5.heap.size, 0, none⟩ 1 1 [.int .i64 off] rfl rfl (World.news_of_block (heap_alloc_new _ _)) (by simp [Value.oneCell']) (by decide) (by unfold maxLen; omega) (by omega) (by simp; omega) _ rfl ?_; intro g' cap6 w6 hown6 hgr6 hat6 hlt6; have e2 := (hgr6.cell_far ⟨gb, k * 2 + 1, none⟩ (by rw [hfb]; exact Nat.lt_succ_of_lt hgl5) (fun e => by injection e with e; exact hgbu e)).trans y15; have e3 := (hgr6.frozen_far ⟨gb, k * 2 + 1, none⟩ (by rw [hfb]; exact Nat.lt_succ_of_lt hgl5) (fun e => by injection e with e; exact hgbu e)).trans y25; have Hown6 := Lib.hid hown6; have Hgr6 := Lib.hid hgr6; have Hat6 := Lib.hid hat6; clear hown6 hgr6 hat6))
    have hrow := Hown6.out
    have hgg := G5.out.grow (g := p.1) (u := p.2) (o := off) (g' := g') (cap := cap6) Hk.out rfl ((Below.refl w5.heap.size w5).alloc (Nat.le_refl _) (.cells #[.int .i64 off] 2)) (w1 := w6) (by rw [Hu.out]; exact Hgr6.out) (by unfold OwnI; simpa using hrow) (by rw [Hu.out]; exact Hat6.out)
    obtain ⟨q1, q2, q3⟩ := hgg
    have hb5 := Hb.out.trans (Hb4.out.mono Hb.out.size)
    have k5 : Kp (fun j => j = m ∨ Fp (.slice (some ⟨gb, 0, none⟩) l.length c) l j) w w5 := (Kp.of_below hb5).trans (Kp.of_grown Hg5.out) (fun j hj => by injection hj with hj; exact .inl (.inl hj.symm))
    go_ret3
    refine ⟨true, _, _, put tb ⟨pid, seq, off⟩, rfl, Ht5.out.low G5.out q2 Hb'.out Hm'.out, q1, ?_, fun _ => ⟨Hgood.out, rfl, fun e => (by rw [Hlk.out] at e; cases e), fun q hq => ?_⟩, (by intro h; cases h), k5.trans q2 (fun j hj => .inl (.inr hj)), fun j hj => ?_⟩
    · have hn := Ho'.out.next (o := off) Hkm.out (by
        have h1 := of_decide_eq_true Hgood.out
        have h2 := of_decide_eq_true Hoff'.out
        have h3 := Hss.out
        unfold okPr
        dsimp only
        rw [Hgp.out]
        omega)
      rw [List.map_set]
      rw [Hgp.out, ← Hss.out] at hn
      rw [Hgp.out]
      exact hn
    · rw [Hlk.out] at hq
      injection hq with hq
      rw [← hq]
      have := Hss.out
      dsimp only
      omega
    · rcases q3 j hj with h | h
      · exact .inl h
      · exact .inr (by have := k5.size; omega)

set_option maxRecDepth 100000 in
set_option maxHeartbeats 4000000 in
theorem sends_fresh (B b m base : Nat) (v0 : Value) (l : List (Gv × Value)) (tb : List Pr) (pid seq off : Int) (w : World) (ht : TabAt w B b m tb) (hb : b < base) (hm : m < base) (hB : base ≤ w.heap.size) (hg : GM w base v0 l) (ho : Once (l.map (·.1)) tb) (hoff : goodO off = true)
    (hgood : goodB pid seq = true) (hno : ∀ (k : Nat) (g : Gv), (l.map (·.1))[k]? = some g → g.pid ≠ pid) (hs : seq = 1) (hf : ¬ 64 ≤ l.length) :
    Calls Try.prog 28 #[.pointer (some ⟨b, 0, none⟩), v0, .agg #[.int .i64 pid, .int .i64 seq], .int .i64 off] w fun e w' => SendPost B b m base w v0 l tb pid seq off e w' := by
  obtain ⟨A, c, rfl⟩ := hg.shape
  have h64 : l.length ≤ 64 := by have := ho.size; simpa using this
  have hnz : pid = 0 → ¬ seq = 0 := fun h h' => absurd hgood (by rw [h, h']; decide)
  have hlk := ho.non pid hno
  have htl := ho.len
  rw [List.length_map] at htl
  have hj : judge tb pid seq = (1, 0) := by rw [judge_none hgood hlk, if_neg (not_not_intro hs), if_neg (by omega)]
  have hnote : noteR tb pid seq off = (0, put tb ⟨pid, seq, off⟩) := note_put (by rw [hj]) hoff
  have hs1' : (seq == 1) = true := by simpa using hs
  have hfi : ¬ (l.length : Int) ≥ 64 := by omega
  have Hss := Lib.hid hs
  have Hgood := Lib.hid hgood
  have Hlk := Lib.hid hlk
  have Htl := Lib.hid htl
  have hbl := (Below.refl w.heap.size w).alloc (Nat.le_refl _) (.cells #[.int .i64 pid, .int .i64 seq] 39)
  have cJ := judge_any B b m tb _ (ht.below hbl (Nat.le_refl _)) ho.ok pid seq
  rw [hj] at cJ
  have x0 := cell_of_row _ _ 0 _ _ _ (heap_alloc_new w (.cells #[.int .i64 pid, .int .i64 seq] 39))
  have x1 := cell_of_row _ _ 1 _ _ _ (heap_alloc_new w (.cells #[.int .i64 pid, .int .i64 seq] 39))
  simp only [List.getElem?_toArray, List.getElem?_cons_zero, List.getElem?_cons_succ] at x0 x1
  have hs1 : w.heap.size < (w.alloc (.cells #[.int .i64 pid, .int .i64 seq] 39)).heap.size := by simp
  have Ht' := Lib.hid ht
  have Hg' := Lib.hid hg
  have Ho' := Lib.hid ho
  have Hbl' := Lib.hid hbl
  have Hs1' := Lib.hid hs1
  have Hoff' := Lib.hid hoff
  have HB' := Lib.hid hB
  have Hb' := Lib.hid hb
  have Hm' := Lib.hid hm
  clear ht hg ho hbl hs1 hoff hj hB hb hm
  have Hno := Lib.hid hno
  clear hno
  clear hs hf hlk htl
  go_enter Try.func28, Try.ntmps28
  go_upto_region 1 with fail
  generalize hw1 : w.alloc (.cells #[.int .i64 pid, .int .i64 seq] 39) = w1 at *
  clear hw1
  go_upto_region 3 with (first
    | (go_at_call 18; refine cJ.mono ?_; rintro e w2 ⟨rfl, hb2⟩; have z0 := (hb2.cell (p := ⟨w.heap.size, 0, none⟩) Hs1'.out).trans x0; have z1 := (hb2.cell (p := ⟨w.heap.size, 1, none⟩) Hs1'.out).trans x1)
    | (go_at_call 29; refine (place_no (Hg'.out.below (Hbl'.out.trans (hb2.mono Hbl'.out.size))) h64 Hno.out).mono ?_; rintro e w3 ⟨rfl, rfl⟩))
  have hbw := Hbl'.out.trans (hb2.mono Hbl'.out.size)
  have Ht := Lib.hid (Ht'.out.below hbw (Nat.le_refl _))
  have Hg := Lib.hid (Hg'.out.below hbw)
  have Hb := Lib.hid hbw
  have hs2 : w.heap.size < w2.heap.size := by have := Hs1'.out; have := hb2.size; omega
  clear cJ x0 x1 hbw hb2 Ht' Hg' Hbl' Hs1'
  go_upto_region 6 with fail
  go_cut [37] (fun s wx => s = .bool false ∧ w2 = wx)
  case first =>
    by_cases hp0 : pid = 0
    · have hp0' : (pid == 0) = true := by simpa using hp0
      have hs0' : (seq == 0) = false := by simpa using hnz hp0
      clear hp0
      go_wp2
      go_meet
      case rel => exact ⟨rfl, rfl⟩
    · have hp0' : (pid == 0) = false := by simpa using hp0
      clear hp0
      go_wp2
      go_meet
      case rel => exact ⟨rfl, rfl⟩
  case rest =>
    obtain ⟨rfl, rfl⟩ := hcut
    clear hnz
    have hwm : ¬ some w.heap.size = some m := fun e => by injection e with e; have := HB'.out; have := Hm'.out; omega
    go_upto_region 15 with (first | (go_at_call 43; refine (mine_any pid seq w2).mono ?_; rintro e w4 ⟨he4, hb4⟩; rw [hgood] at he4; subst he4; have z04 := (hb4.cell (p := ⟨w.heap.size, 0, none⟩) hs2).trans z0; have z14 := (hb4.cell (p := ⟨w.heap.size, 1, none⟩) hs2).trans z1) | (go_at_call 20; refine (note_any B b m tb w4 (Ht.out.below hb4 (Nat.le_refl _)) Ho'.out.ok pid seq off).mono ?_; rintro e w5 ⟨he5, ht5, hg5⟩; rw [hnote] at he5 ht5; dsimp only at he5 ht5; subst he5; have z05 := (hg5.cell_far ⟨w.heap.size, 0, none⟩ (by have := hb4.size; show w.heap.size < _; omega) hwm).trans z04))
    have g5 := (Hg.out.below hb4).grown hg5 Hm'.out
    have ga := g5.below ((Below.refl _ _).alloc (Nat.le_refl _) (.cells #[.int .i64 pid, .slice none 0 0] 69))
    obtain ⟨i0, hi, hz0, hz1, hz2⟩ := info_parts info69
    obtain ⟨i1, hi', hz0', hz1', hz2'⟩ := info_parts info2
    have hb5 := Hb.out.trans (hb4.mono Hb.out.size)
    have k5 : Kp (fun j => j = m ∨ Fp (.slice A l.length c) l j) w w5 := (Kp.of_below hb5).trans (Kp.of_grown hg5) (fun j hj => by injection hj with hj; exact .inl (.inl hj.symm))
    have hszB : base ≤ w5.heap.size := by have := k5.size; have := HB'.out; omega
    have n0 := cell_of_row _ _ 0 _ _ _ (heap_alloc_new w5 (.cells #[.int .i64 pid, .slice none 0 0] 69))
    have n1 := cell_of_row _ _ 1 _ _ _ (heap_alloc_new w5 (.cells #[.int .i64 pid, .slice none 0 0] 69))
    simp only [List.getElem?_toArray, List.getElem?_cons_zero, List.getElem?_cons_succ] at n0 n1
    have N01 := Lib.hid (news2 n0 n1)
    have hfb : (w5.alloc (.cells #[.int .i64 pid, .slice none 0 0] 69)).heap.size = w5.heap.size + 1 := by simp
    have Ga := Lib.hid ga
    have G5 := Lib.hid g5
    have Ht5 := Lib.hid ht5
    have K5 := Lib.hid k5
    clear n0 n1 ga g5 ht5 k5 hb5 hb4 hg5 z04 z14 z0 z1
    go_upto_region 16 with (first
      | (at_builtin; refine wpList_append_lies _ rfl _ _ 62 rfl base 69 i0 (.agg #[.int .i64 0, .slice none 0 0]) 2 32 Try.underlying62 hi hz0 hz1 hz2 rfl (by decide) _ l.length (l.flatMap gvCells) rfl Ga.out.row ⟨w5.heap.size, 0, none⟩ 1 1 [.int .i64 pid, .slice none 0 0] rfl rfl N01.out (by simp [Value.oneCell']) (by decide) (by unfold maxLen; omega) (by omega) (by simp; omega) _ rfl ?_; intro gb cap6 w6 hown6 hgr6 hat6 hlt6))
    generalize hn1 : l.length + 1 = n1 at *
    have hwl : IntKind.i64.wrap ((n1 : Int) - 1) = (l.length : Int) := by rw [IntKind.wrap_i64]; omega
    have hki : (l.length : Int) < n1 := by omega
    have g6 := GM.add (pid := pid) Ga.out hown6 hn1.symm hgr6 (by rcases hat6 with h | h; exact .inl h.symm; exact .inr (by rw [h]; rfl))
    have k6 : Kp (Fp (.slice A l.length c) l) w5 w6 := (Kp.of_below ((Below.refl _ _).alloc (Nat.le_refl _) (.cells #[.int .i64 pid, .slice none 0 0] 69))).trans (Kp.of_grown hgr6) (fun j hj => .inl (.inl hj))
    have f6 : ∀ j, Fp (.slice (some ⟨gb, 0, none⟩) n1 cap6) (l ++ [(⟨pid, []⟩, .slice none 0 0)]) j → Fp (.slice A l.length c) l j ∨ w5.heap.size ≤ j := fun j hj => by
      rcases hj with hj | ⟨i, p, hp, hj⟩
      · have e : some gb = some j := hj
        injection e with e
        subst e
        rcases hat6 with h | h
        · exact .inl (.inl h)
        · exact .inr (by rw [h, hfb]; omega)
      · rcases Nat.lt_or_ge i l.length with hlt | hge
        · rw [List.getElem?_append_left hlt] at hp; exact .inl (.inr ⟨i, p, hp, hj⟩)
        · rw [List.getElem?_append_right hge] at hp
          have := List.mem_of_getElem? hp
          simp at this
          subst this
          cases hj
    have hk6 : (l ++ [((⟨pid, []⟩ : Gv), Value.slice none 0 0)])[l.length]? = some (⟨pid, []⟩, .slice none 0 0) := by simp
    have hl6 : (l ++ [((⟨pid, []⟩ : Gv), Value.slice none 0 0)]).length = n1 := by simp [hn1]
    obtain ⟨gb', cap', he, _, hgl6, _, y1, _⟩ := g6.place hk6
    injection he with he hln he2
    clear hln
    injection he with he
    injection he with he _ _
    subst he he2
    obtain ⟨gb', cap', he, _, _, _, y15, y25⟩ := (g6.below ((Below.refl _ _).alloc (Nat.le_refl _) (.cells #[.int .i64 off] 2))).place hk6
    injection he with he hln he2
    clear hln
    injection he with he
    injection he with he _ _
    subst he he2
    dsimp only at y1 y15
    have hfb6 : (w6.alloc (.cells #[.int .i64 off] 2)).heap.size = w6.heap.size + 1 := by simp
    have hszB6 : base ≤ w6.heap.size := by have := k6.size; omega
    have G6 := Lib.hid g6
    have K6 := Lib.hid k6
    have F6 := Lib.hid f6
    have Hk6 := Lib.hid hk6
    have Hl6 := Lib.hid hl6
    have Hn1 := Lib.hid hn1
    clear g6 k6 f6 hown6 hgr6 hat6 hk6 hl6 hn1
    go_wp2_with (first
      | (at_builtin; refine wpList_append_lies _ rfl _ _ 61 rfl base 2 i1 (.int .i64 0) 1 8 Try.underlying61 hi' hz0' hz1' hz2' rfl (by decide) _ 0 [] rfl (World.ownsRow_nil _ _ _ _) ⟨w6.heap.size, 0, none⟩ 1 1 [.int .i64 off] rfl rfl (World.news_of_block (heap_alloc_new _ _)) (by simp [Value.oneCell']) (by decide) (by unfold maxLen; omega) (by omega) (by simp; omega) _ rfl ?_; intro g' cap7 w7 hown7 hgr7 hat7 hlt7; have e2 := (hgr7.cell_far ⟨gb, l.length * 2 + 1, none⟩ (by rw [hfb6]; exact Nat.lt_succ_of_lt hgl6) (by intro e; cases e)).trans y15; have e3 := (hgr7.frozen_far ⟨gb, l.length * 2 + 1, none⟩ (by rw [hfb6]; exact Nat.lt_succ_of_lt hgl6) (by intro e; cases e)).trans y25; have Hown7 := Lib.hid hown7; have Hgr7 := Lib.hid hgr7; have Hat7 := Lib.hid hat7; clear hown7 hgr7 hat7))
    have hrow := Hown7.out
    have hgg := G6.out.grow (g := ⟨pid, []⟩) (u := .slice none 0 0) (o := off) (g' := g') (cap := cap7) Hk6.out (by rw [Hl6.out]) ((Below.refl w6.heap.size w6).alloc (Nat.le_refl _) (.cells #[.int .i64 off] 2)) (w1 := w7) Hgr7.out (by unfold OwnI; simpa using hrow) Hat7.out
    obtain ⟨q1, q2, q3⟩ := hgg
    have hset : (l ++ [((⟨pid, []⟩ : Gv), Value.slice none 0 0)]).set l.length (⟨pid, [off]⟩, .slice (some ⟨g', 0, none⟩) (0 + 1) cap7) = l ++ [(⟨pid, [off]⟩, .slice (some ⟨g', 0, none⟩) (0 + 1) cap7)] := by simp
    have kf : Kp (Fp (.slice A l.length c) l) w5 (w7.setCell ⟨gb, l.length * 2 + 1, none⟩ (.slice (some ⟨g', 0, none⟩) (0 + 1) cap7)) := K6.out.trans q2 F6.out
    have sz5 := K5.out.size
    go_ret3
    refine ⟨true, _, _, put tb ⟨pid, seq, off⟩, rfl, Ht5.out.low G5.out kf Hb'.out Hm'.out, q1, ?_, fun _ => ⟨Hgood.out, rfl, fun _ => (by have := Htl.out; omega), fun q hq => (by rw [Hlk.out] at hq; cases hq)⟩, (by intro h; cases h), K5.out.trans kf (fun j hj => .inl (.inr hj)), fun j hj => ?_⟩
    · have hn := Ho'.out.fresh (p := pid) (o := off) Hno.out (by
        have h1 := of_decide_eq_true Hgood.out
        have h2 := of_decide_eq_true Hoff'.out
        unfold okPr
        dsimp only
        omega) (by have := Htl.out; omega)
      show Once ((List.set (l ++ [((⟨pid, []⟩ : Gv), Value.slice none 0 0)]) l.length (⟨pid, [off]⟩, .slice (some ⟨g', 0, none⟩) (0 + 1) cap7)).map (·.1)) _
      rw [hset, List.map_append, Hss.out]
      exact hn
    · rcases q3 j hj with h | h
      · rcases F6.out j h with h | h
        · exact .inl h
        · exact .inr (by omega)
      · exact .inr (by have := K6.out.size; omega)

theorem sends_any (B b m base : Nat) (v0 : Value) (l : List (Gv × Value)) (tb : List Pr) (pid seq off : Int) (w : World) (ht : TabAt w B b m tb) (hb : b < base) (hm : m < base) (hB : base ≤ w.heap.size) (hg : GM w base v0 l) (ho : Once (l.map (·.1)) tb) (hoff : goodO off = true) :
    Calls Try.prog 28 #[.pointer (some ⟨b, 0, none⟩), v0, .agg #[.int .i64 pid, .int .i64 seq], .int .i64 off] w fun e w' => SendPost B b m base w v0 l tb pid seq off e w' := by
  by_cases hyes : ∃ (k : Nat) (p : Gv × Value), l[k]? = some p ∧ p.1.pid = pid
  · obtain ⟨k, p, hk, hgp⟩ := id hyes
    have hkm : (l.map (·.1))[k]? = some p.1 := by rw [List.getElem?_map, hk]; rfl
    obtain ⟨o1, hlast, hlk⟩ := ho.has k p.1 hkm
    rw [hgp] at hlk
    have hq := (newOk_iff.1 ho.ok).2.2 _ (look_mem hlk).1
    unfold okPr at hq
    dsimp only at hq
    have hone : ∀ q, look tb pid = some q → q = ⟨pid, p.1.offs.length, o1⟩ := fun q h => by rw [hlk] at h; injection h with h; exact h.symm
    rcases Bool.eq_false_or_eq_true (goodB pid seq) with hgood | hgood
    rotate_left
    · exact sends_bad_yes B b m base v0 l tb pid seq off w ht hb hm hB hg ho hoff (by omega) hgood hyes
    · by_cases h1 : seq = p.1.offs.length + 1
      · exact sends_next B b m base v0 l tb pid seq off w ht hb hm hB hg ho hoff hgood hyes (fun q h => by rw [hone q h]; exact h1)
      · by_cases h2 : seq = p.1.offs.length
        · exact sends_again B b m base v0 l tb pid seq off w ht hb hm hB hg ho hoff hgood hyes (fun q h => by rw [hone q h]; exact h2)
        · by_cases h3 : seq < p.1.offs.length
          · exact sends_stale B b m base v0 l tb pid seq off w ht hb hm hB hg ho hoff hgood hyes (fun q h => by rw [hone q h]; exact h3)
          · exact sends_gap_yes B b m base v0 l tb pid seq off w ht hb hm hB hg ho hoff hgood hyes (fun q h => by rw [hone q h]; dsimp only; omega)
  · have hno : ∀ (k : Nat) (g : Gv), (l.map (·.1))[k]? = some g → g.pid ≠ pid := fun k g hk e => by
      rw [List.getElem?_map] at hk
      obtain ⟨p, hp, hpg⟩ := Option.map_eq_some_iff.1 hk
      exact hyes ⟨k, p, hp, by rw [hpg]; exact e⟩
    by_cases hz : pid = 0 ∧ seq = 0
    · exact sends_free B b m base v0 l tb pid seq off w ht hb hm hB hg ho hoff hz.1 hz.2
    · rcases Bool.eq_false_or_eq_true (goodB pid seq) with hgood | hgood
      rotate_left
      · exact sends_bad_no B b m base v0 l tb pid seq off w ht hb hm hB hg ho hoff (fun h h' => hz ⟨h, h'⟩) hgood hno
      · by_cases h1 : seq = 1
        · by_cases hf : 64 ≤ l.length
          · exact sends_full B b m base v0 l tb pid seq off w ht hb hm hB hg ho hoff hgood hno h1 hf
          · exact sends_fresh B b m base v0 l tb pid seq off w ht hb hm hB hg ho hoff hgood hno h1 hf
        · exact sends_gap_no B b m base v0 l tb pid seq off w ht hb hm hB hg ho hoff hgood hno h1

end Go.Proofs.Ytmcahimapoddfaa
