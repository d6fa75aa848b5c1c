/- The walks of the reference's reader: New, Waiting, Dead, End. Conditions: none. -/
import Derived.Test.YtkllgmhfjibajaaRCut
import Derived.Deep.RegionWith
namespace Go.Proofs.Ytkllgmhfjibajaa
open Go.RowKit St
/-- The reference's reader at block g: the limit, the stream, how many pieces have been told. -/
structure RF (w : World) (base g : Nat) (v : Value) (lim : Int) (xs : List Int) (told : Nat) : Prop where
  blk : Blk w g 66 #[.int .i64 lim, v, .int .i64 (told : Int)]
  own : OwnB w base v xs
section
variable {w w' : World} {base g : Nat} {v : Value} {lim : Int} {xs : List Int} {told : Nat}
theorem RF.ne (h : RF w base g v lim xs told) : v.ownBlock ≠ some g := h.own.ne_blk h.blk (by decide)
theorem RF.kp {S : Nat → Prop} (h : RF w base g v lim xs told) (hk : Kp S w w') (hg : ¬ S g) (hv : ∀ b, v.ownBlock = some b → ¬ S b) : RF w' base g v lim xs told := ⟨h.blk.kp hk hg, h.own.kp hk hv⟩
theorem RF.below (h : RF w base g v lim xs told) (hb : Below w.heap.size w w') : RF w' base g v lim xs told := ⟨h.blk.below hb h.blk.lt, h.own.below hb⟩
end
theorem rnew_bad (lim : Int) (w : World) (h : lim < 64 ∨ 4096 < lim) : Calls Try.prog 19 #[.int .i64 lim] w fun e w' => e = .returned (.tuple #[.pointer none, .int .i64 3]) ∧ w' = w := by
  go_enter Try.func19, Try.ntmps19
  by_cases h1 : lim < 64
  · go_wp2
    go_ret2
    exact ⟨rfl, rfl⟩
  · have h2 : lim > 4096 := by omega
    go_wp2
    go_ret2
    exact ⟨rfl, rfl⟩
theorem rnew_good (lim : Int) (w : World) (h : 64 ≤ lim ∧ lim ≤ 4096) : Calls Try.prog 19 #[.int .i64 lim] w fun e w' => e = .returned (.tuple #[.pointer (some ⟨w.heap.size, 0, none⟩), .int .i64 0]) ∧ Below w.heap.size w w' ∧ RF w' w.heap.size w.heap.size (.slice none 0 0) lim [] 0 := by
  have h1 : ¬ lim < 64 := by omega
  have h2 : ¬ lim > 4096 := by omega
  clear h
  go_enter Try.func19, Try.ntmps19
  go_wp2
  go_ret2
  exact ⟨rfl, (Below.refl _ _).alloc (Nat.le_refl _) _, Blk.new _ _ _, OwnB.nil _ _⟩
theorem bcell {B : Nat} {w w' : World} (h : Below B w w') : (∀ b i, b < B → w'.cell? ⟨b, i, none⟩ = w.cell? ⟨b, i, none⟩) ∧ ∀ b i, b < B → w'.frozen? ⟨b, i, none⟩ = w.frozen? ⟨b, i, none⟩ :=
  ⟨fun b i hb => h.cell (p := ⟨b, i, none⟩) hb, fun b i hb => by
    have := h.block b hb
    simp [World.frozen?, this]⟩
theorem BytesAt.drew {w : World} {A : Option Addr} {xs : List Int} (h : BytesAt w A xs) : BytesAt w.drew A xs := h
theorem PL.undrew {w w' : World} {base : Nat} {v : Value} {l : List PV} (h : PL w' w.drew.heap.size v l) (hb : base = w.heap.size) : PL w' base v l := by subst hb; exact h
theorem below_undrew {B : Nat} {w w1 : World} (h : Below B w.drew w1) : Below B w w1 := ⟨h.os, h.tape, h.output, h.size, h.block⟩
/-- What the reference keeps, cut: a box of it. -/
structure CB (w w' : World) (g : Nat) (pv : Value) (l : List PV) (c : CT) : Prop where
  blk : Blk w' g 71 #[pv, .int .i64 (c.at_ : Int), .bool c.dead]
  pl : PL w' w.heap.size pv l
  ps : l.map (·.1) = c.ps
  be : Below w.heap.size w w'
  lt : w.heap.size ≤ g
abbrev Z71 : Obj := .cells #[.slice none 0 0, .int .i64 0, .bool false] 71
theorem rcut_drew (lim : Int) (A : Option Addr) (bs : List Int) (c : Nat) (w : World) (hlim : 64 ≤ lim ∧ lim ≤ 4096) (hc : bs.length ≤ c ∧ c ≤ maxLen) (hx : BytesAt w A bs) (hby : Byt bs) (hbig : bs.length ≤ 2147483647) :
    Calls Try.prog 40 #[.slice A bs.length c, .int .i64 lim] w.drew fun e w' => Below w.heap.size w w' ∧ ∃ Ap cp l, e = .returned (.agg #[.slice Ap (List.length l) cp, .int .i64 ((cutA lim bs).at_ : Int), .bool (cutA lim bs).dead]) ∧ PL w' w.heap.size (.slice Ap (List.length l) cp) l ∧ l.map (·.1) = (cutA lim bs).ps := by
  refine (rcut_any lim A bs c w.drew hlim hc hx.drew hby hbig).mono fun e w' h => ?_
  obtain ⟨hb, pv, l, rfl, hpl, hl⟩ := h
  obtain ⟨Ap, cp, rfl, _, _⟩ := hpl.shape
  exact ⟨below_undrew hb, Ap, cp, l, rfl, hpl.undrew rfl, hl⟩
/-- The box is made behind the call. -/
theorem CB.after {w w2 : World} {pv : Value} {l : List PV} {c : CT} (hb : Below w.heap.size w w2) (hpl : PL w2 w.heap.size pv l) (hl : l.map (·.1) = c.ps) : CB w (w2.alloc (.cells #[pv, .int .i64 (c.at_ : Int), .bool c.dead] 71)) w2.heap.size pv l c :=
  ⟨Blk.new _ _ _, hpl.below ((Below.refl _ _).alloc (Nat.le_refl _) _), hl, hb.alloc hb.size _, hb.size⟩
/-- The box is made ahead of it. -/
theorem CB.ahead {w w2 : World} {pv : Value} {l : List PV} {c : CT} (hb : Below (w.alloc Z71).heap.size (w.alloc Z71) w2) (hpl : PL w2 (w.alloc Z71).heap.size pv l) (hl : l.map (·.1) = c.ps) :
    CB w (((w2.setCell ⟨w.heap.size, 0, none⟩ pv).setCell ⟨w.heap.size, 1, none⟩ (.int .i64 (c.at_ : Int))).setCell ⟨w.heap.size, 2, none⟩ (.bool c.dead)) w.heap.size pv l c := by
  have hz : Blk w2 w.heap.size 71 #[.slice none 0 0, .int .i64 0, .bool false] := (Blk.new w 71 _).below hb (by simp)
  have h3 := ((hz.set_ 0 pv).set_ 1 (.int .i64 (c.at_ : Int))).set_ 2 (.bool c.dead)
  have hb0 : Below w.heap.size w w2 := ((Below.refl _ _).alloc (Nat.le_refl _) Z71).trans (hb.mono (by simp))
  refine ⟨by simpa using h3, PL.mono (base := (w.alloc Z71).heap.size) (hpl.keep (fun b hb' => ?_)) (by simp), hl, ((hb0.setCell (by simp) _).setCell (by simp) _).setCell (by simp) _, Nat.le_refl _⟩
  have := (hpl.lt hb').1
  rw [World.size_alloc] at this
  rw [Below.heap_setCell _ _ _ b (fun e => by simp only at e; omega), Below.heap_setCell _ _ _ b (fun e => by simp only at e; omega), Below.heap_setCell _ _ _ b (fun e => by simp only at e; omega)]
theorem cutP_at {lim : Int} (hlim : lim ≤ 4096) : ∀ (f at_ : Nat) (xs : List Int), xs.length ≤ f → (cutP lim f at_ xs).at_ ≤ at_ + xs.length + 4294967305
  | 0, _, _, _ => by simp [cutP]; omega
  | f + 1, at_, xs, hf => by
    have hr := headP_len xs
    by_cases hx : xs = []
    · subst hx; rw [cutP_nil]; simp only; omega
    · rw [cutP_succ hx]
      split
      · simp only; omega
      · split
        · simp only; omega
        · rename_i h0
          have hn1 : 1 ≤ (headP xs).1.toNat := by omega
          have ih := cutP_at hlim f (at_ + (headP xs).1.toNat) (xs.drop (headP xs).1.toNat) (by rw [List.length_drop]; omega)
          rw [List.length_drop] at ih
          split
          · simp only [CT.more]
            by_cases hd : xs.length ≤ (headP xs).1.toNat
            · have : xs.drop (headP xs).1.toNat = [] := List.drop_of_length_le hd
              rw [this, cutP_nil]
              simp only
              omega
            · omega
          · split
            · simp only; omega
            · simp only [CT.more]
              omega
theorem cutA_at {lim : Int} (hlim : 64 ≤ lim ∧ lim ≤ 4096) {xs : List Int} (_hby : Byt xs) (hbig : xs.length ≤ 2147483647) : (cutA lim xs).at_ ≤ 8589934592 := by
  have := cutP_at hlim.2 xs.length 0 xs (Nat.le_refl _)
  unfold cutA
  omega
attribute [local irreducible] Go.Calls in
set_option maxRecDepth 100000 in
set_option maxHeartbeats 4000000 in
theorem rdead_any (base g : Nat) (v : Value) (lim : Int) (xs : List Int) (told : Nat) (w : World) (hr : RF w base g v lim xs told) (hlim : 64 ≤ lim ∧ lim ≤ 4096) (hby : Byt xs) (hbig : xs.length ≤ 2147483647) :
    Calls Try.prog 26 #[.pointer (some ⟨g, 0, none⟩)] w fun e w' => e = .returned (.bool (decide ((feed (fresh lim) xs).1.st = 0))) ∧ Below w.heap.size w w' := by
  obtain ⟨A, c, rfl, hc1, hc2, hx, hA⟩ := hr.own.read
  have q0 := hr.blk.cell 0
  have q1 := hr.blk.cell 1
  simp at q0 q1
  have hl0 : (lim == 0) = false := by simp only [beq_eq_false_iff_ne, ne_eq]; omega
  have hC1 := rcut_drew lim A xs c w hlim ⟨hc1, hc2⟩ hx hby hbig
  have hb2 := (Below.refl w.heap.size w).alloc (Nat.le_refl _) (.cells #[.slice none 0 0, .int .i64 0, .bool false] 71)
  have hC2 := rcut_drew lim A xs c (w.alloc (.cells #[.slice none 0 0, .int .i64 0, .bool false] 71)) hlim ⟨hc1, hc2⟩ (hx.below hb2) hby hbig
  have hgl := hr.blk.lt
  have Hr := Lib.hid hr
  clear hr hx hA hb2
  have hst := cutA_feed hlim hby (by omega)
  have hat : (cutA lim xs).at_ ≤ 8589934592 := cutA_at hlim hby hbig
  have HP := Lib.hid (show Stands (feed (fresh lim) xs).1 (cutA lim xs) xs.length from hst.2)
  clear hst
  generalize feed (fresh lim) xs = fd at *
  generalize cutA lim xs = cc at *
  go_enter Try.func26, Try.ntmps26
  go_upto_region 3 with fail
  go_cut [3] (fun p wx => ∃ g2 pv l, p = .pointer (some ⟨g2, 0, none⟩) ∧ CB w wx g2 pv l cc)
  case first =>
    have nlt : w.heap.size < w.heap.size + 1 := by omega
    go_region_with (first
      | (go_at_call 40; refine hC1.mono ?_; clear hC1 hC2; rintro e w2 ⟨hb, Ap, cp, l, rfl, hpl, hl⟩)
      | (go_at_call 40; refine hC2.mono ?_; clear hC1 hC2; rintro e w2 ⟨hb, Ap, cp, l, rfl, hpl, hl⟩; obtain ⟨hcc, hff⟩ := bcell hb))
    all_goals (
      go_wp2
      go_meet
      (case rel => first | exact ⟨_, _, l, rfl, CB.after hb hpl hl⟩ | exact ⟨_, _, l, rfl, CB.ahead hb hpl hl⟩))
  case rest =>
    obtain ⟨g2, pv, l, rfl, hcb⟩ := hcut
    have c1 := hcb.blk.cell 1
    have c2 := hcb.blk.cell 2
    simp at c1 c2
    have hgw := (Hr.out.below hcb.be).blk
    have q1 := hgw.cell 1
    simp at q1
    have hbe := hcb.be
    have Hbe := Lib.hid hbe
    clear hC1 hC2 hcb hgw hbe q0
    have hd := HP.out.dies
    go_wp2
    go_ret
    exact ⟨by rw [← hd]; rfl, Hbe.out⟩
attribute [local irreducible] Go.Calls in
set_option maxRecDepth 100000 in
set_option maxHeartbeats 4000000 in
theorem rwaiting_any (base g : Nat) (v : Value) (lim : Int) (xs : List Int) (told : Nat) (w : World) (hr : RF w base g v lim xs told) (hlim : 64 ≤ lim ∧ lim ≤ 4096) (hby : Byt xs) (hbig : xs.length ≤ 2147483647) :
    Calls Try.prog 24 #[.pointer (some ⟨g, 0, none⟩)] w fun e w' => e = .returned (.int .i64 ((feed (fresh lim) xs).1.buf.length : Int)) ∧ Below w.heap.size w w' := by
  obtain ⟨A, c, rfl, hc1, hc2, hx, hA⟩ := hr.own.read
  have q0 := hr.blk.cell 0
  have q1 := hr.blk.cell 1
  simp at q0 q1
  have hl0 : (lim == 0) = false := by simp only [beq_eq_false_iff_ne, ne_eq]; omega
  have hC1 := rcut_drew lim A xs c w hlim ⟨hc1, hc2⟩ hx hby hbig
  have hb2 := (Below.refl w.heap.size w).alloc (Nat.le_refl _) (.cells #[.slice none 0 0, .int .i64 0, .bool false] 71)
  have hC2 := rcut_drew lim A xs c (w.alloc (.cells #[.slice none 0 0, .int .i64 0, .bool false] 71)) hlim ⟨hc1, hc2⟩ (hx.below hb2) hby hbig
  have hgl := hr.blk.lt
  have Hr := Lib.hid hr
  clear hr hx hA hb2
  have hst := cutA_feed hlim hby (by omega)
  have hat : (cutA lim xs).at_ ≤ 8589934592 := cutA_at hlim hby hbig
  have HP := Lib.hid (show Stands (feed (fresh lim) xs).1 (cutA lim xs) xs.length from hst.2)
  clear hst
  generalize feed (fresh lim) xs = fd at *
  generalize cutA lim xs = cc at *
  go_enter Try.func24, Try.ntmps24
  go_upto_region 3 with fail
  go_cut [3] (fun p wx => ∃ g2 pv l, p = .pointer (some ⟨g2, 0, none⟩) ∧ CB w wx g2 pv l cc)
  case first =>
    have nlt : w.heap.size < w.heap.size + 1 := by omega
    go_region_with (first
      | (go_at_call 40; refine hC1.mono ?_; clear hC1 hC2; rintro e w2 ⟨hb, Ap, cp, l, rfl, hpl, hl⟩)
      | (go_at_call 40; refine hC2.mono ?_; clear hC1 hC2; rintro e w2 ⟨hb, Ap, cp, l, rfl, hpl, hl⟩; obtain ⟨hcc, hff⟩ := bcell hb))
    all_goals (
      go_wp2
      go_meet
      (case rel => first | exact ⟨_, _, l, rfl, CB.after hb hpl hl⟩ | exact ⟨_, _, l, rfl, CB.ahead hb hpl hl⟩))
  case rest =>
    obtain ⟨g2, pv, l, rfl, hcb⟩ := hcut
    have c1 := hcb.blk.cell 1
    have c2 := hcb.blk.cell 2
    simp at c1 c2
    have hgw := (Hr.out.below hcb.be).blk
    have q1 := hgw.cell 1
    simp at q1
    have hbe := hcb.be
    have Hbe := Lib.hid hbe
    clear hC1 hC2 hcb hgw hbe q0
    have hd := HP.out.waits
    have Hd := Lib.hid hd
    clear hd
    cases hdd : cc.dead with
    | true =>
      rw [hdd] at c2
      have hy : ((fd.1.buf.length : Nat) : Int) = 0 := by rw [← Hd.out, if_pos (.inl hdd)]; rfl
      have Hy := Lib.hid hy
      clear hdd hy
      go_upto_region 4 with fail
      go_quiet (fail)
      go_wp2
      go_ret
      exact ⟨by rw [Hy.out]; rfl, below_drewN Hbe.out _⟩
    | false =>
      rw [hdd] at c2
      by_cases hgt : xs.length < cc.at_
      · have hgb : decide ((xs.length : Int) < (cc.at_ : Int)) = true := by simp only [decide_eq_true_eq]; omega
        have hy : ((fd.1.buf.length : Nat) : Int) = 0 := by rw [← Hd.out, if_pos (.inr hgt)]; rfl
        have Hy := Lib.hid hy
        clear hdd hy
        go_upto_region 4 with fail
        go_quiet (fail)
        go_wp2
        go_ret
        exact ⟨by rw [Hy.out]; rfl, below_drewN Hbe.out _⟩
      · have hgb : decide ((xs.length : Int) < (cc.at_ : Int)) = false := by simp only [decide_eq_false_iff_not]; omega
        have hy : (xs.length : Int) - (cc.at_ : Int) = ((fd.1.buf.length : Nat) : Int) := by rw [← Hd.out, if_neg (by rw [hdd]; simp; omega)]; omega
        have Hy := Lib.hid hy
        clear hdd hy
        go_upto_region 4 with fail
        go_quiet (fail)
        go_upto_region 6 with fail
        go_quiet (fail)
        go_wp2
        go_ret
        exact ⟨by rw [← Hy.out]; rfl, below_drewN (below_drewN Hbe.out _) _⟩
attribute [local irreducible] Go.Calls in
set_option maxRecDepth 100000 in
set_option maxHeartbeats 4000000 in
theorem rend_any (base g : Nat) (v : Value) (lim : Int) (xs : List Int) (told : Nat) (w : World) (hr : RF w base g v lim xs told) (hlim : 64 ≤ lim ∧ lim ≤ 4096) (hby : Byt xs) (hbig : xs.length ≤ 2147483647) :
    Calls Try.prog 28 #[.pointer (some ⟨g, 0, none⟩)] w fun e w' => e = .returned (.int .i64 (endOf (feed (fresh lim) xs).1)) ∧ Below w.heap.size w w' := by
  obtain ⟨A, c, rfl, hc1, hc2, hx, hA⟩ := hr.own.read
  have q0 := hr.blk.cell 0
  have q1 := hr.blk.cell 1
  simp at q0 q1
  have hl0 : (lim == 0) = false := by simp only [beq_eq_false_iff_ne, ne_eq]; omega
  have hC1 := rcut_drew lim A xs c w hlim ⟨hc1, hc2⟩ hx hby hbig
  have hb2 := (Below.refl w.heap.size w).alloc (Nat.le_refl _) (.cells #[.slice none 0 0, .int .i64 0, .bool false] 71)
  have hC2 := rcut_drew lim A xs c (w.alloc (.cells #[.slice none 0 0, .int .i64 0, .bool false] 71)) hlim ⟨hc1, hc2⟩ (hx.below hb2) hby hbig
  have hgl := hr.blk.lt
  have Hr := Lib.hid hr
  clear hr hx hA hb2
  have hst := cutA_feed hlim hby (by omega)
  have hat : (cutA lim xs).at_ ≤ 8589934592 := cutA_at hlim hby hbig
  have HP := Lib.hid (show Stands (feed (fresh lim) xs).1 (cutA lim xs) xs.length from hst.2)
  clear hst
  generalize feed (fresh lim) xs = fd at *
  generalize cutA lim xs = cc at *
  go_enter Try.func28, Try.ntmps28
  go_upto_region 3 with fail
  go_cut [3] (fun p wx => ∃ g2 pv l, p = .pointer (some ⟨g2, 0, none⟩) ∧ CB w wx g2 pv l cc)
  case first =>
    have nlt : w.heap.size < w.heap.size + 1 := by omega
    go_region_with (first
      | (go_at_call 40; refine hC1.mono ?_; clear hC1 hC2; rintro e w2 ⟨hb, Ap, cp, l, rfl, hpl, hl⟩)
      | (go_at_call 40; refine hC2.mono ?_; clear hC1 hC2; rintro e w2 ⟨hb, Ap, cp, l, rfl, hpl, hl⟩; obtain ⟨hcc, hff⟩ := bcell hb))
    all_goals (
      go_wp2
      go_meet
      (case rel => first | exact ⟨_, _, l, rfl, CB.after hb hpl hl⟩ | exact ⟨_, _, l, rfl, CB.ahead hb hpl hl⟩))
  case rest =>
    obtain ⟨g2, pv, l, rfl, hcb⟩ := hcut
    have c1 := hcb.blk.cell 1
    have c2 := hcb.blk.cell 2
    simp at c1 c2
    have hgw := (Hr.out.below hcb.be).blk
    have q1 := hgw.cell 1
    simp at q1
    have hbe := hcb.be
    have Hbe := Lib.hid hbe
    clear hC1 hC2 hcb hgw hbe q0
    have hd := HP.out.ends
    have Hd := Lib.hid hd
    clear hd
    cases hdd : cc.dead with
    | true =>
      rw [hdd] at c2
      have hy : endOf fd.1 = 173 := by rw [← Hd.out, if_pos hdd]
      have Hy := Lib.hid hy
      clear hdd hy
      go_wp2
      go_ret
      exact ⟨by rw [Hy.out]; rfl, Hbe.out⟩
    | false =>
      rw [hdd] at c2
      by_cases hgt : cc.at_ = xs.length
      · have hgb : ((cc.at_ : Int) == (xs.length : Int)) = true := by simp only [beq_iff_eq]; omega
        have hy : endOf fd.1 = 0 := by rw [← Hd.out, if_neg (by rw [hdd]; simp), if_pos hgt]
        have Hy := Lib.hid hy
        clear hdd hy hgt
        go_upto_region 6 with fail
        go_quiet (fail)
        go_wp2
        go_ret
        exact ⟨by rw [Hy.out]; rfl, below_drewN Hbe.out _⟩
      · have hgb : ((cc.at_ : Int) == (xs.length : Int)) = false := by simp only [beq_eq_false_iff_ne, ne_eq]; omega
        have hy : endOf fd.1 = 10 := by rw [← Hd.out, if_neg (by rw [hdd]; simp), if_neg hgt]
        have Hy := Lib.hid hy
        clear hdd hy hgt
        go_upto_region 6 with fail
        go_quiet (fail)
        go_wp2
        go_ret
        exact ⟨by rw [Hy.out]; rfl, below_drewN Hbe.out _⟩
end Go.Proofs.Ytkllgmhfjibajaa
