/- The walk of 'StreamChunks'. Conditions: the bytes fit. -/
import Derived.Test.YtkllgmhfjibajaaToldNil
import Derived.Test.YtkllgmhfjibajaaCuts
namespace Go.Proofs.Ytkllgmhfjibajaa
open Go.RowKit St
theorem wait_lt {r : R} (h : Ok r) : (r.buf.length : Int) < r.lim := by
  have hl := h.lim
  rcases h.st with h0 | ⟨_, h1⟩ | ⟨_, h1, h2⟩ | ⟨_, _, _, h1⟩
  · rw [h.dead h0]
    simp only [List.length_nil]
    omega
  · omega
  · omega
  · rw [h1]
    simp only [List.length_nil]
    omega
theorem step_lim (r : R) (c : Int) : (St.step r c).1.lim = r.lim := by
  have hw : ∀ r : R, (whole r).1.lim = r.lim := fun r => by unfold whole; split <;> rfl
  unfold St.step
  split
  · unfold St.measure
    split
    · rfl
    · split
      · rfl
      · split
        · rfl
        · exact hw _
  · split
    · exact hw _
    · split <;> rfl
theorem feed_lim : ∀ (xs : List Int) (r : R), (feed r xs).1.lim = r.lim
  | [], _ => rfl
  | c :: xs, r => by rw [feed]; exact (feed_lim xs _).trans (step_lim r c)
theorem end_dead (r : R) : (endOf r == 173) = decide (r.st = 0) := by
  unfold endOf
  split
  · rename_i h; simp [h]
  · rename_i h
    split <;> simp [h]
theorem BytesAt.lt {w : World} {A : Option Addr} {xs : List Int} (h : BytesAt w A xs) (h0 : 0 < xs.length) {a : Addr} (e : A = some a) : a.block < w.heap.size := by
  obtain ⟨b, o, e', hlt, _⟩ := h h0
  rw [e'] at e
  injection e with e
  subst e
  exact hlt
/-- Cut, and told: by a new reader. -/
theorem told_new (lim : Int) (g B : Nat) (A : Option Addr) (bs : List Int) (c : Nat) (w w2 : World) (hlim : 64 ≤ lim ∧ lim ≤ 4096) (hc : bs.length ≤ c ∧ c ≤ maxLen) (hA : A = none → c = 0) (hbig : bs.length ≤ 2147483648) (hx : BytesAt w A bs) (hby : Byt bs)
    (hgb : w.heap.size ≤ g) (hb : Below w.heap.size w w2) (hr : RD w2 B g (.slice none 0 0) (fresh lim)) (hB : B ≤ w2.heap.size) (ts : List Int) (v : Value) (ht : OwnInts w2 B v ts) (htg : ∀ j, v.ownBlock = some j → j ≠ g) :
    Calls Try.prog 36 #[.pointer (some ⟨g, 0, none⟩), .slice A bs.length c, v] w2 fun e w' => ∃ tv, e = .returned tv ∧ ∃ v' l, Told w2 B g (.slice none 0 0) w' v' (feed (fresh lim) bs).1 tv l (feed (fresh lim) bs).2 := by
  refine told_gen B g _ _ w2 A bs c v B ts hr (fresh_ok hlim) hB hc hA hbig (hx.below hb) (fun h0 a e => ?_) hby ht (fun j hj => ⟨htg j hj, fun e => by cases e⟩)
  have := hx.lt h0 e
  have := hb.size
  exact ⟨by omega, by omega, fun e => by cases e⟩
attribute [local irreducible] Go.Calls in
set_option maxRecDepth 100000 in
set_option maxHeartbeats 1600000 in
theorem chunks_any (n : Int) (A A1 A2 : Option Addr) (bs xs1 xs2 : List Int) (c c1 c2 : Nat) (w : World) (hc : bs.length ≤ c ∧ c ≤ maxLen) (hA : A = none → c = 0) (hbig : bs.length ≤ 2147483648) (hx : BytesAt w A bs) (hby : Byt bs)
    (h1 : IntsAt w w.heap.size A1 xs1) (h1x : ∀ x ∈ xs1, -9223372036854775808 ≤ x ∧ x ≤ 9223372036854775807) (h1l : xs1.length * 8 ≤ 140737488351232)
    (h2 : IntsAt w w.heap.size A2 xs2) (h2x : ∀ x ∈ xs2, -9223372036854775808 ≤ x ∧ x ≤ 9223372036854775807) (h2l : xs2.length * 8 ≤ 140737488351232) :
    Calls Try.prog 8 #[.slice A bs.length c, .int .i64 n, .slice A1 xs1.length c1, .slice A2 xs2.length c2] w fun e w' => e = .returned (.bool true) ∧ Below w.heap.size w w' := by
  have hlim := bentI_range n
  have Hx := Lib.hid hx
  have H1 := Lib.hid h1
  have H2 := Lib.hid h2
  have hcm := hc.2
  unfold maxLen at hcm
  have Hby := Lib.hid hby
  clear hx h1 h2 hby
  have hbn := bent_any n w
  generalize bentI n = lim at *
  go_enter Try.func8, Try.ntmps8
  go_upto_region 2 with (go_at_call 34; refine hbn.mono ?_; clear hbn; rintro e w ⟨rfl, rfl⟩)
  go_upto_region 3 with (go_at_call 20; refine (new_good lim _ hlim).mono ?_; rintro e w1 ⟨rfl, hb1, hr1⟩)
  have Hb1 := Lib.hid hb1
  have Hr1 := Lib.hid hr1
  clear hb1 hr1
  go_upto_region 4 with (go_at_call 20; refine (new_good lim _ hlim).mono ?_; rintro e w2 ⟨rfl, hb2, hr2⟩)
  have hlt1 := Hr1.out.blk.lt
  have hb02 : Below w.heap.size w w2 := Hb1.out.trans (hb2.mono Hb1.out.size)
  have hr12 := Hr1.out.below hb2
  have hlt2 := hr2.blk.lt
  generalize hg1 : w.heap.size = g1 at *
  generalize hg2 : w1.heap.size = g2 at *
  have Hr12 := Lib.hid hr12
  have Hr22 := Lib.hid hr2
  have Hb02 := Lib.hid hb02
  clear hr12 hr2 hb02 hb2 Hb1 Hr1
  have hcut := cuts_any (bs.length : Int) A1 c1 xs1 w2 g1 (by omega) (H1.out.below Hb02.out) h1x (by omega) h1l
  go_upto_region 7 with (first | (go_at_call 31; refine hcut.mono ?_; clear hcut; rintro e w3 ⟨⟨v5, rfl, hts⟩, hb3⟩; have htold := told_new lim g1 g1 A bs c w w3 hlim hc hA hbig Hx.out Hby.out (by omega) (hg1 ▸ Hb02.out.trans (hb3.mono (by omega))) (Hr12.out.below hb3) (by have := hb3.size; omega) _ v5 (hts.mono (by omega)) (fun j hj => by have := (hts.lt hj).1; omega)) | (go_at_call 36; refine htold.mono ?_; clear htold; rintro e w4 ⟨tvx, rfl, v1, lx, hT1⟩))
  have hnil : ∀ (g j : Nat), (j = g ∨ (Value.slice none 0 0).ownBlock = some j) → j = g := fun g j h => h.elim id (fun e => by cases e)
  have hb04 : Below g1 w w4 := Kp.to_below (Hb02.out.trans (hb3.mono (by omega))) hT1.kp (by have := hb3.size; omega) (fun j hj => by have := hnil _ _ hj; omega)
  have hr24 : RD w4 g2 g2 (.slice none 0 0) (fresh lim) := (Hr22.out.below hb3).kp hT1.kp (fun h => by have := hnil _ _ h; omega) (fun b hb => by cases hb)
  have hs3 := hb3.size
  have hs4 := hT1.kp.size
  have hcut := cuts_any (bs.length : Int) A2 c2 xs2 w4 g1 (by omega) (H2.out.below hb04) h2x (by omega) h2l
  have Hb04 := Lib.hid hb04
  have Hr24 := Lib.hid hr24
  have HT1 := Lib.hid hT1
  clear hb04 hr24 hT1 hts hb3 Hr22 Hr12
  go_upto_region 8 with (first | (go_at_call 31; refine hcut.mono ?_; clear hcut; rintro e w5 ⟨⟨v6, rfl, hts⟩, hb5⟩; have htold := told_new lim g2 g2 A bs c w w5 hlim hc hA hbig Hx.out Hby.out (by omega) (hg1 ▸ Hb04.out.trans (hb5.mono (by omega))) (Hr24.out.below hb5) (by have := hb5.size; omega) _ v6 (hts.mono (by omega)) (fun j hj => by have := (hts.lt hj).1; omega)) | (go_at_call 36; refine htold.mono ?_; clear htold; rintro e w6 ⟨tvy, rfl, v2, ly, hT2⟩))
  have hs5 := hb5.size
  have hs6 := hT2.kp.size
  have hb06 : Below g1 w w6 := Kp.to_below (Hb04.out.trans (hb5.mono (by omega))) hT2.kp (by omega) (fun j hj => by have := hnil _ _ hj; omega)
  have hr16 := (HT1.out.rd.below hb5).kp hT2.kp (fun h => by have := hnil _ _ h; omega) (fun b hb h => by
    have h := hnil _ _ h
    subst h
    exact HT1.out.rd.own.ne_blk Hr24.out.blk (by decide) hb)
  have hpx := (HT1.out.pl.below hb5).kp hT2.kp (fun b hb h => by
    have := hnil _ _ h
    have := (HT1.out.pl.lt hb).1
    omega)
  have hsp := split_gen lim A bs c w6 hlim hc hbig (Hx.out.below (hg1 ▸ hb06)) Hby.out
  have Hr16 := Lib.hid hr16
  have Hr26 := Lib.hid hT2.rd
  have Hpx := Lib.hid hpx
  have Hpy := Lib.hid hT2.pl
  have Hlx := Lib.hid HT1.out.ps
  have Hly := Lib.hid hT2.ps
  have Hb06 := Lib.hid hb06
  clear hr16 hpx hT2 HT1 hts hb5 hb06 Hb04 Hr24 Hb02
  generalize hF : feed (fresh lim) bs = F at *
  go_upto_region 9 with (go_at_call 12; refine hsp.mono ?_; clear hsp; rintro e w7 ⟨hb7, tvz, lz, rfl, hpz, hlz⟩)
  have hok : Ok F.1 := by rw [← hF]; exact feed_ok (fresh_ok hlim) Hby.out
  have hwl := wait_lt hok
  have hfl : F.1.lim = lim := by rw [← hF]; exact feed_lim bs (fresh lim)
  rw [hfl] at hwl
  have hbn : ∀ n, Below w7.heap.size w7 (w7.drewN n) := fun n => below_drewN (Below.refl _ _) n
  have hr17 := Hr16.out.below hb7
  have hr27 := Hr26.out.below hb7
  have hpx7 := Hpx.out.below hb7
  have hpy7 := Hpy.out.below hb7
  have cP : ∀ u v n, u = tvx → (v = tvy ∨ v = tvz) → Calls Try.prog 13 #[u, v] (w7.drewN n) fun e w' => e = .returned (.bool true) ∧ ∃ m, w' = w7.drewN (n + m) := fun u v n hu hv => by
    subst hu
    rcases hv with rfl | rfl
    · refine (samepieces_yes _ _ _ _ lx ly _ (hpx7.below (hbn n)) (hpy7.below (hbn n)) (by rw [Hlx.out, Hly.out])).mono ?_
      rintro e w' ⟨rfl, m, rfl⟩
      exact ⟨rfl, m, by rw [World.drewN_drewN]⟩
    · refine (samepieces_yes _ _ _ _ lx lz _ (hpx7.below (hbn n)) (hpz.below (hbn n)) (by rw [Hlx.out, hlz])).mono ?_
      rintro e w' ⟨rfl, m, rfl⟩
      exact ⟨rfl, m, by rw [World.drewN_drewN]⟩
  have cW : ∀ g n, (g = g1 ∨ g = g2) → Calls Try.prog 23 #[.pointer (some ⟨g, 0, none⟩)] (w7.drewN n) fun e w' => e = .returned (.int .i64 F.1.buf.length) ∧ w' = w7.drewN n := fun g n hg => by
    rcases hg with rfl | rfl
    · exact waiting_any _ _ _ _ _ (hr17.drewN n)
    · exact waiting_any _ _ _ _ _ (hr27.drewN n)
  have cD : ∀ g n, (g = g1 ∨ g = g2) → Calls Try.prog 25 #[.pointer (some ⟨g, 0, none⟩)] (w7.drewN n) fun e w' => e = .returned (.bool (decide (F.1.st = 0))) ∧ w' = w7.drewN n := fun g n hg => by
    rcases hg with rfl | rfl
    · exact dead_any _ _ _ _ _ (hr17.drewN n)
    · exact dead_any _ _ _ _ _ (hr27.drewN n)
  have cE : ∀ g n, (g = g1 ∨ g = g2) → Calls Try.prog 27 #[.pointer (some ⟨g, 0, none⟩)] (w7.drewN n) fun e w' => e = .returned (.int .i64 (endOf F.1)) ∧ w' = w7.drewN n := fun g n hg => by
    rcases hg with rfl | rfl
    · exact end_any _ _ _ _ _ (hr17.drewN n)
    · exact end_any _ _ _ _ _ (hr27.drewN n)
  have hed := end_dead F.1
  generalize endOf F.1 = E at *
  generalize decide (F.1.st = 0) = D at *
  have hb07 : Below g1 w w7 := Hb06.out.trans (hb7.mono (by omega))
  have Hb07 := Lib.hid hb07
  clear hr17 hr27 hpx7 hpy7 hpz hlz hb7 hb07 hfl hok hF
  go_upto_region 11 with (first | (go_at_call 13; refine (cP _ _ 0 rfl (.inl rfl)).mono ?_; rintro e w' ⟨rfl, n1, rfl⟩) | (go_at_call 13; refine (cP _ _ _ rfl (.inr rfl)).mono ?_; rintro e w' ⟨rfl, n2, rfl⟩) | (go_at_call 23; refine (cW _ _ (by first | exact .inl rfl | exact .inr rfl)).mono ?_; rintro e w' ⟨rfl, rfl⟩) | (go_at_call 25; refine (cD _ _ (by first | exact .inl rfl | exact .inr rfl)).mono ?_; rintro e w' ⟨rfl, rfl⟩) | (go_at_call 27; refine (cE _ _ (by first | exact .inl rfl | exact .inr rfl)).mono ?_; rintro e w' ⟨rfl, rfl⟩))
  go_wp2_with (first | (go_at_call 23; refine (cW _ _ (by first | exact .inl rfl | exact .inr rfl)).mono ?_; rintro e w' ⟨rfl, rfl⟩) | (go_at_call 25; refine (cD _ _ (by first | exact .inl rfl | exact .inr rfl)).mono ?_; rintro e w' ⟨rfl, rfl⟩) | (go_at_call 27; refine (cE _ _ (by first | exact .inl rfl | exact .inr rfl)).mono ?_; rintro e w' ⟨rfl, rfl⟩) | (go_at_call 30; refine (lawhead_any _).mono ?_; rintro e w8 ⟨rfl, hb8⟩))
  go_ret
  have hb := Hb07.out
  exact ⟨rfl, (below_drewN (by rw [hg1]; exact hb) _).trans (hb8.mono (Nat.le_trans hb.size (hbn _).size))⟩
end Go.Proofs.Ytkllgmhfjibajaa
