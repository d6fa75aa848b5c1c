/- The walk of a stream's reader's Feed. Conditions: none. -/
import Derived.Test.YtkllgmhfjibajaaSteps
import Derived.Laws.AppendOwnNone
namespace Go.Proofs.Ytkllgmhfjibajaa
open Go.RowKit St
section
variable {w w1 w2 w3 : World} {base g : Nat} {v v1 v2 tv tv2 tv3 : Value} {r1 r2 : R} {l l2 : List PV} {ps ps2 : List Pc}
/-- What is told so far stands behind a step more. -/
theorem Told.stands (h : Told w base g v w1 v1 r1 tv l ps) (h2 : Told w1 base g v1 w2 v2 r2 tv2 l2 ps2) (hg : g < w.heap.size) :
    PL w2 w.heap.size tv l ∧ Kp (fun j => j = g ∨ v.ownBlock = some j) w w2 ∧ (v2.ownBlock = v.ownBlock ∨ ∀ b, v2.ownBlock = some b → w.heap.size ≤ b) ∧ ∀ b, FP tv l b → v2.ownBlock ≠ some b ∧ b ≠ g := by
  have hs := h.kp.size
  have hfar : ∀ b, FP tv l b → v2.ownBlock ≠ some b ∧ b ≠ g := fun b hb => by
    have h3 := h.pl.lt hb
    refine ⟨fun e => ?_, by omega⟩
    rcases h2.at_ with h4 | h4
    · exact h.far b hb (h4 ▸ e)
    · have := h4 b e
      omega
  refine ⟨h.pl.kp h2.kp (fun b hb hS => ?_), h.kp.trans h2.kp (fun j hj => ?_), ?_, hfar⟩
  · rcases hS with hS | hS
    · exact (hfar b hb).2 hS
    · exact h.far b hb hS
  · rcases hj with hj | hj
    · exact .inl (.inl hj)
    · rcases h.at_ with h4 | h4
      · exact .inl (.inr (h4 ▸ hj))
      · exact .inr (h4 j hj)
  · rcases h2.at_ with h4 | h4
    · rcases h.at_ with h5 | h5
      · exact .inl (h4.trans h5)
      · exact .inr fun b hb => h5 b (h4 ▸ hb)
    · exact .inr fun b hb => Nat.le_trans hs (h4 b hb)
/-- Nothing more is told. -/
theorem Told.skip (h : Told w base g v w1 v1 r1 tv l ps) (h2 : Told w1 base g v1 w2 v2 r2 tv2 [] ps2) (hg : g < w.heap.size) : Told w base g v w2 v2 r2 tv l (ps ++ ps2) := by
  obtain ⟨a1, a2, a3, a4⟩ := h.stands h2 hg
  have e : ps2 = [] := by rw [← h2.ps]; rfl
  rw [e, List.append_nil]
  exact ⟨h2.rd, a2, a3, a1, h.ps, fun b hb => (a4 b hb).1⟩
/-- More is told. -/
theorem Told.more {g3 cap n : Nat} (h : Told w base g v w1 v1 r1 tv l ps) (h2 : Told w1 base g v1 w2 v2 r2 tv2 l2 ps2) (hg : g < w.heap.size)
    (hr : w3.ownsRow w.heap.size 57 4 (.slice (some ⟨g3, 0, none⟩) n cap) n (l.flatMap pcCells ++ l2.flatMap pcCells)) (hn : n = l.length + l2.length) (hgr : w2.grownBy w3 tv.ownBlock) (hat : tv.ownBlock = some g3 ∨ g3 = w2.heap.size) :
    Told w base g v w3 v2 r2 (.slice (some ⟨g3, 0, none⟩) n cap) (l ++ l2) (ps ++ ps2) := by
  obtain ⟨a1, a2, a3, a4⟩ := h.stands h2 hg
  have hs := h.kp.size
  have hd : ∀ b, FP tv l b → ¬ FP tv2 l2 b := fun b hb hb2 => by
    have := (h.pl.lt hb).2
    have := (h2.pl.lt hb2).1
    omega
  have hk : Kp (fun j => tv.ownBlock = some j) w2 w3 := Kp.of_grown hgr
  refine ⟨h2.rd.kp hk (fun e => ?_) (fun b hb e => ?_), a2.trans hk (fun j hj => .inr (a1.row.lt j hj).1), a3, a1.app (h2.pl.mono hs) hd hr hn hgr, by rw [List.map_append, h.ps, h2.ps], fun b hb e => ?_⟩
  · exact (a4 g (.inl e)).2 rfl
  · exact (a4 b (.inl e)).1 hb
  · rcases hb with hb | ⟨i, p, hp, hb⟩
    · injection hb with hb
      simp only at hb
      subst hb
      rcases hat with hat | hat
      · exact (a4 _ (.inl hat)).1 e
      · have := (h2.rd.own.lt e).2
        omega
    · rcases Nat.lt_or_ge i l.length with hlt | hge
      · rw [List.getElem?_append_left hlt] at hp
        exact (a4 b (.inr ⟨i, p, hp, hb⟩)).1 e
      · rw [List.getElem?_append_right hge] at hp
        exact h2.far b (.inr ⟨_, p, hp, hb⟩) e
end
theorem pc_one {w : World} {base : Nat} {v : Value} {l : List PV} (h : PL w base v l) : ∀ u ∈ l.flatMap pcCells, u.oneCell' = true := fun u hu => by
  obtain ⟨p, hp, hu⟩ := List.mem_flatMap.1 hu
  obtain ⟨i, hi⟩ := List.getElem?_of_mem hp
  obtain ⟨A, c, e, _⟩ := (h.own i p hi).shape
  simp only [pcCells, List.mem_cons, List.not_mem_nil, or_false] at hu
  rcases hu with rfl | rfl | rfl | rfl
  · rfl
  · rw [e]; rfl
  · rfl
  · rfl
set_option maxRecDepth 100000 in
set_option maxHeartbeats 4000000 in
theorem feed_any (base g : Nat) (v : Value) (r : R) (w : World) (A : Option Addr) (cs : List Int) (c : Nat) (hr : RD w base g v r) (hok : Ok r) (hbase : base ≤ w.heap.size) (hc : cs.length ≤ c ∧ c ≤ maxLen) (hbig : cs.length ≤ 2147483648) (hx : BytesAt w A cs)
    (hoff : ∀ a, A = some a → a.block < w.heap.size ∧ a.block ≠ g ∧ v.ownBlock ≠ some a.block) (hby : Byt cs) :
    Calls Try.prog 21 #[.pointer (some ⟨g, 0, none⟩), .slice A cs.length c] w fun e w' => ∃ tv, e = .returned tv ∧ ∃ v' l, Told w base g v w' v' (feed r cs).1 tv l (feed r cs).2 ∧ (l = [] → tv = .slice none 0 0) := by
  have hcm := hc.2
  unfold maxLen at hcm
  have hg := hr.blk.lt
  have Hr := Lib.hid hr
  have Hx := Lib.hid hx
  clear hr hx
  have Hg := Lib.hid hg
  clear hg
  go_enter Try.func21, Try.ntmps21
  go_wp2
  go_loopg [1, 5] cs.length (fun gg ch tv wx => ∃ xs ys l vk A' c', ys ++ xs = cs ∧ gg = xs.length ∧ ch = .slice A' xs.length c' ∧ (xs.length ≤ c' ∧ c' ≤ maxLen) ∧ BytesAt w A' xs ∧ (∀ a, A' = some a → a.block < w.heap.size ∧ a.block ≠ g ∧ v.ownBlock ≠ some a.block) ∧ Told w base g v wx vk (feed r ys).1 tv l (feed r ys).2 ∧ (l = [] → tv = .slice none 0 0))
  case atStart => exact ⟨cs, [], [], v, A, c, rfl, rfl, rfl, hc, Hx.out, hoff, Told.nothing Hr.out (Kp.refl _ _) (.inl rfl), fun _ => rfl⟩
  case round =>
    obtain ⟨xs, ys, l, vk, A', c', hcs, rfl, rfl, hc', hx', hoff', hT, hnl⟩ := hrel
    have Hnl := Lib.hid hnl
    clear hnl
    have hby1 : Byt ys := fun x hxm => hby x (hcs ▸ List.mem_append_left xs hxm)
    have hby2 : Byt xs := fun x hxm => hby x (hcs ▸ List.mem_append_right ys hxm)
    have hok1 := feed_ok hok hby1
    have hfe := feed_append ys xs r
    have hle := feed_len ys r
    have hyx : ys.length + xs.length = cs.length := by rw [← hcs, List.length_append]
    have hll : l.length = (feed r ys).2.length := by rw [← hT.ps, List.length_map]
    generalize hF : feed r ys = F at *
    obtain ⟨rk, ps⟩ := F
    simp only at hT hok1 hfe hle hll
    have q0 := hT.rd.blk.cell 0
    simp at q0
    have Hcs := Lib.hid hcs
    have Hys := Lib.hid hF
    have Hfe := Lib.hid hfe
    have Hyx := Lib.hid hyx
    have Hll := Lib.hid hll
    have Hle := Lib.hid hle
    have HT := Lib.hid hT
    have hcm' := hc'.2
    unfold maxLen at hcm'
    clear hcs hfe hyx hll hle hT hF
    by_cases h0 : 0 < xs.length
    · have h0i : (0 : Int) < xs.length := by omega
      by_cases hst : rk.st = 0
      · have hst' : (rk.st == 0) = true := by simp [hst]
        go_wp2
        go_ret
        refine ⟨_, rfl, vk, l, ?_, Hnl.out⟩
        rw [← Hcs.out, Hfe.out, feed_dead rk hst xs, List.append_nil]
        exact HT.out
      · have hst' : (rk.st == 0) = false := by simp [hst]
        obtain ⟨b, o, rfl, hbl, _⟩ := hx' h0
        have hsz := HT.out.kp.size
        have hxr : BytesAt wr (some ⟨b, o, none⟩) xs := hx'.kp HT.out.kp (fun a e => by have := hoff' a e; exact fun h => h.elim this.2.1 this.2.2)
        go_upto_region 5 with fail
        go_cut [6, 7] (fun n7 tv2 wx => ∃ n v2 l2, n7 = .int .i64 ((n : Nat) : Int) ∧ (0 < n ∧ n ≤ xs.length) ∧ Told wr base g vk wx v2 (feed rk (xs.take n)).1 tv2 l2 (feed rk (xs.take n)).2 ∧ l2.length ≤ 1 ∧ (l2 = [] → tv2 = .slice none 0 0))
        case first =>
          rcases hok1.st with h | ⟨h, _⟩ | ⟨h, _⟩ | ⟨h, _⟩
          · exact absurd h hst
          · have hs := steps1 HT.out.rd hok1 h (Nat.le_trans hbase hsz) hc' hxr hby2 h0
            rw [h] at q0
            clear hst hst' h
            go_wp2_with (first | (go_at_call 39; refine (work1 _).mono ?_; rintro e w' ⟨rfl, rfl⟩) | (go_at_call 52; refine hs.mono ?_; rintro e w2 ⟨n, hn, tv2, rfl, v2, l2, ht2, h1, h2⟩))
            go_meet
            case rel => exact ⟨n, v2, l2, rfl, hn, ht2, h1, h2⟩
          · have hs := steps2 HT.out.rd hok1 h (Nat.le_trans hbase hsz) hc' hxr hby2 h0
            rw [h] at q0
            clear hst hst' h
            go_wp2_with (first | (go_at_call 39; refine (work2 _).mono ?_; rintro e w' ⟨rfl, rfl⟩) | (go_at_call 53; refine hs.mono ?_; rintro e w2 ⟨n, hn, tv2, rfl, v2, l2, ht2, h1, h2⟩))
            go_meet
            case rel => exact ⟨n, v2, l2, rfl, hn, ht2, h1, h2⟩
          · have hs := steps3 (A := some ⟨b, o, none⟩) HT.out.rd hok1 h hc' h0
            rw [h] at q0
            clear hst hst' h
            go_wp2_with (first | (go_at_call 39; refine (work3 _).mono ?_; rintro e w' ⟨rfl, rfl⟩) | (go_at_call 54; refine hs.mono ?_; rintro e w2 ⟨n, hn, tv2, rfl, v2, l2, ht2, h1, h2⟩))
            go_meet
            case rel => exact ⟨n, v2, l2, rfl, hn, ht2, h1, h2⟩
        case rest =>
          obtain ⟨n, v2, l2, rfl, ⟨hn1, hn2⟩, ht2, hl1, hl2⟩ := hcut
          generalize wc = w2 at *
          have hnc : n ≤ c' := by omega
          have Hl1 := Lib.hid hl1
          have Hl2 := Lib.hid hl2
          have Ht2 := Lib.hid ht2
          clear hl1 hl2 ht2 q0 hst hst'
          go_upto_region 7 with fail
          obtain ⟨A2, hA2, hx2, hoff2⟩ : ∃ A2, (if c' = n then some ⟨b, o, none⟩ else some ⟨b, o + n, none⟩ : Option Addr) = A2 ∧ BytesAt w A2 (xs.drop n) ∧ ∀ a, A2 = some a → a.block < w.heap.size ∧ a.block ≠ g ∧ v.ownBlock ≠ some a.block := by
            refine ⟨_, rfl, fun h => ?_, fun a e => ?_⟩
            · rw [List.length_drop] at h
              rw [if_neg (by omega)]
              obtain ⟨b', o', e, hlt, hcell⟩ := hx' h0
              injection e with e
              injection e with e1 e2
              subst e1 e2
              refine ⟨b, o + n, rfl, hlt, fun i x hx => ?_⟩
              rw [List.getElem?_drop] at hx
              rw [Nat.add_assoc]
              exact hcell _ x hx
            · have := hoff' ⟨b, o, none⟩ rfl
              split at e
              · injection e with e; subst e; exact this
              · injection e with e; subst e; exact this
          rw [hA2]
          clear hA2 hx' hxr
          have Hx2 := Lib.hid hx2
          have Hoff2 := Lib.hid hoff2
          have Hoff := Lib.hid hoff'
          clear hx2 hoff2 hoff' hoff
          obtain ⟨i0, hi, hz0, hz1, hz2⟩ : ∃ i, Try.prog.info? 57 = some i ∧ i.zero = some (.agg #[.int .i64 0, .slice none 0 0, .int .i64 0, .int .i64 0]) ∧ i.size = 4 ∧ i.bytes = 48 := by
            have h := info57
            cases hh : Try.prog.info? 57 with
            | none => rw [hh] at h; cases h
            | some i => rw [hh] at h; simp at h; exact ⟨i, rfl, h⟩
          have hfd : feed r (ys ++ xs.take n) = ((feed rk (xs.take n)).1, ps ++ (feed rk (xs.take n)).2) := by
            have e1 := feed_append ys xs r
            rw [feed_append ys (xs.take n) r]
            have e2 : feed r ys = (rk, ps) := Hys.out
            rw [e2]
          have hyd : (ys ++ xs.take n) ++ xs.drop n = cs := by rw [List.append_assoc, List.take_append_drop]; exact Hcs.out
          have Hfd := Lib.hid hfd
          have Hyd := Lib.hid hyd
          clear hfd hyd
          have hpl := (HT.out.stands Ht2.out Hg.out).1
          have Hpl := Lib.hid hpl
          clear hpl
          cases l2 with
          | nil =>
            have e0 := Hl2.out rfl
            subst e0
            go_wp2_with (at_builtin; refine wpList_append_own_none rfl (.tmp 34) (.tmp 35) 24 rfl w.heap.size 57 i0 4 Try.underlying24 hi u5 l.length (l.flatMap pcCells) (by simp [Act.eval]) Hpl.out.row (by simp [Act.eval]) ?_)
            go_roundg (xs.length - n)
            case measure => omega
            case rel =>
              refine ⟨xs.drop n, ys ++ xs.take n, l, v2, A2, c' - n, Hyd.out, by rw [List.length_drop], by rw [List.length_drop], ⟨by rw [List.length_drop]; omega, by unfold maxLen; omega⟩, Hx2.out, Hoff2.out, ?_, Hnl.out⟩
              rw [Hfd.out]
              exact HT.out.skip Ht2.out Hg.out
          | cons p l2 =>
            obtain ⟨tb, cap, rfl, hb1, hb2⟩ := Ht2.out.pl.row.form (by simp)
            have hfits : l.length + (p :: l2).length ≤ 2147483649 := by have := Hl1.out; have := Hll.out; have := Hle.out; have := Hyx.out; omega
            have Hfits := Lib.hid hfits
            have hnews : ∀ j u, ((p :: l2).flatMap pcCells)[j]? = some u → w2.cell? ((⟨tb, 0, none⟩ : Addr).add j) = some u := fun j u hu => by
              rw [Go.WideShapes.add_plain, Nat.zero_add, Ht2.out.pl.row.cellAt j (by rw [← pc_len]; exact (List.getElem?_eq_some_iff.1 hu).1)]
              exact hu
            have Hnews := Lib.hid hnews
            clear hnews
            clear hfits
            go_wp2_with (at_builtin; refine wpList_append_lies w2 rfl (.tmp 34) (.tmp 35) 24 rfl w.heap.size 57 i0 _ 4 48 Try.underlying24 hi hz0 hz1 hz2 rfl (by decide) u5 l.length (l.flatMap pcCells) (by simp [Act.eval]) Hpl.out.row ⟨tb, 0, none⟩ (l2.length + 1) cap ((p :: l2).flatMap pcCells) (by simp [Act.eval]) (pc_len _) Hnews.out (pc_one Ht2.out.pl) (by omega) (by unfold maxLen; have := Hfits.out; rw [List.length_cons] at this; omega) (by have := Hfits.out; rw [List.length_cons] at this; omega) (Nat.le_trans HT.out.kp.size Ht2.out.kp.size) w2.heap.size rfl ?_; intro g3 cap3 w3 hr3 hgr hat hlt)
            go_roundg (xs.length - n)
            case measure => omega
            case rel =>
              refine ⟨xs.drop n, ys ++ xs.take n, l ++ p :: l2, v2, A2, c' - n, Hyd.out, by rw [List.length_drop], by rw [List.length_drop], ⟨by rw [List.length_drop]; omega, by unfold maxLen; omega⟩, Hx2.out, Hoff2.out, ?_, fun e => by simp at e⟩
              rw [Hfd.out]
              exact HT.out.more Ht2.out Hg.out hr3 rfl hgr hat
    · have h0i : ¬ (0 : Int) < xs.length := by omega
      have hnil : xs = [] := List.eq_nil_of_length_eq_zero (by omega)
      have Hnil := Lib.hid hnil
      clear hnil
      go_wp2
      go_ret
      refine ⟨_, rfl, vk, l, ?_, Hnl.out⟩
      have e : feed rk xs = (rk, []) := by rw [Hnil.out]; rfl
      rw [← Hcs.out, Hfe.out, e, List.append_nil]
      exact HT.out
end Go.Proofs.Ytkllgmhfjibajaa
