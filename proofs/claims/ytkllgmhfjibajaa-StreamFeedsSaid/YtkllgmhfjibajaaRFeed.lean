/- The walk of the reference's Feed. Conditions: all fits. -/
import Derived.Test.YtkllgmhfjibajaaRReader
import Derived.Test.YtkllgmhfjibajaaSentMem
namespace Go.Proofs.Ytkllgmhfjibajaa
open Go.RowKit St
/-- A list of pieces that is read: the value, the row, the bodies. -/
structure PR (w : World) (base : Nat) (v : Value) (l : List PV) : Prop where
  sh : ∃ A c, v = .slice A l.length c ∧ l.length ≤ c ∧ c ≤ maxLen ∧ (∀ a, A = some a → base ≤ a.block ∧ a.block < w.heap.size) ∧
    (0 < l.length → ∃ b o, A = some ⟨b, o, none⟩ ∧ ∀ (k : Nat) (p : PV), l[k]? = some p → ∀ j, j < 4 → w.cell? ⟨b, o + k * 4 + j, none⟩ = (pcCells p)[j]?)
  own : ∀ (i : Nat) (p : PV), l[i]? = some p → OwnB w base p.2 p.1.body
section
variable {w w' : World} {base : Nat} {v : Value} {l : List PV}
theorem PR.lt (h : PR w base v l) {b : Nat} (hb : FP v l b) : base ≤ b ∧ b < w.heap.size := by
  rcases hb with hb | ⟨i, p, hp, hb⟩
  · obtain ⟨A, c, rfl, _, _, hA, _⟩ := h.sh
    cases A with
    | none => cases hb
    | some a => injection hb with hb; have := hA a rfl; omega
  · exact (h.own i p hp).lt hb
theorem PR.keep (h : PR w base v l) (hs : w.heap.size ≤ w'.heap.size) (hk : ∀ b, FP v l b → w'.heap[b]? = w.heap[b]?) : PR w' base v l := by
  refine ⟨?_, fun i p hp => (h.own i p hp).keep fun b hb => hk b (.inr ⟨i, p, hp, hb⟩)⟩
  obtain ⟨A, c, e, h1, h2, hA, h3⟩ := h.sh
  refine ⟨A, c, e, h1, h2, fun a ea => ⟨(hA a ea).1, Nat.lt_of_lt_of_le (hA a ea).2 hs⟩, fun h0 => ?_⟩
  obtain ⟨b, o, eA, hc⟩ := h3 h0
  refine ⟨b, o, eA, fun k p hp j hj => ?_⟩
  rw [← hc k p hp j hj]
  have := hk b (.inl (by rw [e, eA]; rfl))
  exact World.cell?_of_block (a := ⟨b, o + k * 4 + j, none⟩) this
theorem PR.kp {S : Nat → Prop} (h : PR w base v l) (hk : Kp S w w') (hS : ∀ b, FP v l b → ¬ S b) : PR w' base v l := h.keep hk.size fun b hb => hk.block b (h.lt hb).2 (hS b hb)
theorem PR.below (h : PR w base v l) (hb : Below w.heap.size w w') : PR w' base v l := h.keep hb.size fun b hf => hb.block b (h.lt hf).2
theorem PR.shape (h : PR w base v l) : ∃ A c, v = .slice A l.length c ∧ l.length ≤ c ∧ c ≤ maxLen := by
  obtain ⟨A, c, e, h1, h2, _⟩ := h.sh
  exact ⟨A, c, e, h1, h2⟩
/-- The pieces from one on. -/
theorem PL.from_ {tb cap t : Nat} (h : PL w base (.slice (some ⟨tb, 0, none⟩) l.length cap) l) (ht : t ≤ l.length) : PR w base (.slice (if cap = t then some ⟨tb, 0, none⟩ else some ⟨tb, t * 4, none⟩) (l.length - t) (cap - t)) (l.drop t) := by
  obtain ⟨A, c, e, h1, h2⟩ := h.shape
  obtain ⟨-, -, rfl⟩ := Value.slice.inj e
  have hlt := h.row.lt tb rfl
  refine ⟨⟨_, cap - t, by rw [List.length_drop], by rw [List.length_drop]; omega, by unfold maxLen at h2 ⊢; omega, fun a ea => ?_, fun h0 => ?_⟩, fun i p hp => ?_⟩
  · split at ea <;> (injection ea with ea; subst ea; exact hlt)
  · rw [List.length_drop] at h0
    refine ⟨tb, t * 4, by rw [if_neg (by omega)], fun k p hp j hj => ?_⟩
    rw [List.getElem?_drop] at hp
    have hk := (List.getElem?_eq_some_iff.1 hp).1
    rw [h.row.cellAt _ (by omega), ← pc_get l (t + k) p hp j hj]
    congr 1
    omega
  · rw [List.getElem?_drop] at hp
    exact h.own _ p hp
theorem PR.nil (w : World) (base : Nat) : PR w base (.slice none 0 0) [] :=
  ⟨⟨none, 0, rfl, Nat.le_refl _, Nat.zero_le _, (fun a e => by cases e), fun h => absurd h (by simp)⟩, fun i p hp => by simp at hp⟩
theorem PR.mono {base' : Nat} (h : PR w base v l) (hb : base' ≤ base) : PR w base' v l := by
  obtain ⟨A, c, e, h1, h2, hA, h3⟩ := h.sh
  exact ⟨⟨A, c, e, h1, h2, fun a ea => ⟨Nat.le_trans hb (hA a ea).1, (hA a ea).2⟩, h3⟩, fun i p hp => (h.own i p hp).mono hb⟩
theorem PL.reads (h : PL w base v l) : PR w base v l := by
  cases hl : l with
  | nil =>
    subst hl
    obtain ⟨A, c, e, h1, h2⟩ := h.shape
    refine ⟨⟨A, c, e, h1, h2, fun a ea => ?_, fun h => absurd h (by simp)⟩, fun i p hp => by simp at hp⟩
    have := h.row.lt a.block (by rw [e, ea]; rfl)
    exact this
  | cons p r =>
    rw [← hl]
    obtain ⟨tb, cap, rfl, _, _⟩ := h.row.form (by rw [hl]; simp)
    have := h.from_ (t := 0) (Nat.zero_le _)
    rw [List.drop_zero, Nat.sub_zero, Nat.sub_zero, Nat.zero_mul] at this
    have e : (if cap = 0 then some ⟨tb, 0, none⟩ else some ⟨tb, 0, none⟩ : Option Addr) = some ⟨tb, 0, none⟩ := by split <;> rfl
    rwa [e] at this
end
/-- What the reference's Feed leaves. -/
structure RTold (w : World) (base g : Nat) (v : Value) (w' : World) (v' : Value) (lim : Int) (xs : List Int) (told : Nat) (tv : Value) (l : List PV) (ps : List Pc) : Prop where
  rf : RF w' base g v' lim xs told
  kp : Kp (fun j => j = g ∨ v.ownBlock = some j) w w'
  at_ : v'.ownBlock = v.ownBlock ∨ ∀ b, v'.ownBlock = some b → w.heap.size ≤ b
  pl : PR w' w.heap.size tv l
  ps : l.map (·.1) = ps
  far : ∀ b, FP tv l b → v'.ownBlock ≠ some b
attribute [local irreducible] Go.Calls in
set_option maxRecDepth 100000 in
set_option maxHeartbeats 4000000 in
theorem rfeed_any (base g : Nat) (v : Value) (lim : Int) (xs cs : List Int) (w : World) (A : Option Addr) (c : Nat) (hr : RF w base g v lim xs (feed (fresh lim) xs).2.length) (hlim : 64 ≤ lim ∧ lim ≤ 4096) (hbase : base ≤ w.heap.size) (hc : cs.length ≤ c ∧ c ≤ maxLen) (hA : A = none → c = 0) (hbig : xs.length + cs.length ≤ 2147483647) (hx : BytesAt w A cs)
    (hby : Byt xs) (hbc : Byt cs) :
    Calls Try.prog 22 #[.pointer (some ⟨g, 0, none⟩), .slice A cs.length c] w fun e w' => ∃ tv, e = .returned tv ∧ ∃ v' l, RTold w base g v w' v' lim (xs ++ cs) (feed (fresh lim) (xs ++ cs)).2.length tv l (feed (feed (fresh lim) xs).1 cs).2 := by
  obtain ⟨Av, cv, rfl, hv1, hv2⟩ := hr.own.shape
  have hcm := hc.2
  unfold maxLen at hcm
  have q0 := hr.blk.cell 0
  have q1 := hr.blk.cell 1
  simp at q0 q1
  have hfz := hr.blk.frozen 1
  have hl0 : (lim == 0) = false := by simp only [beq_eq_false_iff_ne, ne_eq]; omega
  have Hr := Lib.hid hr
  have Hx := Lib.hid hx
  clear hr hx
  go_enter Try.func22, Try.ntmps22
  go_upto_region 3 with fail
  go_cut [] (fun wx => ∃ v', RF wx base g v' lim (xs ++ cs) (feed (fresh lim) xs).2.length ∧ Kp (fun j => j = g ∨ (Value.slice Av xs.length cv).ownBlock = some j) w wx ∧ (v'.ownBlock = (Value.slice Av xs.length cv).ownBlock ∨ ∀ b, v'.ownBlock = some b → w.heap.size ≤ b))
  case first =>
    by_cases h0 : 0 < cs.length
    · obtain ⟨b, o, rfl, _, _⟩ := Hx.out h0
      go_wp2_with (at_builtin; refine wpList_app5 rfl (.tmp 20) (.tmp 21) rfl (v := .slice Av xs.length cv) (xs := xs) (by simp [Act.eval]) Hr.out.own ⟨b, o, none⟩ cs.length c cs (by simp [Act.eval]) rfl Hx.out h0 (by omega) hbase ?_; rintro g2 cap w2 hown hgr hat hlt; have hbk := Hr.out.blk.grown hgr (fun e => Hr.out.ne e.symm); have z1 := hbk.cell 1; simp at z1; have zf := hbk.frozen 1)
      go_meet
      case rel =>
        have hk : Kp (fun j => (Value.slice Av xs.length cv).ownBlock = some j) w w2 := Kp.of_grown' hgr
        refine ⟨.slice (some ⟨g2, 0, none⟩) (xs.length + cs.length) cap, ⟨?_, ?_⟩, (hk.mono (fun j hj => .inl (.inr hj))).trans (Kp.set_ (fun j => j = g) w2 (p := ⟨g, 1, none⟩) rfl _) (fun j hj => .inl (.inl hj)), ?_⟩
        · have := hbk.set_ 1 (.slice (some ⟨g2, 0, none⟩) (xs.length + cs.length) cap)
          simpa using this
        · exact hown.kp (S := fun j => j = g) (Kp.set_ (fun j => j = g) w2 (p := ⟨g, 1, none⟩) rfl _) (fun b hb' e => hown.ne_blk hbk (by decide) (by rw [hb', e]))
        · rcases hat with h | h
          · exact .inl h.symm
          · refine .inr fun b hb => ?_
            injection hb with hb
            simp only at hb
            omega
    · obtain rfl : cs = [] := List.eq_nil_of_length_eq_zero (by omega)
      clear h0
      have hset : ∀ u, u = Value.slice Av xs.length cv → RF (w.setCell ⟨g, 1, none⟩ u) base g u lim (xs ++ []) (feed (fresh lim) xs).2.length := fun u hu => by
        subst hu
        rw [List.append_nil]
        refine ⟨?_, Hr.out.own.kp (S := fun j => j = g) (Kp.set_ (fun j => j = g) w (p := ⟨g, 1, none⟩) rfl _) (fun b hb' e => Hr.out.ne (by rw [hb', e]))⟩
        have := Hr.out.blk.set_ 1 (.slice Av xs.length cv)
        simpa using this
      have Hset := Lib.hid hset
      clear hset
      have hl0' : xs.length + 0 ≤ cv := hv1
      cases A with
      | none =>
        obtain rfl := hA rfl
        cases Av with
        | none =>
          go_wp2
          go_meet
          case rel => exact ⟨_, Hset.out _ rfl, Kp.set_ (fun j => j = g ∨ _) w (p := ⟨g, 1, none⟩) (.inl rfl) _, .inl rfl⟩
        | some av =>
          go_wp2
          go_meet
          case rel => exact ⟨_, Hset.out _ rfl, Kp.set_ (fun j => j = g ∨ _) w (p := ⟨g, 1, none⟩) (.inl rfl) _, .inl rfl⟩
      | some a =>
        cases Av with
        | none =>
          go_wp2
          go_meet
          case rel => exact ⟨_, Hset.out _ rfl, Kp.set_ (fun j => j = g ∨ _) w (p := ⟨g, 1, none⟩) (.inl rfl) _, .inl rfl⟩
        | some av =>
          go_wp2
          go_meet
          case rel => exact ⟨_, Hset.out _ rfl, Kp.set_ (fun j => j = g ∨ _) w (p := ⟨g, 1, none⟩) (.inl rfl) _, .inl rfl⟩
  case rest =>
    obtain ⟨wf, rfl⟩ : ∃ wf, wf = wc := ⟨_, rfl⟩
    obtain ⟨v', hrf, hkp, hat⟩ := hcut
    obtain ⟨A2, c2, rfl, hk1, hk2, hx2, _⟩ := hrf.own.read
    have hby2 : Byt (xs ++ cs) := byt_app hby hbc
    have hl2 : (xs ++ cs).length ≤ 2147483647 := by rw [List.length_append]; exact hbig
    have q0 := hrf.blk.cell 0
    have q1 := hrf.blk.cell 1
    simp only [List.getElem?_toArray, List.getElem?_cons_zero, List.getElem?_cons_succ] at q0 q1
    have hC1 := rcut_drew lim A2 (xs ++ cs) c2 wf hlim ⟨hk1, hk2⟩ hx2 hby2 hl2
    have hb2 := (Below.refl wf.heap.size wf).alloc (Nat.le_refl _) (.cells #[.slice none 0 0, .int .i64 0, .bool false] 71)
    have hC2 := rcut_drew lim A2 (xs ++ cs) c2 (wf.alloc (.cells #[.slice none 0 0, .int .i64 0, .bool false] 71)) hlim ⟨hk1, hk2⟩ (hx2.below hb2) hby2 hl2
    have hgl := hrf.blk.lt
    have hps := (cutA_feed hlim hby2 (by omega)).1
    have hfa := feed_append xs cs (fresh lim)
    have hT : (feed (fresh lim) xs).2.length ≤ (cutA lim (xs ++ cs)).ps.length := by rw [hps, hfa]; simp
    have hfd : (cutA lim (xs ++ cs)).ps.drop (feed (fresh lim) xs).2.length = (feed (feed (fresh lim) xs).1 cs).2 := by rw [hps, hfa]; simp
    have hfl := feed_len (xs ++ cs) (fresh lim)
    rw [← hps] at hfl
    have hps' : (feed (fresh lim) (xs ++ cs)).2.length = (cutA lim (xs ++ cs)).ps.length := by rw [hps]
    have Hrf := Lib.hid hrf
    have Hkp := Lib.hid hkp
    have Hat := Lib.hid hat
    have Hfd := Lib.hid hfd
    have Hps := Lib.hid hps'
    clear hrf hkp hat hx2 hb2 hps hfa hfd hps'
    generalize (feed (fresh lim) xs).2.length = T at *
    generalize cutA lim (xs ++ cs) = cc at *
    generalize hzs : xs ++ cs = zs at *
    have Hzs := Lib.hid hzs
    clear hzs
    go_upto_region 4 with fail
    go_cut [5] (fun p wx => ∃ g2 pv l, p = .pointer (some ⟨g2, 0, none⟩) ∧ CB wf wx g2 pv l cc)
    case first =>
      have nlt : wf.heap.size < wf.heap.size + 1 := by omega
      go_region_with (first
        | (go_at_call 40; refine hC1.mono ?_; clear hC1 hC2; rintro e w2 ⟨hb, Ap, cp, l, rfl, hpl, hl⟩)
        | (go_at_call 40; refine hC2.mono ?_; clear hC1 hC2; rintro e w2 ⟨hb, Ap, cp, l, rfl, hpl, hl⟩; obtain ⟨hcc, hff⟩ := bcell hb))
      all_goals (
        go_wp2
        go_meet
        (case rel => first | exact ⟨_, _, l, rfl, CB.after hb hpl hl⟩ | exact ⟨_, _, l, rfl, CB.ahead hb hpl hl⟩))
    case rest =>
      obtain ⟨g2, pv, l, rfl, hcb⟩ := hcut
      have hll : l.length = cc.ps.length := by rw [← hcb.ps, List.length_map]
      have c0 := hcb.blk.cell 0
      simp only [List.getElem?_toArray, List.getElem?_cons_zero] at c0
      have hg2 : g2 ≠ g := fun e => by have := hcb.lt; omega
      have hgw := (Hrf.out.below hcb.be)
      have q2 := hgw.blk.cell 2
      simp only [List.getElem?_toArray, List.getElem?_cons_zero, List.getElem?_cons_succ] at q2
      have f2 := hgw.blk.frozen 2
      have hTl : T ≤ l.length := by omega
      have hTi : (T : Int) ≤ l.length := by omega
      have hTn : ¬ (T : Int) < 0 := by omega
      have hs1 := Hkp.out.size
      have hs2 := hcb.be.size
      have hown := hgw.own
      have hmap : (l.drop T).map (·.1) = (feed (feed (fresh lim) xs).1 cs).2 := by rw [List.map_drop, hcb.ps, Hfd.out]
      have hfin : ∀ W tv, Kp (fun j => j = g) wc W → Blk W g 66 #[.int .i64 lim, .slice A2 zs.length c2, .int .i64 (l.length : Int)] → PR wc wf.heap.size tv (l.drop T) →
          ∃ v' l, RTold w base g (.slice Av xs.length cv) W v' lim zs (feed (fresh lim) zs).2.length tv l (feed (feed (fresh lim) xs).1 cs).2 := fun W tv hk hblk hpr => by
        rw [Hps.out, ← hll]
        refine ⟨_, l.drop T, ⟨⟨hblk, hown.kp hk (fun b hb e => hgw.ne (by rw [hb, e]))⟩, (Hkp.out.trans (Kp.of_below (S := fun _ => False) hcb.be) (fun _ h => h.elim)).trans hk (fun j hj => .inl (.inl hj)), Hat.out, (hpr.kp hk (fun b hb e => by have := (hpr.lt hb).1; omega)).mono hs1, hmap, fun b hb e => ?_⟩⟩
        have h1 := (hpr.lt hb).1
        have h2 := (Hrf.out.own.lt e).2
        omega
      have hend : ∀ n tv, PR wc wf.heap.size tv (l.drop T) → ∃ v' l', RTold w base g (.slice Av xs.length cv) ((wc.drewN n).setCell ⟨g, 2, none⟩ (.int .i64 (l.length : Int))) v' lim zs (feed (fresh lim) zs).2.length tv l' (feed (feed (fresh lim) xs).1 cs).2 := fun n tv hpr => by
        refine hfin _ tv ((Kp.drewN (fun j => j = g) wc n).trans (Kp.set_ (fun j => j = g) _ (p := ⟨g, 2, none⟩) rfl _) (fun j hj => .inl hj)) ?_ hpr
        have := (hgw.blk.drewN n).set_ 2 (.int .i64 (l.length : Int))
        simpa using this
      have Hfin := Lib.hid hend
      have Hcb := Lib.hid hcb
      have Hgw := Lib.hid hgw
      have Hll := Lib.hid hll
      clear hfin hend hcb hgw hown hmap hll hC1 hC2 hfl hT hl0
      rcases Hcb.out.pl.row.2 with ⟨rfl, h0⟩ | ⟨tb, cap, cur, rfl, h1, h2, h3, h4, _⟩
      · obtain rfl : T = 0 := by omega
        obtain rfl : l = [] := List.eq_nil_of_length_eq_zero h0
        have q3 : wc.cell? ⟨g, 2, none⟩ = some (.int .i64 0) := q2
        have hF := Hfin.out
        have Hhf := Lib.hid (fun n => hF n (.slice none 0 0) (PR.nil _ _))
        clear hF q2 hTl hTi hTn h0 Hfin
        go_upto_region 5 with fail
        go_quiet (fail)
        go_wp2
        go_ret
        exact ⟨_, rfl, by rw [Hzs.out]; exact Hhf.out _⟩
      · have hcap := h4
        unfold maxLen at hcap
        have hpl := Hcb.out.pl
        have hpr := PL.from_ hpl hTl
        have Hpr := Lib.hid hpr
        clear h1 h2 h4 hpl hpr
        by_cases hct : cap = T
        · rw [if_pos hct, hct, Nat.sub_self] at Hpr
          have Hhf := Lib.hid (fun n => Hfin.out n _ Hpr.out)
          clear Hfin Hpr
          go_upto_region 5 with fail
          go_quiet (fail)
          go_wp2
          go_ret
          exact ⟨_, rfl, by rw [Hzs.out]; exact Hhf.out _⟩
        · rw [if_neg hct] at Hpr
          have Hhf := Lib.hid (fun n => Hfin.out n _ Hpr.out)
          clear Hfin Hpr
          go_upto_region 5 with fail
          go_quiet (fail)
          go_wp2
          go_ret
          exact ⟨_, rfl, by rw [Hzs.out]; exact Hhf.out _⟩
end Go.Proofs.Ytkllgmhfjibajaa
