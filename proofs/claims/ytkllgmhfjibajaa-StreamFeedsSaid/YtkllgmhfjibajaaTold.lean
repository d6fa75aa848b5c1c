/- The walk of the law's told. Conditions: none. -/
import Derived.Test.YtkllgmhfjibajaaLawHead
namespace Go.Proofs.Ytkllgmhfjibajaa
open Go.RowKit St
/-- Where what is handed in may not lie. -/
def Away (w : World) (g : Nat) (v : Value) (A : Option Addr) : Prop := ∀ a, A = some a → a.block < w.heap.size ∧ a.block ≠ g ∧ v.ownBlock ≠ some a.block
theorem Away.told {w w1 : World} {base g : Nat} {v v1 tv : Value} {r1 : R} {l : List PV} {ps : List Pc} {A : Option Addr} (h : Away w g v A) (hT : Told w base g v w1 v1 r1 tv l ps) : Away w1 g v1 A := fun a e => by
  obtain ⟨h1, h2, h3⟩ := h a e
  refine ⟨Nat.lt_of_lt_of_le h1 hT.kp.size, h2, fun e2 => ?_⟩
  rcases hT.at_ with h4 | h4
  · exact h3 (h4 ▸ e2)
  · have := h4 _ e2
    omega
theorem BytesAt.told {w w1 : World} {base g : Nat} {v v1 tv : Value} {r1 : R} {l : List PV} {ps : List Pc} {A : Option Addr} {xs : List Int} (h : BytesAt w A xs) (ha : Away w g v A) (hT : Told w base g v w1 v1 r1 tv l ps) : BytesAt w1 A xs :=
  h.kp hT.kp fun a e hS => by
    obtain ⟨h1, h2, h3⟩ := ha a e
    exact hS.elim h2 h3
/-- The rest of what is read: at a place, so many. -/
theorem BytesAt.part {w : World} {b o : Nat} {xs : List Int} (h : BytesAt w (some ⟨b, o, none⟩) xs) (i n : Nat) (A2 : Option Addr) (hA : 0 < ((xs.drop i).take n).length → A2 = some ⟨b, o + i, none⟩) : BytesAt w A2 ((xs.drop i).take n) := fun h0 => by
  rw [hA h0]
  exact h.sub i n h0
/-- What is fed in two parts. -/
theorem feed_part {r rk : R} {ps : List Pc} {bs : List Int} {k n : Nat} (h : feed r (bs.take k) = (rk, ps)) : feed r (bs.take (k + n)) = ((feed rk ((bs.drop k).take n)).1, ps ++ (feed rk ((bs.drop k).take n)).2) := by
  rw [List.take_add, feed_append, h]
/-- A part is fed. -/
theorem feed_at {base g : Nat} {v vk tv : Value} {r : R} {w wr : World} {b o : Nat} {bs : List Int} {c k m : Nat} {l : List PV} (hok : Ok r) (hbase : base ≤ w.heap.size) (hc : bs.length ≤ c ∧ c ≤ maxLen) (hbig : bs.length ≤ 2147483648) (hx : BytesAt w (some ⟨b, o, none⟩) bs)
    (hoff : Away w g v (some ⟨b, o, none⟩)) (hby : Byt bs) (hT : Told w base g v wr vk (feed r (bs.take k)).1 tv l (feed r (bs.take k)).2) (hkm : k ≤ m) (hm : m ≤ bs.length) :
    Calls Try.prog 21 #[.pointer (some ⟨g, 0, none⟩), .slice (if c = k then some ⟨b, o, none⟩ else some ⟨b, o + k, none⟩) (m - k) (c - k)] wr fun e w' => ∃ tv2, e = .returned tv2 ∧ ∃ v2 l2 ps2, Told wr base g vk w' v2 (feed r (bs.take m)).1 tv2 l2 ps2 ∧ (feed r (bs.take m)).2 = (feed r (bs.take k)).2 ++ ps2 ∧ l2.length ≤ m - k ∧ (l2 = [] → tv2 = .slice none 0 0) := by
  have hlen : ((bs.drop k).take (m - k)).length = m - k := by rw [List.length_take, List.length_drop]; omega
  have hk1 : Byt (bs.take k) := fun x hx => hby x (List.mem_of_mem_take hx)
  have hc1 := hc.1
  have hc2 := hc.2
  have ha := hoff.told hT
  have hf := feed_any base g vk (feed r (bs.take k)).1 wr (if c = k then some ⟨b, o, none⟩ else some ⟨b, o + k, none⟩) ((bs.drop k).take (m - k)) (c - k) hT.rd (feed_ok hok hk1) (Nat.le_trans hbase hT.kp.size) (by rw [hlen]; omega) (by rw [hlen]; omega)
    ((hx.told hoff hT).part k (m - k) _ (fun h => by rw [hlen] at h; rw [if_neg (by omega)])) (fun a e => by
      have := ha ⟨b, o, none⟩ rfl
      split at e
      · injection e with e; subst e; exact this
      · injection e with e; subst e; exact this) (hby.sub k (m - k))
  rw [hlen] at hf
  refine hf.mono ?_
  rintro e w' ⟨tv2, rfl, v2, l2, hT2, hn2⟩
  have hp := feed_part (n := m - k) (show feed r (bs.take k) = ((feed r (bs.take k)).1, (feed r (bs.take k)).2) from rfl)
  rw [show k + (m - k) = m by omega] at hp
  refine ⟨tv2, rfl, v2, l2, _, (by rw [hp]; exact hT2), (by rw [hp]), ?_, hn2⟩
  have h1 := feed_len ((bs.drop k).take (m - k)) (feed r (bs.take k)).1
  rw [← hT2.ps, List.length_map, hlen] at h1
  exact h1
theorem told_count {base g : Nat} {v vk tv : Value} {r : R} {w wr : World} {xs : List Int} {l : List PV} (hT : Told w base g v wr vk (feed r xs).1 tv l (feed r xs).2) : l.length ≤ xs.length := by
  have h1 := feed_len xs r
  rw [← hT.ps, List.length_map] at h1
  exact h1
theorem info57' : ∃ i, Try.prog.info? 57 = some i ∧ i.zero = some (.agg #[.int .i64 0, .slice none 0 0, .int .i64 0, .int .i64 0]) ∧ i.size = 4 ∧ i.bytes = 48 := by
  have h := info57
  cases hh : Try.prog.info? 57 with
  | none => rw [hh] at h; cases h
  | some i => rw [hh] at h; simp at h; exact ⟨i, rfl, h⟩
set_option maxRecDepth 100000 in
set_option maxHeartbeats 1600000 in
theorem told_any (base g : Nat) (v : Value) (r : R) (w : World) (b o : Nat) (bs : List Int) (c : Nat) (tv3 : Value) (B : Nat) (ts : List Int) (hr : RD w base g v r) (hok : Ok r) (hbase : base ≤ w.heap.size) (hc : bs.length ≤ c ∧ c ≤ maxLen) (hbig : bs.length ≤ 2147483648) (hx : BytesAt w (some ⟨b, o, none⟩) bs)
    (hoff : Away w g v (some ⟨b, o, none⟩)) (hby : Byt bs) (ht : OwnInts w B tv3 ts) (hto : ∀ j, tv3.ownBlock = some j → j ≠ g ∧ v.ownBlock ≠ some j) :
    Calls Try.prog 36 #[.pointer (some ⟨g, 0, none⟩), .slice (some ⟨b, o, none⟩) bs.length c, tv3] w fun e w' => ∃ tv, e = .returned tv ∧ ∃ v' l, Told w base g v w' v' (feed r bs).1 tv l (feed r bs).2 := by
  have hcm := hc.2
  unfold maxLen at hcm
  have hg := hr.blk.lt
  obtain ⟨A3, c3, rfl, k1, k2, k3⟩ := ht.read (Nat.le_refl _)
  unfold maxLen at k2
  have Hr := Lib.hid hr
  have Hx := Lib.hid hx
  have Hoff := Lib.hid hoff
  have Ht := Lib.hid ht
  have Hto := Lib.hid hto
  have Hg := Lib.hid hg
  clear hr hx hoff ht k3 hto hg
  go_enter Try.func36, Try.ntmps36
  go_wp2
  go_loopg [7, 8, 9] ts.length (fun gg tv fr i wx => ∃ k q l vk, gg + q = ts.length ∧ i = .int .i64 ((q : Nat) : Int) ∧ fr = .int .i64 ((k : Nat) : Int) ∧ k ≤ bs.length ∧ Told w base g v wx vk (feed r (bs.take k)).1 tv l (feed r (bs.take k)).2 ∧ (l = [] → tv = .slice none 0 0))
  case atStart => exact ⟨0, 0, [], v, by omega, rfl, rfl, Nat.zero_le _, Told.nothing Hr.out (Kp.refl _ _) (.inl rfl), fun _ => rfl⟩
  case round =>
    obtain ⟨k, q, l, vk, hq, rfl, rfl, hk, hT, hnl⟩ := hrel
    have Hq := Lib.hid hq
    have HT := Lib.hid hT
    have Hnl := Lib.hid hnl
    clear hq hT hnl
    by_cases hlt : q < ts.length
    · have hqi : (q : Int) < ts.length := by omega
      have htw := Ht.out.keep (w' := wr) (fun j hj => HT.out.kp.block j (Ht.out.lt hj).2 (fun hS => hS.elim (Hto.out j hj).1 (Hto.out j hj).2))
      obtain ⟨A4, c4, e4, _, _, h4⟩ := htw.read (Nat.le_refl _)
      injection e4 with e4 _ e5
      subst e4 e5
      obtain ⟨b3, o3, x, e6, hb3, hxq, q0⟩ := h4.at_ hlt
      subst e6
      have hb3' := (Ht.out.lt (b := b3) rfl).2
      have hqw : w.cell? ⟨b3, o3 + q, none⟩ = some (.int .i64 x) := by
        rw [← q0]
        exact (World.cell?_of_block (a := ⟨b3, o3 + q, none⟩) (HT.out.kp.block b3 hb3' (fun hS => hS.elim (Hto.out b3 rfl).1 (Hto.out b3 rfl).2))).symm
      have Hqw := Lib.hid hqw
      clear htw h4 hxq hqw
      by_cases hx1 : (k : Int) ≤ x
      · by_cases hx2 : x ≤ (bs.length : Int)
        · obtain ⟨m, rfl⟩ : ∃ m : Nat, x = (m : Int) := ⟨x.toNat, by omega⟩
          have hm1 : k ≤ m := by omega
          have hm2 : m ≤ bs.length := by omega
          have hmc : m ≤ c := by omega
          have hf := feed_at (m := m) hok hbase hc hbig Hx.out Hoff.out hby HT.out hm1 hm2
          by_cases hck : c = k
          · subst hck
            rw [if_pos rfl, Nat.sub_self, show m - c = 0 by omega] at hf
            go_upto_region 8 with (go_at_call 21; refine hf.mono ?_; clear hf; rintro e w2 ⟨tv2, rfl, v2, l2, ps2, ht2, hps, hl2, hn2⟩)
            have Ht2 := Lib.hid ht2
            have Hps := Lib.hid hps
            have Hn2 := Lib.hid hn2
            clear ht2 hps hn2
            obtain ⟨i0, hi, hz0, hz1, hz2⟩ := info57'
            have hpl := (HT.out.stands Ht2.out Hg.out).1
            have q2 : w2.cell? ⟨b3, o3 + q, none⟩ = some (.int .i64 ((m : Nat) : Int)) := (World.cell?_of_block (a := ⟨b3, o3 + q, none⟩) ((HT.out.stands Ht2.out Hg.out).2.1.block b3 hb3' (fun hS => hS.elim (Hto.out b3 rfl).1 (Hto.out b3 rfl).2))).trans Hqw.out
            have Hpl := Lib.hid hpl
            clear hpl
            have hcnt := told_count HT.out
            rw [List.length_take] at hcnt
            cases l2 with
            | nil =>
              have e0 := Hn2.out rfl
              subst e0
              go_wp2_with (at_builtin; refine wpList_append_own_none rfl (.tmp 42) (.tmp 43) 24 rfl w.heap.size 57 i0 4 Try.underlying24 hi u7 l.length (l.flatMap pcCells) (by simp [Act.eval]) Hpl.out.row (by simp [Act.eval]) ?_)
              go_roundg (gk - 1)
              case measure => have := Hq.out; omega
              case rel => exact ⟨m, q + 1, l, v2, by have := Hq.out; omega, by go_num, rfl, hm2, (by rw [Hps.out]; exact HT.out.skip Ht2.out Hg.out), Hnl.out⟩
            | cons p l2 =>
              obtain ⟨tb, cap, rfl, hb1, hb2⟩ := Ht2.out.pl.row.form (by simp)
              have hfits : l.length + (l2.length + 1) ≤ 4294967296 := by rw [List.length_cons] at hl2; omega
              have Hfits := Lib.hid hfits
              have hnews : ∀ j u, ((p :: l2).flatMap pcCells)[j]? = some u → w2.cell? ((⟨tb, 0, none⟩ : Addr).add j) = some u := fun j u hu => by
                rw [Go.WideShapes.add_plain, Nat.zero_add, Ht2.out.pl.row.cellAt j (by rw [← pc_len]; exact (List.getElem?_eq_some_iff.1 hu).1)]
                exact hu
              have Hnews := Lib.hid hnews
              clear hnews hfits hl2 hcnt
              go_wp2_with (at_builtin; refine wpList_append_lies w2 rfl (.tmp 42) (.tmp 43) 24 rfl w.heap.size 57 i0 _ 4 48 Try.underlying24 hi hz0 hz1 hz2 rfl (by decide) u7 l.length (l.flatMap pcCells) (by simp [Act.eval]) Hpl.out.row ⟨tb, 0, none⟩ (l2.length + 1) cap ((p :: l2).flatMap pcCells) (by simp [Act.eval]) (pc_len _) Hnews.out (pc_one Ht2.out.pl) (by omega) (by unfold maxLen; have := Hfits.out; omega) (by have := Hfits.out; omega) (Nat.le_trans HT.out.kp.size Ht2.out.kp.size) w2.heap.size rfl ?_; intro g3 cap3 w3 hr3 hgr hat hlt3; have q3 := (hgr.cell_far ⟨b3, o3 + q, none⟩ (Nat.lt_of_lt_of_le hb3' (Nat.le_trans HT.out.kp.size Ht2.out.kp.size)) (fun e => by have := (Hpl.out.row.lt b3 e.symm).1; omega)).trans q2)
              go_roundg (gk - 1)
              case measure => have := Hq.out; omega
              case rel => exact ⟨m, q + 1, l ++ p :: l2, v2, by have := Hq.out; omega, by go_num, rfl, hm2, (by rw [Hps.out]; exact HT.out.more Ht2.out Hg.out hr3 rfl hgr hat), fun e => by simp at e⟩
          · rw [if_neg hck] at hf
            go_upto_region 8 with (go_at_call 21; refine hf.mono ?_; clear hf; rintro e w2 ⟨tv2, rfl, v2, l2, ps2, ht2, hps, hl2, hn2⟩)
            have Ht2 := Lib.hid ht2
            have Hps := Lib.hid hps
            have Hn2 := Lib.hid hn2
            clear ht2 hps hn2
            obtain ⟨i0, hi, hz0, hz1, hz2⟩ := info57'
            have hpl := (HT.out.stands Ht2.out Hg.out).1
            have q2 : w2.cell? ⟨b3, o3 + q, none⟩ = some (.int .i64 ((m : Nat) : Int)) := (World.cell?_of_block (a := ⟨b3, o3 + q, none⟩) ((HT.out.stands Ht2.out Hg.out).2.1.block b3 hb3' (fun hS => hS.elim (Hto.out b3 rfl).1 (Hto.out b3 rfl).2))).trans Hqw.out
            have Hpl := Lib.hid hpl
            clear hpl
            have hcnt := told_count HT.out
            rw [List.length_take] at hcnt
            cases l2 with
            | nil =>
              have e0 := Hn2.out rfl
              subst e0
              go_wp2_with (at_builtin; refine wpList_append_own_none rfl (.tmp 42) (.tmp 43) 24 rfl w.heap.size 57 i0 4 Try.underlying24 hi u7 l.length (l.flatMap pcCells) (by simp [Act.eval]) Hpl.out.row (by simp [Act.eval]) ?_)
              go_roundg (gk - 1)
              case measure => have := Hq.out; omega
              case rel => exact ⟨m, q + 1, l, v2, by have := Hq.out; omega, by go_num, rfl, hm2, (by rw [Hps.out]; exact HT.out.skip Ht2.out Hg.out), Hnl.out⟩
            | cons p l2 =>
              obtain ⟨tb, cap, rfl, hb1, hb2⟩ := Ht2.out.pl.row.form (by simp)
              have hfits : l.length + (l2.length + 1) ≤ 4294967296 := by rw [List.length_cons] at hl2; omega
              have Hfits := Lib.hid hfits
              have hnews : ∀ j u, ((p :: l2).flatMap pcCells)[j]? = some u → w2.cell? ((⟨tb, 0, none⟩ : Addr).add j) = some u := fun j u hu => by
                rw [Go.WideShapes.add_plain, Nat.zero_add, Ht2.out.pl.row.cellAt j (by rw [← pc_len]; exact (List.getElem?_eq_some_iff.1 hu).1)]
                exact hu
              have Hnews := Lib.hid hnews
              clear hnews hfits hl2 hcnt
              go_wp2_with (at_builtin; refine wpList_append_lies w2 rfl (.tmp 42) (.tmp 43) 24 rfl w.heap.size 57 i0 _ 4 48 Try.underlying24 hi hz0 hz1 hz2 rfl (by decide) u7 l.length (l.flatMap pcCells) (by simp [Act.eval]) Hpl.out.row ⟨tb, 0, none⟩ (l2.length + 1) cap ((p :: l2).flatMap pcCells) (by simp [Act.eval]) (pc_len _) Hnews.out (pc_one Ht2.out.pl) (by omega) (by unfold maxLen; have := Hfits.out; omega) (by have := Hfits.out; omega) (Nat.le_trans HT.out.kp.size Ht2.out.kp.size) w2.heap.size rfl ?_; intro g3 cap3 w3 hr3 hgr hat hlt3; have q3 := (hgr.cell_far ⟨b3, o3 + q, none⟩ (Nat.lt_of_lt_of_le hb3' (Nat.le_trans HT.out.kp.size Ht2.out.kp.size)) (fun e => by have := (Hpl.out.row.lt b3 e.symm).1; omega)).trans q2)
              go_roundg (gk - 1)
              case measure => have := Hq.out; omega
              case rel => exact ⟨m, q + 1, l ++ p :: l2, v2, by have := Hq.out; omega, by go_num, rfl, hm2, (by rw [Hps.out]; exact HT.out.more Ht2.out Hg.out hr3 rfl hgr hat), fun e => by simp at e⟩
        · go_wp2
          go_roundg (gk - 1)
          case measure => have := Hq.out; omega
          case rel => exact ⟨k, q + 1, l, vk, by have := Hq.out; omega, by go_num, rfl, hk, HT.out, Hnl.out⟩
      · go_wp2
        go_roundg (gk - 1)
        case measure => have := Hq.out; omega
        case rel => exact ⟨k, q + 1, l, vk, by have := Hq.out; omega, by go_num, rfl, hk, HT.out, Hnl.out⟩
    · have hqi : ¬ (q : Int) < ts.length := by omega
      have hf := feed_at (m := bs.length) hok hbase hc hbig Hx.out Hoff.out hby HT.out hk (Nat.le_refl _)
      by_cases hck : c = k
      · subst hck
        rw [if_pos rfl, Nat.sub_self, show bs.length - c = 0 by omega] at hf
        go_upto_region 11 with (go_at_call 21; refine hf.mono ?_; clear hf; rintro e w2 ⟨tv2, rfl, v2, l2, ps2, ht2, hps, hl2, hn2⟩)
        have Ht2 := Lib.hid ht2
        have Hps := Lib.hid hps
        have Hn2 := Lib.hid hn2
        clear ht2 hps hn2
        obtain ⟨i0, hi, hz0, hz1, hz2⟩ := info57'
        have hpl := (HT.out.stands Ht2.out Hg.out).1
        have Hpl := Lib.hid hpl
        clear hpl
        have hcnt := told_count HT.out
        rw [List.length_take] at hcnt
        cases l2 with
        | nil =>
          have e0 := Hn2.out rfl
          subst e0
          go_wp2_with (at_builtin; refine wpList_append_own_none rfl (.tmp 54) (.tmp 55) 24 rfl w.heap.size 57 i0 4 Try.underlying24 hi u7 l.length (l.flatMap pcCells) (by simp [Act.eval]) Hpl.out.row (by simp [Act.eval]) ?_)
          go_ret
          have h := HT.out.skip Ht2.out Hg.out
          rw [← Hps.out, List.take_length] at h
          exact ⟨_, rfl, v2, l, h⟩
        | cons p l2 =>
          obtain ⟨tb, cap, rfl, hb1, hb2⟩ := Ht2.out.pl.row.form (by simp)
          have hfits : l.length + (l2.length + 1) ≤ 4294967296 := by rw [List.length_cons] at hl2; omega
          have Hfits := Lib.hid hfits
          have hnews : ∀ j u, ((p :: l2).flatMap pcCells)[j]? = some u → w2.cell? ((⟨tb, 0, none⟩ : Addr).add j) = some u := fun j u hu => by
            rw [Go.WideShapes.add_plain, Nat.zero_add, Ht2.out.pl.row.cellAt j (by rw [← pc_len]; exact (List.getElem?_eq_some_iff.1 hu).1)]
            exact hu
          have Hnews := Lib.hid hnews
          clear hnews hfits hl2 hcnt
          go_wp2_with (at_builtin; refine wpList_append_lies w2 rfl (.tmp 54) (.tmp 55) 24 rfl w.heap.size 57 i0 _ 4 48 Try.underlying24 hi hz0 hz1 hz2 rfl (by decide) u7 l.length (l.flatMap pcCells) (by simp [Act.eval]) Hpl.out.row ⟨tb, 0, none⟩ (l2.length + 1) cap ((p :: l2).flatMap pcCells) (by simp [Act.eval]) (pc_len _) Hnews.out (pc_one Ht2.out.pl) (by omega) (by unfold maxLen; have := Hfits.out; omega) (by have := Hfits.out; omega) (Nat.le_trans HT.out.kp.size Ht2.out.kp.size) w2.heap.size rfl ?_; intro g3 cap3 w3 hr3 hgr hat hlt3)
          go_ret
          have h := HT.out.more Ht2.out Hg.out hr3 rfl hgr hat
          rw [← Hps.out, List.take_length] at h
          exact ⟨_, rfl, v2, l ++ p :: l2, h⟩
      · rw [if_neg hck] at hf
        go_upto_region 11 with (go_at_call 21; refine hf.mono ?_; clear hf; rintro e w2 ⟨tv2, rfl, v2, l2, ps2, ht2, hps, hl2, hn2⟩)
        have Ht2 := Lib.hid ht2
        have Hps := Lib.hid hps
        have Hn2 := Lib.hid hn2
        clear ht2 hps hn2
        obtain ⟨i0, hi, hz0, hz1, hz2⟩ := info57'
        have hpl := (HT.out.stands Ht2.out Hg.out).1
        have Hpl := Lib.hid hpl
        clear hpl
        have hcnt := told_count HT.out
        rw [List.length_take] at hcnt
        cases l2 with
        | nil =>
          have e0 := Hn2.out rfl
          subst e0
          go_wp2_with (at_builtin; refine wpList_append_own_none rfl (.tmp 54) (.tmp 55) 24 rfl w.heap.size 57 i0 4 Try.underlying24 hi u7 l.length (l.flatMap pcCells) (by simp [Act.eval]) Hpl.out.row (by simp [Act.eval]) ?_)
          go_ret
          have h := HT.out.skip Ht2.out Hg.out
          rw [← Hps.out, List.take_length] at h
          exact ⟨_, rfl, v2, l, h⟩
        | cons p l2 =>
          obtain ⟨tb, cap, rfl, hb1, hb2⟩ := Ht2.out.pl.row.form (by simp)
          have hfits : l.length + (l2.length + 1) ≤ 4294967296 := by rw [List.length_cons] at hl2; omega
          have Hfits := Lib.hid hfits
          have hnews : ∀ j u, ((p :: l2).flatMap pcCells)[j]? = some u → w2.cell? ((⟨tb, 0, none⟩ : Addr).add j) = some u := fun j u hu => by
            rw [Go.WideShapes.add_plain, Nat.zero_add, Ht2.out.pl.row.cellAt j (by rw [← pc_len]; exact (List.getElem?_eq_some_iff.1 hu).1)]
            exact hu
          have Hnews := Lib.hid hnews
          clear hnews hfits hl2 hcnt
          go_wp2_with (at_builtin; refine wpList_append_lies w2 rfl (.tmp 54) (.tmp 55) 24 rfl w.heap.size 57 i0 _ 4 48 Try.underlying24 hi hz0 hz1 hz2 rfl (by decide) u7 l.length (l.flatMap pcCells) (by simp [Act.eval]) Hpl.out.row ⟨tb, 0, none⟩ (l2.length + 1) cap ((p :: l2).flatMap pcCells) (by simp [Act.eval]) (pc_len _) Hnews.out (pc_one Ht2.out.pl) (by omega) (by unfold maxLen; have := Hfits.out; omega) (by have := Hfits.out; omega) (Nat.le_trans HT.out.kp.size Ht2.out.kp.size) w2.heap.size rfl ?_; intro g3 cap3 w3 hr3 hgr hat hlt3)
          go_ret
          have h := HT.out.more Ht2.out Hg.out hr3 rfl hgr hat
          rw [← Hps.out, List.take_length] at h
          exact ⟨_, rfl, v2, l ++ p :: l2, h⟩
end Go.Proofs.Ytkllgmhfjibajaa
