/- The walk of a stream's reader's gathers. Conditions: none. -/
import Derived.Test.YtkllgmhfjibajaaPasses
import Derived.Deep.RegionLaw
namespace Go.Proofs.Ytkllgmhfjibajaa
open Go.RowKit St
theorem RD.grow {w w2 : World} {base g : Nat} {v v2 : Value} {r : R} {bs : List Int} (h : RD w base g v r) (hk : Kp (fun j => v.ownBlock = some j) w w2) (ho : OwnB w2 base v2 bs) :
    RD (w2.setCell ⟨g, 2, none⟩ v2) base g v2 ⟨r.st, r.lim, bs, r.len, r.fr⟩ := by
  have hb := h.blk.kp hk h.ne
  exact ⟨by simpa using hb.set_ 2 v2, ho.kp (S := fun j => j = g) (Kp.set_ (fun j => j = g) w2 (p := ⟨g, 2, none⟩) rfl v2) (fun b hb' e => ho.ne_blk hb (by decide) (by rw [hb', e]))⟩
/-- A step behind another. -/
theorem Told.after {w w3 w4 : World} {base g : Nat} {v v2 v' tv : Value} {r : R} {l : List PV} {ps : List Pc} (hk : Kp (fun j => j = g ∨ v.ownBlock = some j) w w3)
    (hv : v2.ownBlock = v.ownBlock ∨ ∀ b, v2.ownBlock = some b → w.heap.size ≤ b) (h : Told w3 base g v2 w4 v' r tv l ps) : Told w base g v w4 v' r tv l ps := by
  have hs := hk.size
  refine ⟨h.rd, hk.trans h.kp (fun j hj => ?_), ?_, h.pl.mono hs, h.ps, h.far⟩
  · rcases hj with hj | hj
    · exact .inl (.inl hj)
    · rcases hv with hv | hv
      · exact .inl (.inr (hv ▸ hj))
      · exact .inr (hv j hj)
  · rcases h.at_ with h1 | h1
    · rcases hv with hv | hv
      · exact .inl (h1.trans hv)
      · exact .inr fun b hb => hv b (h1 ▸ hb)
    · exact .inr fun b hb => Nat.le_trans hs (h1 b hb)
set_option maxRecDepth 100000 in
set_option maxHeartbeats 4000000 in
theorem gathers_any (base g : Nat) (v : Value) (r : R) (w : World) (A : Option Addr) (cs : List Int) (c : Nat) (hr : RD w base g v r) (hbase : base ≤ w.heap.size) (hby : Byt r.buf) (hc : cs.length ≤ c ∧ c ≤ maxLen) (h0 : 0 < cs.length) (hx : BytesAt w A cs) (hcb : Byt cs) (hl : (r.buf.length : Int) < r.len ∧ r.len ≤ 4096) :
    Calls Try.prog 53 #[.pointer (some ⟨g, 0, none⟩), .slice A cs.length c] w fun e w' => ∃ n : Nat, (0 < n ∧ n ≤ cs.length ∧ ((r.buf.length + n : Nat) : Int) ≤ r.len) ∧ ∃ tv, e = .returned (.tuple #[.int .i64 (n : Int), tv]) ∧
      ∃ v' l, Told w base g v w' v' (gathers r (cs.take n)).1 tv l (gathers r (cs.take n)).2 ∧ l.length ≤ 1 ∧ (l = [] → tv = .slice none 0 0) := by
  obtain ⟨b, o, rfl, hbl, _⟩ := hx h0
  obtain ⟨st, lim, buf, len, fr⟩ := r
  simp only at hl hby ⊢
  obtain ⟨Av, cv, rfl, hc1, hc2⟩ := hr.own.shape
  unfold maxLen at hc2
  simp only at hc1
  have hcm := hc.2
  unfold maxLen at hcm
  have q2 := hr.blk.cell 2
  have q3 := hr.blk.cell 3
  have f2 := hr.blk.frozen 2
  simp at q2 q3
  have Hr := Lib.hid hr
  have Hx := Lib.hid hx
  clear hr hx
  go_enter Try.func53, Try.ntmps53
  go_upto_region 1 with fail
  go_region
  obtain ⟨n, hn, n1, n2, n3⟩ : ∃ n : Nat, (if len - (buf.length : Int) < (cs.length : Int) then len - (buf.length : Int) else (cs.length : Int)) = (n : Int) ∧ 0 < n ∧ n ≤ cs.length ∧ ((buf.length + n : Nat) : Int) ≤ len := by
    by_cases h : len - (buf.length : Int) < (cs.length : Int)
    · rw [if_pos h]
      exact ⟨(len - buf.length).toNat, by omega, by omega, by omega, by omega⟩
    · rw [if_neg h]
      exact ⟨cs.length, rfl, h0, Nat.le_refl _, by omega⟩
  rw [hn]
  clear hn
  have htk : n = (cs.take n).length := by rw [List.length_take]; omega
  have hbx : Byt (buf ++ cs.take n) := byt_app hby (fun x hx => hcb x (List.mem_of_mem_take hx))
  have hr1 := Hr.out.drew
  have hx1 : BytesAt w.drew (some ⟨b, o, none⟩) (cs.take n) := fun _ => by
    obtain ⟨b', o', e, hlt, hcell⟩ := Hx.out h0
    refine ⟨b', o', e, hlt, fun i x hi => hcell i x ?_⟩
    rw [List.getElem?_take] at hi
    split at hi
    · exact hi
    · cases hi
  have hk1 := Kp.drew (fun j => j = g ∨ (Value.slice Av buf.length cv).ownBlock = some j) w
  have hb1 : base ≤ w.drew.heap.size := hbase
  generalize w.drew = w1 at *
  clear q2 q3 f2
  have q2 := hr1.blk.cell 2
  have f2 := hr1.blk.frozen 2
  simp at q2
  have Hr1 := Lib.hid hr1
  have Hx1 := Lib.hid hx1
  have Hk1 := Lib.hid hk1
  have Htk := Lib.hid htk
  clear hr1 hx1 hk1 htk
  have hnc : n ≤ c := by omega
  have hbig : buf.length + n ≤ 140737488355328 := by omega
  go_wp2
  go_upto_region 2 with fail
  go_region_law (refine step_app5 rfl (.tmp 24) (.tmp 27) rfl (v := .slice Av buf.length cv) (xs := buf) (by simp [Act.eval]) Hr1.out.own ⟨b, o, none⟩ n c (cs.take n) (by simp [Act.eval]) Htk.out Hx1.out n1 hbig hb1 ?_; rintro g2 cap w2 hown hgr hat hlt; have z2 := (hgr.cell_far ⟨g, 2, none⟩ (Hr1.out.blk.lt) (fun e => Hr1.out.ne e.symm)).trans q2; have f2' := (hgr.frozen_far ⟨g, 2, none⟩ (Hr1.out.blk.lt) (fun e => Hr1.out.ne e.symm)).trans f2)
  have hkg : Kp (fun j => (Value.slice Av buf.length cv).ownBlock = some j) w1 w2 := (Kp.drew (fun _ => False) w1).mono (fun j hj => hj.elim) |>.trans (Kp.of_grown' hgr) (fun j hj => .inl hj)
  have hr3 := Hr1.out.grow hkg hown
  have hk3 : Kp (fun j => j = g ∨ (Value.slice Av buf.length cv).ownBlock = some j) w (w2.setCell ⟨g, 2, none⟩ (.slice (some ⟨g2, 0, none⟩) (buf.length + n) cap)) :=
    (Hk1.out.trans hkg (fun j hj => .inl (.inr hj))).trans (Kp.set_ (fun j => j = g) w2 (p := ⟨g, 2, none⟩) rfl _) (fun j hj => .inl (.inl hj))
  have hv3 : (Value.slice (some ⟨g2, 0, none⟩) (buf.length + n) cap).ownBlock = (Value.slice Av buf.length cv).ownBlock ∨ ∀ b, (Value.slice (some ⟨g2, 0, none⟩) (buf.length + n) cap).ownBlock = some b → w.heap.size ≤ b := by
    rcases hat with h | h
    · exact .inl h.symm
    · refine .inr fun b hb => ?_
      injection hb with hb
      have := Hk1.out.size
      have e : w1.drew.heap.size = w1.heap.size := rfl
      simp only at hb
      omega
  generalize World.setCell w2 _ _ = w3 at *
  have hcall := whole_any base g _ _ w3 hr3 hbx
  have Hk3 := Lib.hid hk3
  have Hv3 := Lib.hid hv3
  clear hkg hr3 hk3 hv3 z2 f2' hown hgr hat q2 f2
  go_wp2_with (go_at_call 62; refine hcall.mono ?_; clear hcall; rintro e w4 ⟨tv, rfl, v', l, ht, ho, hl1, hl2⟩)
  go_ret2
  exact ⟨n, ⟨n1, n2, n3⟩, tv, rfl, v', l, Told.after Hk3.out Hv3.out ht, hl1, hl2⟩
end Go.Proofs.Ytkllgmhfjibajaa
