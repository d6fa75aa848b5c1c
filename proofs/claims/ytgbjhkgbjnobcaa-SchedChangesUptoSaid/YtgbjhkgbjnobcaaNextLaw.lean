/- The walk of 'SchedNext'. Conditions: the turns are readable, their lists within reach. -/
import Derived.Test.YtgbjhkgbjnobcaaSpoilt
import Derived.Test.YtgbjhkgbjnobcaaBack
namespace Go.Proofs.Ytgbjhkgbjnobcaa
open Go.RowKit Trn

namespace Trn
/-- Who is served is told by the turns alone. -/
theorem go_det {f f' : Nat} {t : Tu} {r r' : Tu × Int × Int} (h : go f t = some r) (h' : go f' t = some r') : r = r' := by
  have h1 := go_more f' h
  have h2 := go_more f h'
  rw [Nat.add_comm] at h2
  rw [h1] at h2
  injection h2
theorem NextIs.det {t t' t'' : Tu} {i i' c c' : Int} {o o' : Bool} (h : NextIs t t' i c o) (k : NextIs t t'' i' c' o') : t' = t'' ∧ i = i' ∧ c = c' ∧ o = o' := by
  rcases h with ⟨h1, e1, e2, e3, e4⟩ | ⟨h1, h2, e1, e2, e3, e4⟩ | ⟨h1, h2, e4, f, hf⟩
  · rcases k with ⟨k1, g1, g2, g3, g4⟩ | ⟨k1, _⟩ | ⟨k1, _⟩
    · exact ⟨e1.trans g1.symm, e2.trans g2.symm, e3.trans g3.symm, e4.trans g4.symm⟩
    · exact absurd k1 h1
    · exact absurd k1 h1
  · rcases k with ⟨k1, _⟩ | ⟨_, _, g1, g2, g3, g4⟩ | ⟨_, k2, _⟩
    · exact absurd h1 k1
    · exact ⟨e1.trans g1.symm, e2.trans g2.symm, e3.trans g3.symm, e4.trans g4.symm⟩
    · exact absurd k2 h2
  · rcases k with ⟨k1, _⟩ | ⟨_, k2, _⟩ | ⟨_, _, g4, f', hf'⟩
    · exact absurd h1 k1
    · exact absurd h2 k2
    · have := go_det hf hf'
      injection this with a b
      injection b with b c
      exact ⟨a, b, c, e4.trans g4.symm⟩
theorem reach_set {qs : List Qu} {q : Qu} {a : Nat} (h : ∀ q ∈ qs, q.cs.length * 8 ≤ 140737488351232) (hq : q.cs.length * 8 ≤ 140737488351232) : ∀ p ∈ qs.set a q, p.cs.length * 8 ≤ 140737488351232 := fun p hp => by
  rcases List.mem_or_eq_of_mem_set hp with hp | rfl
  · exact h p hp
  · exact hq
theorem reach_cur {t : Tu} (h : Reach t) : (cur t).cs.length * 8 ≤ 140737488351232 := by
  unfold cur
  rw [List.getD_eq_getElem?_getD]
  rcases Nat.lt_or_ge t.at_.toNat t.qs.length with hl | hl
  · rw [List.getElem?_eq_getElem hl]
    exact h _ (List.getElem_mem hl)
  · rw [List.getElem?_eq_none hl]
    show ([] : List Int).length * 8 ≤ _
    simp
theorem reach_go : ∀ {f : Nat} {t t' : Tu} {i c : Int}, Reach t → go f t = some (t', i, c) → Reach t' ∧ t'.qs.length = t.qs.length := by
  intro f
  induction f with
  | zero => intro t t' i c _ h; simp [go] at h
  | succ f ih =>
    intro t t' i c hr h
    have hc := reach_cur hr
    have hp : Reach (paid t) ∧ (paid t).qs.length = t.qs.length := ⟨reach_set hr hc, setQ_len _ _⟩
    unfold go step at h
    split at h
    · rename_i t2 he
      split at he
      · injection he with he
        subst he
        exact ih (t := on t) hr h
      · split at he
        · injection he with he
          subst he
          have := ih (t := on (paid t)) hp.1 h
          exact ⟨this.1, this.2.trans hp.2⟩
        · cases he
    · rename_i r he
      injection h with h
      subst h
      split at he
      · cases he
      · rename_i x xs hcs
        split at he
        · cases he
        · injection he with he
          injection he with he _
          subst he
          refine ⟨?_, served_len _ _ _⟩
          have hx : xs.length * 8 ≤ 140737488351232 := by rw [hcs] at hc; simp only [List.length_cons] at hc; omega
          unfold served
          split
          · exact reach_set hr (by simp)
          · exact reach_set hr hx
theorem NextIs.reach {t t' : Tu} {i c : Int} {o : Bool} (h : NextIs t t' i c o) (hr : Reach t) : Reach t' ∧ t'.qs.length ≤ 64 := by
  rcases h with ⟨_, rfl, _⟩ | ⟨h1, _, rfl, _⟩ | ⟨h1, _, _, f, hf⟩
  · exact ⟨(fun q hq => by cases hq), by simp⟩
  · exact ⟨hr, by have := h1.len; omega⟩
  · have := reach_go hr hf
    exact ⟨this.1, by rw [this.2]; have := h1.len; omega⟩
end Trn

theorem Alike.reach {l l2 : List QV} {t : Tu} (h : Alike l l2) (hl : l.map (·.1) = t.qs) (hr : Reach t) : Reach ⟨l2.map (·.1), t.at_, t.fr⟩ := fun q hq => by
  obtain ⟨p2, hp2, rfl⟩ := List.mem_map.1 hq
  obtain ⟨i, hi, rfl⟩ := List.mem_iff_getElem.1 hp2
  have hil : i < l.length := by rw [← h.1]; exact hi
  have := (h.2 i _ _ (List.getElem?_eq_getElem hil) (List.getElem?_eq_getElem hi)).2.2.1
  rw [this]
  refine hr _ ?_
  rw [← hl]
  exact List.mem_map.2 ⟨_, List.getElem_mem hil, rfl⟩
theorem Blk.kpq {w w1 : World} {x lo : Nat} {ty : TypeId} {cs : Array Value} {vq : Value} {l : List QV} {tl : List R4} (hx : Blk w x ty cs) (ht : TQ w lo vq l tl) (hk : Kp (FQ vq l) w w1) (h3 : ty ≠ 3) (h51 : ty ≠ 51) : Blk w1 x ty cs :=
  (hk.block x hx.lt (ht.ne_blk hx h3 h51)).trans hx
/-- The list with its marks, its box, and the box of what came in. -/
structure CS (w : World) (cbx : Nat) (vt : Array Value) (vq : Value) (l : List QV) (at_ : Int) (fr : Bool) (wr : World) : Prop where
  below : Below w.heap.size w wr
  tbox : Blk wr w.heap.size 34 vt
  cbox : Blk wr cbx 34 #[vq, .int .i64 at_, .bool fr]
  tq : TQ wr w.heap.size vq l [qmark (-77), qmark (-78)]
section
variable {w wr w1 : World} {cbx : Nat} {vt : Array Value} {vq : Value} {l l' : List QV} {at_ : Int} {fr : Bool}
theorem CS.more (h : CS w cbx vt vq l at_ fr wr) (hb : Below wr.heap.size wr w1) : CS w cbx vt vq l at_ fr w1 :=
  ⟨h.below.trans (hb.mono h.below.size), h.tbox.below hb h.tbox.lt, h.cbox.below hb h.cbox.lt, h.tq.below hb⟩
/-- Other turns of their own are written over. -/
theorem CS.kp (h : CS w cbx vt vq l at_ fr wr) {s : Nat} {vo : Value} {lo : List QV} {tl : List R4} (ho : TQ wr s vo lo tl) (hk : Kp (FQ vo lo) wr w1) (hs : w.heap.size ≤ s) (hl : ∀ b, FQ vq l b → b < s) : CS w cbx vt vq l at_ fr w1 :=
  ⟨Kp.to_below h.below hk h.below.size fun j hj => by have := (ho.lt hj).1; omega, h.tbox.kpq ho hk (by decide) (by decide), h.cbox.kpq ho hk (by decide) (by decide), h.tq.kp hk fun b hb hf => by have := (ho.lt hf).1; have := hl b hb; omega⟩
/-- Its own lists are written over. -/
theorem CS.mv (h : CS w cbx vt vq l at_ fr wr) (hm : MV wr w.heap.size vq [qmark (-77), qmark (-78)] l l' w1) : CS w cbx vt vq l' at_ fr w1 :=
  ⟨Kp.to_below h.below hm.kp h.below.size fun j hj => (h.tq.lt hj).1, h.tbox.kpq h.tq hm.kp (by decide) (by decide), h.cbox.kpq h.tq hm.kp (by decide) (by decide), hm.tq⟩
theorem CS.cells (h : CS w cbx vt vq l at_ fr wr) : wr.cell? ⟨cbx, 0, none⟩ = some vq ∧ wr.cell? ⟨cbx, 1, none⟩ = some (.int .i64 at_) ∧ wr.cell? ⟨cbx, 2, none⟩ = some (.bool fr) := by
  have h0 := h.cbox.cell 0
  have h1 := h.cbox.cell 1
  have h2 := h.cbox.cell 2
  exact ⟨by simpa using h0, by simpa using h1, by simpa using h2⟩
end
/-- An answer, and its box. -/
structure AS (lo bx : Nat) (vq : Value) (l : List QV) (at_ : Int) (fr : Bool) (wr : World) : Prop where
  box : Blk wr bx 34 #[vq, .int .i64 at_, .bool fr]
  tq : TQ wr lo vq l []
section
variable {wr w1 : World} {lo bx : Nat} {vq : Value} {l l' : List QV} {at_ : Int} {fr : Bool}
theorem AS.more (h : AS lo bx vq l at_ fr wr) (hb : Below wr.heap.size wr w1) : AS lo bx vq l at_ fr w1 := ⟨h.box.below hb h.box.lt, h.tq.below hb⟩
theorem AS.kp (h : AS lo bx vq l at_ fr wr) {s : Nat} {vo : Value} {ll : List QV} {tl : List R4} (ho : TQ wr s vo ll tl) (hk : Kp (FQ vo ll) wr w1) (hl : ∀ b, FQ vq l b → b < s) : AS lo bx vq l at_ fr w1 :=
  ⟨h.box.kpq ho hk (by decide) (by decide), h.tq.kp hk fun b hb hf => by have := (ho.lt hf).1; have := hl b hb; omega⟩
theorem AS.cells (h : AS lo bx vq l at_ fr wr) : wr.cell? ⟨bx, 0, none⟩ = some vq ∧ wr.cell? ⟨bx, 1, none⟩ = some (.int .i64 at_) ∧ wr.cell? ⟨bx, 2, none⟩ = some (.bool fr) := by
  have h0 := h.box.cell 0
  have h1 := h.box.cell 1
  have h2 := h.box.cell 2
  exact ⟨by simpa using h0, by simpa using h1, by simpa using h2⟩
end

set_option maxRecDepth 100000 in
set_option maxHeartbeats 16000000 in
theorem schednext_any (v : Value) (t : Tu) (w : World) (hv : TuAt w w.heap.size v t) (hr : Reach t) (hlen : t.qs.length * 48 ≤ 140737488351232) :
    Calls Try.prog 5 #[v] w fun e w' => e = .returned (.bool true) ∧ Below w.heap.size w w' := by
  have Hv := Lib.hid hv
  obtain ⟨A, c, rfl, hlc, hcm, hq⟩ := hv
  have Hr := Lib.hid hr
  have hx := Boxed.start w A t.qs.length c t.at_ t.fr
  clear hq hr hcm
  go_enter Try.func5, Try.ntmps5
  go_upto_region 1 with fail
  generalize hW1 : World.alloc _ _ = W1 at *
  clear hW1
  obtain ⟨x0, x1, x2⟩ := hx.cells
  have HX := Lib.hid hx
  clear hx
  go_upto_region 2 with (first
    | (go_at_call 12; refine Calls.mono (roomy_any _ t W1 w.heap.size HX.out.below.size (Hv.out.below HX.out.below) Hr.out hlen) ?_; rintro e w2 ⟨⟨vq, l, rfl, ho, hl, hmk⟩, hb2⟩; obtain ⟨Ac, cc, hvq, _, _⟩ := ho.shape; subst hvq; have Ho := Lib.hid ho; have Hl := Lib.hid hl; have Hmk := Lib.hid hmk; have Hb2 := Lib.hid hb2; clear ho hl hmk hb2))
  have hcs : CS w w2.heap.size #[.slice A t.qs.length c, .int .i64 t.at_, .bool t.fr] (.slice Ac l.length cc) l t.at_ t.fr (w2.alloc (.cells #[.slice Ac l.length cc, .int .i64 t.at_, .bool t.fr] 34)) := by
    have h1 := HX.out.below.size
    have h2 := HX.out.lt
    have h3 := Hb2.out.size
    exact ⟨(HX.out.below.trans (Hb2.out.mono h1)).alloc (by omega) _, (HX.out.box.below Hb2.out h2).alloc _, Blk.new _ _ _, (Ho.out.mono (by omega)).below ((Below.refl _ _).alloc (Nat.le_refl _) _)⟩
  generalize hW3 : World.alloc w2 _ = W3 at *
  clear hW3 Ho Hb2 HX x0 x1 x2
  generalize w2.heap.size = cbx at *
  generalize hn : l.length = nl at *
  obtain ⟨k0, k1, k2⟩ := hcs.cells
  have Hcs := Lib.hid hcs
  have Hn := Lib.hid hn
  clear hcs hn
  go_upto_region 3 with (first
    | (go_at_call 14; refine Calls.mono (moved_any _ l _ w.heap.size _ _ W3 Hcs.out.tq) ?_; rintro e w4 ⟨rfl, l2, hm4⟩; have Hm4 := Lib.hid hm4; have hr4 := hm4.same.reach Hl.out Hr.out; have Hr4 := Lib.hid hr4; clear hm4 hr4)
    | (go_at_call 13; refine Calls.mono (next_any _ ⟨l2.map (·.1), t.at_, t.fr⟩ w4 w4.heap.size (Nat.le_refl _) (Hm4.out.tq.tu (t := ⟨l2.map (·.1), t.at_, t.fr⟩) rfl) Hr4.out) ?_; rintro e w5 ⟨⟨v9, t9, i9, c9, o9, rfl, _, _⟩, hb5⟩; have Hb5 := Lib.hid hb5; clear hb5))
  have hcs5 := (Hcs.out.mv Hm4.out).more Hb5.out
  have Hal := Lib.hid Hm4.out.same
  clear k0 k1 k2
  obtain ⟨k0, k1, k2⟩ := hcs5.cells
  have x0 := hcs5.tbox.cell 0
  have x1 := hcs5.tbox.cell 1
  have x2 := hcs5.tbox.cell 2
  simp at x0 x1 x2
  have Hcs5 := Lib.hid hcs5
  clear hcs5 Hcs Hm4 Hb5 Hr4
  go_upto_region 4 with (first
    | (go_at_call 15; refine Calls.mono (back_any _ l l2 _ w.heap.size _ _ _ t w.heap.size w5 Hcs5.out.tq Hal.out Hl.out (Hv.out.below Hcs5.out.below) (Nat.le_refl _) Hcs5.out.below.size) ?_; rintro e w6 ⟨rfl, hm6⟩; have Hm6 := Lib.hid hm6; clear hm6))
  have hcs6 := Hcs5.out.mv Hm6.out
  clear k0 k1 k2 x0 x1 x2 Hcs5 Hm6 Hal
  obtain ⟨k0, k1, k2⟩ := hcs6.cells
  have Hcs6 := Lib.hid hcs6
  clear hcs6
  go_upto_region 5 with (first
    | (go_at_call 13; refine Calls.mono (next_own _ t w6 w6.heap.size (Nat.le_refl _) (Hcs6.out.tq.tu Hl.out) Hr.out) ?_; rintro e w7 ⟨⟨v7, t7, i7, c7, o7, rfl, ⟨va, la, rfl, hta, hla⟩, his⟩, hb7⟩; obtain ⟨Aa, ca, hva, _, _⟩ := hta.shape; subst hva; have Hta := Lib.hid hta; have Hla := Lib.hid hla; have His := Lib.hid his; have Hb7 := Lib.hid hb7; clear hta hla his hb7))
  have hs6 := Hcs6.out.below.size
  have hs7 := Hb7.out.size
  have hba := (Below.refl w7.heap.size w7).alloc (Nat.le_refl _) (.cells #[.slice Aa la.length ca, .int .i64 t7.at_, .bool t7.fr] 34)
  have hcs8 := (Hcs6.out.more Hb7.out).more hba
  have has8 : AS w6.heap.size w7.heap.size (.slice Aa la.length ca) la t7.at_ t7.fr (w7.alloc (.cells #[.slice Aa la.length ca, .int .i64 t7.at_, .bool t7.fr] 34)) := ⟨Blk.new _ _ _, Hta.out.below hba⟩
  have hfc : ∀ b, FQ (.slice Ac nl cc) l b → b < w6.heap.size := fun b hb => (Hcs6.out.tq.lt hb).2
  have hrt := His.out.reach Hr.out
  have hlan : la.length = t7.qs.length := by rw [← Hla.out, List.length_map]
  have hlar : ∀ p ∈ la, p.1.cs.length * 8 ≤ 140737488351232 := fun p hp => hrt.1 _ (by rw [← Hla.out]; exact List.mem_map.2 ⟨p, hp, rfl⟩)
  have hla64 : la.length ≤ 64 := by rw [hlan]; exact hrt.2
  have hs8 : w6.heap.size ≤ (w7.alloc (.cells #[.slice Aa la.length ca, .int .i64 t7.at_, .bool t7.fr] 34)).heap.size := by simp; omega
  generalize hW8 : World.alloc w7 _ = w8 at *
  clear hW8 hba Hcs6 Hb7 Hta k0 k1 k2
  generalize w7.heap.size = abx at *
  generalize w6.heap.size = s6 at *
  obtain ⟨k0, k1, k2⟩ := hcs8.cells
  have Hcs8 := Lib.hid hcs8
  have Has8 := Lib.hid has8
  have Hfc := Lib.hid hfc
  have Hlar := Lib.hid hlar
  have Hlan := Lib.hid hlan
  clear hcs8 has8 hfc hrt hlar hlan
  generalize hna : la.length = na at *
  have Hna := Lib.hid hna
  clear hna
  go_upto_region 6 with (first
    | (go_at_call 13; refine Calls.mono (next_own _ t w8 w8.heap.size (Nat.le_refl _) (Hcs8.out.tq.tu Hl.out) Hr.out) ?_; rintro e w9 ⟨⟨v9, tb, ib, cb, ob, rfl, ⟨vb, lb, rfl, htb, hlb⟩, hisb⟩, hb9⟩; obtain ⟨Ab, cab, hvb, _, _⟩ := htb.shape; subst hvb; have Htb := Lib.hid htb; have Hlb := Lib.hid hlb; have Hisb := Lib.hid hisb; have Hb9 := Lib.hid hb9; clear htb hlb hisb hb9))
  have hs9 := Hb9.out.size
  have hba := (Below.refl w9.heap.size w9).alloc (Nat.le_refl _) (.cells #[.slice Ab lb.length cab, .int .i64 tb.at_, .bool tb.fr] 34)
  have hcs10 := (Hcs8.out.more Hb9.out).more hba
  have has10 := (Has8.out.more Hb9.out).more hba
  have hbs10 : AS w8.heap.size w9.heap.size (.slice Ab lb.length cab) lb tb.at_ tb.fr (w9.alloc (.cells #[.slice Ab lb.length cab, .int .i64 tb.at_, .bool tb.fr] 34)) := ⟨Blk.new _ _ _, Htb.out.below hba⟩
  have hfa : ∀ b, FQ (.slice Aa na ca) la b → b < w8.heap.size := fun b hb => (Has8.out.tq.lt hb).2
  have hrt := Hisb.out.reach Hr.out
  have hlbn : lb.length = tb.qs.length := by rw [← Hlb.out, List.length_map]
  have hlbr : ∀ p ∈ lb, p.1.cs.length * 8 ≤ 140737488351232 := fun p hp => hrt.1 _ (by rw [← Hlb.out]; exact List.mem_map.2 ⟨p, hp, rfl⟩)
  have hlb64 : lb.length ≤ 64 := by rw [hlbn]; exact hrt.2
  have hs10 : w8.heap.size ≤ (w9.alloc (.cells #[.slice Ab lb.length cab, .int .i64 tb.at_, .bool tb.fr] 34)).heap.size := by simp; omega
  generalize hW10 : World.alloc w9 _ = w10 at *
  clear hW10 hba Hcs8 Has8 Hb9 Htb k0 k1 k2 hs9
  generalize w9.heap.size = bbx at *
  generalize w8.heap.size = s8 at *
  obtain ⟨k0, k1, k2⟩ := hbs10.cells
  have Hcs10 := Lib.hid hcs10
  have Has10 := Lib.hid has10
  have Hbs10 := Lib.hid hbs10
  have Hfa := Lib.hid hfa
  have Hlbr := Lib.hid hlbr
  clear hcs10 has10 hbs10 hfa hrt hlbr hlbn
  generalize hnb : lb.length = nb at *
  have Hnb := Lib.hid hnb
  clear hnb
  go_upto_region 7 with (first
    | (go_at_call 16; refine Calls.mono (spoilt_any _ lb s8 _ _ w10 Hbs10.out.tq (by rw [Hnb.out]; exact hlb64) (fun p hp => by have := Hlbr.out p hp; omega) hs10) ?_; rintro e w11 ⟨⟨n11, rfl, hn11⟩, hk11⟩; have Hk11 := Lib.hid hk11; clear hk11))
  have hcs11 := Hcs10.out.kp Hbs10.out.tq Hk11.out (by omega) (fun b hb => by have := Hfc.out b hb; omega)
  have has11 := Has10.out.kp Hbs10.out.tq Hk11.out Hfa.out
  clear k0 k1 k2 Hcs10 Has10 Hbs10 Hk11 Hlbr
  have x0 := hcs11.tbox.cell 0
  have x1 := hcs11.tbox.cell 1
  have x2 := hcs11.tbox.cell 2
  simp at x0 x1 x2
  have Hcs11 := Lib.hid hcs11
  have Has11 := Lib.hid has11
  clear hcs11 has11
  go_upto_region 8 with (first
    | (go_at_call 17; refine Calls.mono (refnext_any _ t w11 w.heap.size Hcs11.out.below.size (Hv.out.below Hcs11.out.below) Hr.out (by omega)) ?_; rintro e w12 ⟨⟨v12, tx, ix, cx, ox, rfl, ⟨vx, lx, rfl, htx, hlx⟩, hisx⟩, hb12⟩; obtain ⟨Ax, cax, hvx, _, _⟩ := htx.shape; subst hvx; obtain ⟨rfl, rfl, rfl, rfl⟩ := NextIs.det His.out hisx; have Htx := Lib.hid htx; have Hlx := Lib.hid hlx; have Hb12 := Lib.hid hb12; clear htx hlx hisx hb12))
  have hs12 := Hb12.out.size
  have hba := (Below.refl w12.heap.size w12).alloc (Nat.le_refl _) (.cells #[.slice Ax lx.length cax, .int .i64 t7.at_, .bool t7.fr] 34)
  have hcs13 := (Hcs11.out.more Hb12.out).more hba
  have has13 := (Has11.out.more Hb12.out).more hba
  have hxs13 : AS w11.heap.size w12.heap.size (.slice Ax lx.length cax) lx t7.at_ t7.fr (w12.alloc (.cells #[.slice Ax lx.length cax, .int .i64 t7.at_, .bool t7.fr] 34)) := ⟨Blk.new _ _ _, Htx.out.below hba⟩
  generalize hW13 : World.alloc w12 _ = w13 at *
  clear hW13 hba Hcs11 Has11 Hb12 Htx x0 x1 x2 hs12
  generalize w12.heap.size = xbx at *
  obtain ⟨a0, a1, a2⟩ := has13.cells
  obtain ⟨y0, y1, y2⟩ := hxs13.cells
  have Hcs13 := Lib.hid hcs13
  have Has13 := Lib.hid has13
  have Hxs13 := Lib.hid hxs13
  have K1 := Lib.hid True.intro
  clear hcs13 has13 hxs13
  generalize hnx : lx.length = nx at *
  clear hnx
  go_wp2_with (first
    | (go_at_call 18; refine Calls.mono (same_big _ _ t7 w13 w13.heap.size (Nat.le_refl _) (Has13.out.tq.tu Hla.out) (Hxs13.out.tq.tu Hlx.out)) ?_; rintro e w14 ⟨rfl, hb14⟩; have hcs14 := Hcs13.out.more hb14; have has14 := Has13.out.more hb14; obtain ⟨k0, k1, k2⟩ := hcs14.cells; have x0 := hcs14.tbox.cell 0; have x1 := hcs14.tbox.cell 1; have x2 := hcs14.tbox.cell 2; simp at x0 x1 x2; have Hcs14 := Lib.hid hcs14; have Has14 := Lib.hid has14; clear hcs14 has14 hb14)
    | (go_at_call 19; clear K1; refine Calls.mono (kept_any _ l w.heap.size _ t w.heap.size w14 Hcs14.out.tq Hl.out Hmk.out (Hv.out.below Hcs14.out.below) Hcs14.out.below.size) ?_; rintro e w15 ⟨rfl, hb15⟩; have hcs15 := Hcs14.out.more hb15; have has15 := Has14.out.more hb15; clear a0 a1 a2; obtain ⟨a0, a1, a2⟩ := has15.cells; have Hcs15 := Lib.hid hcs15; have Has15 := Lib.hid has15; clear hcs15 has15 hb15)
    | (go_at_call 16; refine Calls.mono (spoilt_any _ la s6 _ _ w15 Has15.out.tq (by rw [Hna.out]; exact hla64) (fun p hp => by have := Hlar.out p hp; omega) (by have := Has15.out.box.lt; omega)) ?_; rintro e w16 ⟨⟨n16, rfl, hn16⟩, hk16⟩; have hcs16 := Hcs15.out.kp Has15.out.tq hk16 hs6 Hfc.out; clear k0 k1 k2 x0 x1 x2; obtain ⟨k0, k1, k2⟩ := hcs16.cells; have x0 := hcs16.tbox.cell 0; have x1 := hcs16.tbox.cell 1; have x2 := hcs16.tbox.cell 2; simp at x0 x1 x2; have Hcs16 := Lib.hid hcs16; clear hcs16 hk16)
    | (go_at_call 19; refine Calls.mono (kept_any _ l w.heap.size _ t w.heap.size w16 Hcs16.out.tq Hl.out Hmk.out (Hv.out.below Hcs16.out.below) Hcs16.out.below.size) ?_; rintro e w17 ⟨rfl, hb17⟩; have hcs17 := Hcs16.out.more hb17; have Hcs17 := Lib.hid hcs17; clear hcs17 hb17))
  go_ret
  exact ⟨rfl, Hcs17.out.below⟩
end Go.Proofs.Ytgbjhkgbjnobcaa
