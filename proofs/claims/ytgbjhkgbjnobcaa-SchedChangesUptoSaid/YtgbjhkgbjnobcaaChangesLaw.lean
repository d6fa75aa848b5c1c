/- The walk of 'SchedChanges'. Conditions: the turns are readable, their lists and numbers within reach. -/
import Derived.Test.YtgbjhkgbjnobcaaNextArgs
import Derived.Test.YtgbjhkgbjnobcaaRefEnter
import Derived.Test.YtgbjhkgbjnobcaaMovedIds
import Derived.Deep.RegionWith
namespace Go.Proofs.Ytgbjhkgbjnobcaa
open Go.ChangeShapes Go.WideShapes Go.RowKit Trn

namespace Trn
theorem AskOn.det {t t' t'' : Tu} {id c e e' : Int} (hi : Ids t) (h : AskOn t id c t' e) (k : AskOn t id c t'' e') : t'' = t' ∧ e' = e := by
  rcases h with ⟨h1, e1, e2⟩ | ⟨h1, h2, e1, e2⟩ | ⟨h1, ⟨a, q, h2, h2'⟩, h3, e1, e2⟩ | ⟨h1, h3, e1, a, q, h2, h2', e2⟩
  · rcases k with ⟨_, g1, g2⟩ | ⟨k1, _⟩ | ⟨k1, _⟩ | ⟨k1, _⟩
    · exact ⟨g2.trans e2.symm, g1.trans e1.symm⟩
    · exact absurd k1 h1
    · exact absurd k1 h1
    · exact absurd k1 h1
  · rcases k with ⟨k1, _⟩ | ⟨_, _, g1, g2⟩ | ⟨_, ⟨a, q, k2, k3⟩, _⟩ | ⟨_, _, _, a, q, k2, k3, _⟩
    · exact absurd h1 k1
    · exact ⟨g2.trans e2.symm, g1.trans e1.symm⟩
    · exact absurd k3 (h2 a q k2)
    · exact absurd k3 (h2 a q k2)
  · rcases k with ⟨k1, _⟩ | ⟨_, k2, _⟩ | ⟨_, _, _, g1, g2⟩ | ⟨_, k3, _⟩
    · exact absurd h1 k1
    · exact absurd h2' (k2 a q h2)
    · exact ⟨g2.trans e2.symm, g1.trans e1.symm⟩
    · exact absurd k3 h3
  · rcases k with ⟨k1, _⟩ | ⟨_, k2, _⟩ | ⟨_, _, k3, _⟩ | ⟨_, _, g1, a2, q2, k2, k2', g2⟩
    · exact absurd h1 k1
    · exact absurd h2' (k2 a q h2)
    · exact absurd h3 k3
    · have hasc := asc_of h1 hi
      have ha : a = a2 := by
        rcases Nat.lt_trichotomy a a2 with hl | hl | hl
        · have := hasc.lt a a2 q q2 hl h2 k2
          omega
        · exact hl
        · have := hasc.lt a2 a q2 q hl k2 h2
          omega
      subst ha
      rw [h2] at k2
      injection k2 with k2
      subst k2
      exact ⟨g2.trans e2.symm, g1.trans e1.symm⟩
theorem LeaveIs.det {t t' t'' : Tu} {id e e' : Int} (hi : Ids t) (h : LeaveIs t id t' e) (k : LeaveIs t id t'' e') : t'' = t' ∧ e' = e := by
  rcases h with ⟨h1, e1, e2⟩ | ⟨h1, h2, e1, e2⟩ | ⟨h1, e1, a, q, h2, h2', e2⟩
  · rcases k with ⟨_, g1, g2⟩ | ⟨k1, _⟩ | ⟨k1, _⟩
    · exact ⟨g2.trans e2.symm, g1.trans e1.symm⟩
    · exact absurd k1 h1
    · exact absurd k1 h1
  · rcases k with ⟨k1, _⟩ | ⟨_, _, g1, g2⟩ | ⟨_, _, a, q, k2, k3, _⟩
    · exact absurd h1 k1
    · exact ⟨g2.trans e2.symm, g1.trans e1.symm⟩
    · exact absurd k3 (h2 a q k2)
  · rcases k with ⟨k1, _⟩ | ⟨_, k2, _⟩ | ⟨_, g1, a2, q2, k2, k2', g2⟩
    · exact absurd h1 k1
    · exact absurd h2' (k2 a q h2)
    · have hasc := asc_of h1 hi
      have ha : a = a2 := by
        rcases Nat.lt_trichotomy a a2 with hl | hl | hl
        · have := hasc.lt a a2 q q2 hl h2 k2
          omega
        · exact hl
        · have := hasc.lt a2 a q2 q hl k2 h2
          omega
      subst ha
      exact ⟨g2.trans e2.symm, g1.trans e1.symm⟩
theorem EnterIs.det {t t' t'' : Tu} {id n e e' : Int} (h : EnterIs t id n t' e) (k : EnterIs t id n t'' e') : t'' = t' ∧ e' = e := by
  rcases h with ⟨h1, e1, e2⟩ | ⟨h1, h2, e1, e2⟩ | ⟨h1, h2, e1, q, h3, e2⟩
  · rcases k with ⟨_, g1, g2⟩ | ⟨k1, _⟩ | ⟨k1, _⟩
    · exact ⟨g2.trans e2.symm, g1.trans e1.symm⟩
    · exact absurd k1 h1
    · exact absurd k1 h1
  · rcases k with ⟨k1, _⟩ | ⟨_, _, g1, g2⟩ | ⟨_, k2, _⟩
    · exact absurd h1 k1
    · exact ⟨g2.trans e2.symm, g1.trans e1.symm⟩
    · exact absurd k2 h2
  · rcases k with ⟨k1, _⟩ | ⟨_, k2, _⟩ | ⟨_, _, g1, q2, k3, g2⟩
    · exact absurd h1 k1
    · exact absurd h2 k2
    · have := spot_one h3 k3
      subst this
      exact ⟨g2.trans e2.symm, g1.trans e1.symm⟩
theorem both {α β : Type} {a b : α} {c d : β} (h : a = b ∧ c = d) : b = a ∧ d = c := ⟨h.1.symm, h.2.symm⟩
/-- Few queues, their lists within reach. -/
def Near (t : Tu) : Prop := t.qs.length ≤ 64 ∧ ∀ q ∈ t.qs, q.cs.length * 8 ≤ 140737488351240
theorem near_none : Near none_ := ⟨by simp [none_], fun q hq => by simp [none_] at hq⟩
theorem AskOn.near {t t' : Tu} {id c e : Int} (hr : Reach t) (h : AskOn t id c t' e) : Near t' := by
  rcases h with ⟨_, _, rfl⟩ | ⟨_, _, _, rfl⟩ | ⟨_, _, _, _, rfl⟩ | ⟨h1, _, _, a, q, h2, _, rfl⟩
  · exact near_none
  · exact near_none
  · exact near_none
  · refine ⟨by simp only [asked, List.length_set]; have := h1.len; omega, fun p hp => ?_⟩
    rcases List.mem_or_eq_of_mem_set hp with hp | rfl
    · have := hr p hp
      omega
    · have := hr q (List.mem_of_getElem? h2)
      simp only [List.length_append, List.length_cons, List.length_nil]
      omega
theorem LeaveIs.near {t t' : Tu} {id e : Int} (hr : Reach t) (h : LeaveIs t id t' e) : Near t' := by
  rcases h with ⟨_, _, rfl⟩ | ⟨_, _, _, rfl⟩ | ⟨h1, _, a, q, h2, _, rfl⟩
  · exact near_none
  · exact near_none
  · have hn := h1.len
    refine ⟨by simp only [left, List.length_append, List.length_take, List.length_drop]; omega, fun p hp => ?_⟩
    have hm : p ∈ t.qs := by
      rcases List.mem_append.1 hp with hp | hp
      · exact List.mem_of_mem_take hp
      · exact List.mem_of_mem_drop hp
    have := hr p hm
    omega
theorem EnterIs.near {t t' : Tu} {id n e : Int} (hr : Reach t) (h : EnterIs t id n t' e) : Near t' := by
  rcases h with ⟨_, _, rfl⟩ | ⟨_, _, _, rfl⟩ | ⟨h1, _, _, q, h2, rfl⟩
  · exact near_none
  · exact near_none
  · have hn := h1.len
    refine ⟨by simp only [entered, List.length_append, List.length_take, List.length_cons, List.length_drop]; omega, fun p hp => ?_⟩
    rcases List.mem_append.1 hp with hp | hp
    · have := hr p (List.mem_of_mem_take hp)
      omega
    · rcases List.mem_cons.1 hp with rfl | hp
      · show ([] : List Int).length * 8 ≤ _
        simp
      · have := hr p (List.mem_of_mem_drop hp)
        omega
end Trn

/-- What is read from blocks lo, .., B - 1 stands where these stand. -/
theorem TuNew.keep {w w' : World} {lo B : Nat} {v : Value} {t : Tu} (h : TuNew w lo B v t) (hk : ∀ b, lo ≤ b → b < B → w'.heap[b]? = w.heap[b]?) : TuNew w' lo B v t := by
  obtain ⟨A, c, e0, h1, h2, h3, h4⟩ := h
  have hcell : ∀ b o, lo ≤ b → b < B → w'.cell? ⟨b, o, none⟩ = w.cell? ⟨b, o, none⟩ := fun b o hb hB => World.cell?_of_block (a := ⟨b, o, none⟩) (hk b hb hB)
  refine ⟨A, c, e0, h1, h2, fun h0 => ?_, fun h0 => ?_⟩
  · obtain ⟨b, o, e, hlt, hc⟩ := h3 h0
    obtain ⟨b2, o2, e2, hlo, hf⟩ := h4 h0
    rw [e] at e2
    injection e2 with e2
    injection e2 with e2 e3 _
    subst e2 e3
    refine ⟨b, o, e, hlt, fun i q hq => ?_⟩
    obtain ⟨c0, c1, c2, A', c', c3, h4, h5, h6⟩ := hc i q hq
    refine ⟨(hcell _ _ hlo hlt).trans c0, (hcell _ _ hlo hlt).trans c1, (hcell _ _ hlo hlt).trans c2, A', c', (hcell _ _ hlo hlt).trans c3, h4, h5, fun hp => ?_⟩
    obtain ⟨b', o', e', hb', hx'⟩ := h6 hp
    obtain ⟨b'', o'', n'', c'', c3', hlo'⟩ := hf i q hq hp
    rw [c3] at c3'
    injection c3' with c3'
    injection c3' with c3' _ _
    rw [e'] at c3'
    injection c3' with c3'
    injection c3' with c4 c5 _
    subst c4 c5
    exact ⟨b', o', e', hb', fun j x hj => (hcell _ _ hlo' hb').trans (hx' j x hj)⟩
  · obtain ⟨b, o, e, hlt, hc⟩ := h3 h0
    obtain ⟨b2, o2, e2, hlo, hf⟩ := h4 h0
    rw [e] at e2
    injection e2 with e2
    injection e2 with e2 e3 _
    subst e2 e3
    refine ⟨b, o, e, hlo, fun i q hq hp => ?_⟩
    obtain ⟨b'', o'', n'', c'', c3', hlo'⟩ := hf i q hq hp
    exact ⟨b'', o'', n'', c'', (hcell _ _ hlo hlt).trans c3', hlo'⟩
theorem TuOwn.new {w : World} {lo : Nat} {v : Value} {t : Tu} (h : TuOwn w lo v t) : TuNew w lo w.heap.size v t := by
  obtain ⟨vq, l, rfl, ht, hl⟩ := h
  obtain ⟨A, c, e, h1, h2⟩ := ht.shape
  have hlen : l.length = t.qs.length := by rw [← hl, List.length_map]
  refine ⟨A, c, by rw [e, hlen], by omega, h2, by rw [← hl]; exact ht.read e, fun h0 => ?_⟩
  rcases ht.row with ⟨_, rfl, _⟩ | ⟨g, c', R, e', hg, _⟩
  · simp at hlen
    omega
  · rw [e] at e'
    injection e' with e' _ _
    refine ⟨g, 0, e', hg, fun i q hq hp => ?_⟩
    rw [← hl, List.getElem?_map] at hq
    obtain ⟨p, hp2, rfl⟩ := Option.map_eq_some_iff.1 hq
    obtain ⟨g2, c2, e2, _, _, _, _, c3, _⟩ := ht.at_ hp2
    rw [e, e'] at e2
    injection e2 with e2 _ _
    injection e2 with e2
    injection e2 with e2 _ _
    subst e2
    rw [Nat.zero_add]
    rcases ht.own i p hp2 with ⟨_, e3, _⟩ | ⟨b', o', c4, cur, e3, hb', _⟩
    · rw [e3] at hp
      simp at hp
    · exact ⟨b', o', _, c4, by rw [c3]; exact congrArg some e3, hb'⟩
/-- An answer that is read alone, and its box. -/
structure RS (lo B bx : Nat) (vq : Value) (t : Tu) (wr : World) : Prop where
  box : Blk wr bx 34 #[vq, .int .i64 t.at_, .bool t.fr]
  new : TuNew wr lo B (.agg #[vq, .int .i64 t.at_, .bool t.fr]) t
  le : B ≤ wr.heap.size
section
variable {wr w1 : World} {lo B bx : Nat} {vq : Value} {t : Tu} {l : List QV} {at_ : Int} {fr : Bool}
theorem RS.more (h : RS lo B bx vq t wr) (hb : Below wr.heap.size wr w1) : RS lo B bx vq t w1 :=
  ⟨h.box.below hb h.box.lt, h.new.keep fun b _ hB => hb.block b (by have := h.le; omega), Nat.le_trans h.le hb.size⟩
theorem RS.kp (h : RS lo B bx vq t wr) {s : Nat} {vo : Value} {ll : List QV} {tl : List R4} (ho : TQ wr s vo ll tl) (hk : Kp (FQ vo ll) wr w1) (hs : ∀ b, FQ vo ll b → b < lo ∨ B ≤ b) : RS lo B bx vq t w1 :=
  ⟨h.box.kpq ho hk (by decide) (by decide), h.new.keep fun b hlo hB => hk.block b (by have := h.le; omega) fun hf => by rcases hs b hf with h1 | h1 <;> omega, Nat.le_trans h.le hk.size⟩
theorem RS.tu (h : RS lo B bx vq t wr) : TuAt wr wr.heap.size (.agg #[vq, .int .i64 t.at_, .bool t.fr]) t := h.new.at_.mono h.le
theorem RS.cells (h : RS lo B bx vq t wr) : wr.cell? ⟨bx, 0, none⟩ = some vq ∧ wr.cell? ⟨bx, 1, none⟩ = some (.int .i64 t.at_) ∧ wr.cell? ⟨bx, 2, none⟩ = some (.bool t.fr) := by
  have h0 := h.box.cell 0
  have h1 := h.box.cell 1
  have h2 := h.box.cell 2
  exact ⟨by simpa using h0, by simpa using h1, by simpa using h2⟩
theorem AS.kpn (h : AS lo bx vq l at_ fr wr) {s : Nat} {vo : Value} {ll : List QV} {tl : List R4} (ho : TQ wr s vo ll tl) (hk : Kp (FQ vo ll) wr w1) (hn : ∀ b, FQ vq l b → ¬ FQ vo ll b) : AS lo bx vq l at_ fr w1 :=
  ⟨h.box.kpq ho hk (by decide) (by decide), h.tq.kp hk hn⟩
end
theorem near_list {l : List QV} {t : Tu} (hl : l.map (·.1) = t.qs) (h : Near t) : l.length ≤ 64 ∧ ∀ p ∈ l, p.1.cs.length * 8 ≤ 140737488351240 :=
  ⟨by rw [← List.length_map (f := fun p : QV => p.1), hl]; exact h.1, fun p hp => h.2 _ (by rw [← hl]; exact List.mem_map.2 ⟨p, hp, rfl⟩)⟩
theorem ids_list {l : List QV} {t : Tu} (hl : l.map (·.1) = t.qs) (h : Ids t) : IdsQ l := fun p hp => h _ (by rw [← hl]; exact List.mem_map.2 ⟨p, hp, rfl⟩)
theorem list_ids {l : List QV} (h : IdsQ l) (at_ : Int) (fr : Bool) : Ids ⟨l.map (·.1), at_, fr⟩ := fun q hq => by
  obtain ⟨p, hp, rfl⟩ := List.mem_map.1 hq
  exact h p hp

set_option maxRecDepth 100000 in
set_option maxHeartbeats 16000000 in
theorem changes_any (v : Value) (t : Tu) (id n : Int) (w : World) (hv : TuAt w w.heap.size v t) (hr : Reach t) (hids : Ids t) (hid : id ≤ 9223372036854775807) (hlen : t.qs.length * 48 ≤ 140737488351232) :
    Calls Try.prog 6 #[v, .int .i64 id, .int .i64 n] w fun e w' => e = .returned (.bool true) ∧ Below w.heap.size w w' := by
  have Hv := Lib.hid hv
  obtain ⟨A, c, rfl, hlc, hcm, hq⟩ := hv
  have Hr := Lib.hid hr
  have Hids := Lib.hid hids
  have hx := Boxed.start w A t.qs.length c t.at_ t.fr
  clear hq hr hcm hids
  go_enter Try.func6, Try.ntmps6
  go_upto_region 1 with fail
  generalize hW1 : World.alloc _ _ = W1 at *
  clear hW1
  obtain ⟨x0, x1, x2⟩ := hx.cells
  have HX := Lib.hid hx
  clear hx
  go_upto_region 2 with (first
    | (go_at_call 12; refine Calls.mono (roomy_any _ t W1 w.heap.size HX.out.below.size (Hv.out.below HX.out.below) Hr.out hlen) ?_; rintro e w2 ⟨⟨vq, l, rfl, ho, hl, hmk⟩, hb2⟩; obtain ⟨Ac, cc, hvq, _, _⟩ := ho.shape; subst hvq; have Ho := Lib.hid ho; have Hl := Lib.hid hl; have Hmk := Lib.hid hmk; have Hb2 := Lib.hid hb2; clear ho hl hmk hb2))
  have hcs : CS w w2.heap.size #[.slice A t.qs.length c, .int .i64 t.at_, .bool t.fr] (.slice Ac l.length cc) l t.at_ t.fr (w2.alloc (.cells #[.slice Ac l.length cc, .int .i64 t.at_, .bool t.fr] 34)) := by
    have h1 := HX.out.below.size
    have h2 := HX.out.lt
    have h3 := Hb2.out.size
    exact ⟨(HX.out.below.trans (Hb2.out.mono h1)).alloc (by omega) _, (HX.out.box.below Hb2.out h2).alloc _, Blk.new _ _ _, (Ho.out.mono (by omega)).below ((Below.refl _ _).alloc (Nat.le_refl _) _)⟩
  generalize hW3 : World.alloc w2 _ = W3 at *
  clear hW3 Ho Hb2 HX x0 x1 x2
  generalize w2.heap.size = cbx at *
  generalize hn : l.length = nl at *
  obtain ⟨k0, k1, k2⟩ := hcs.cells
  have HC := Lib.hid hcs
  have Hn := Lib.hid hn
  clear hcs hn
  go_upto_region 7 with (first
    | (go_at_call 14; refine Calls.mono (moved_ids _ l _ w.heap.size _ _ W3 HC.out.tq (ids_list Hl.out Hids.out)) ?_; rintro e w4 ⟨rfl, l2, hm4, hid4⟩; have Hal := Lib.hid hm4.same; have Hr4 := Lib.hid (hm4.same.reach Hl.out Hr.out); have Hi4 := Lib.hid (list_ids hid4 t.at_ t.fr); have HC4 := Lib.hid (HC.out.mv hm4); clear hm4 hid4 k0 k1 k2; obtain ⟨k0, k1, k2⟩ := HC4.out.cells)
    | (go_at_call 20; refine Calls.mono (check_any _ ⟨l2.map (·.1), t.at_, t.fr⟩ w4 w4.heap.size (Nat.le_refl _) (HC4.out.tq.tu (t := ⟨l2.map (·.1), t.at_, t.fr⟩) rfl)) ?_; rintro e w5 ⟨rfl, hb5⟩; have HC5 := Lib.hid (HC4.out.more hb5); clear hb5 k0 k1 k2; obtain ⟨k0, k1, k2⟩ := HC5.out.cells)
    | (go_at_call 21; refine Calls.mono (enter_any _ ⟨l2.map (·.1), t.at_, t.fr⟩ id n w5 w5.heap.size (Nat.le_refl _) (HC5.out.tq.tu (t := ⟨l2.map (·.1), t.at_, t.fr⟩) rfl) Hr4.out Hi4.out hid) ?_; rintro e w6 ⟨⟨v6, t6, n6, rfl, h6, i6⟩, hb6⟩; have HC6 := Lib.hid (HC5.out.more hb6); clear hb6 h6 i6 k0 k1 k2; obtain ⟨k0, k1, k2⟩ := HC6.out.cells)
    | (go_at_call 22; refine Calls.mono (leave_any _ ⟨l2.map (·.1), t.at_, t.fr⟩ id w6 w6.heap.size (Nat.le_refl _) (HC6.out.tq.tu (t := ⟨l2.map (·.1), t.at_, t.fr⟩) rfl) Hr4.out Hi4.out hid) ?_; rintro e w7 ⟨⟨v7, t7, n7, rfl, h7, i7⟩, hb7⟩; have HC7 := Lib.hid (HC6.out.more hb7); clear hb7 h7 i7 k0 k1 k2; obtain ⟨k0, k1, k2⟩ := HC7.out.cells)
    | (go_at_call 23; refine Calls.mono (ask_any _ ⟨l2.map (·.1), t.at_, t.fr⟩ id n w7 w7.heap.size (Nat.le_refl _) (HC7.out.tq.tu (t := ⟨l2.map (·.1), t.at_, t.fr⟩) rfl) Hr4.out Hi4.out hid) ?_; rintro e w8 ⟨⟨v8, t8, n8, rfl, h8, i8⟩, hb8⟩; have HC8 := Lib.hid (HC7.out.more hb8); clear hb8 h8 i8 k0 k1 k2; obtain ⟨k0, k1, k2⟩ := HC8.out.cells))
  have x0 := HC8.out.tbox.cell 0
  have x1 := HC8.out.tbox.cell 1
  have x2 := HC8.out.tbox.cell 2
  simp at x0 x1 x2
  clear HC HC4 HC5 HC6 HC7 Hr4 Hi4
  go_upto_region 8 with (first
    | (go_at_call 15; refine Calls.mono (back_any _ l l2 _ w.heap.size _ _ _ t w.heap.size w8 HC8.out.tq Hal.out Hl.out (Hv.out.below HC8.out.below) (Nat.le_refl _) HC8.out.below.size) ?_; rintro e w9 ⟨rfl, hm9⟩; have Hm9 := Lib.hid hm9; clear hm9))
  have HC9 := Lib.hid (HC8.out.mv Hm9.out)
  clear k0 k1 k2 x0 x1 x2 HC8 Hm9 Hal
  have hCk : ∀ u, Below w9.heap.size w9 u → (u.cell? ⟨cbx, 0, none⟩ = some (.slice Ac nl cc) ∧ u.cell? ⟨cbx, 1, none⟩ = some (.int .i64 t.at_) ∧ u.cell? ⟨cbx, 2, none⟩ = some (.bool t.fr)) ∧ u.cell? ⟨w.heap.size, 0, none⟩ = some (.slice A t.qs.length c) ∧ u.cell? ⟨w.heap.size, 1, none⟩ = some (.int .i64 t.at_) ∧ u.cell? ⟨w.heap.size, 2, none⟩ = some (.bool t.fr) := by
    intro u hb
    have h := HC9.out.more hb
    have x0 := h.tbox.cell 0
    have x1 := h.tbox.cell 1
    have x2 := h.tbox.cell 2
    simp at x0 x1 x2
    exact ⟨h.cells, x0, x1, x2⟩
  have h20 : ∀ u, Below w9.heap.size w9 u → Calls Try.prog 20 #[.agg #[.slice Ac nl cc, .int .i64 t.at_, .bool t.fr]] u fun e w' => e = .returned (.int .i64 (chk t)) ∧ Below u.heap.size u w' := fun u hb =>
    check_any _ t u u.heap.size (Nat.le_refl _) ((HC9.out.more hb).tq.tu Hl.out)
  have h24 : ∀ u, Below w9.heap.size w9 u → Calls Try.prog 24 #[.agg #[.slice A t.qs.length c, .int .i64 t.at_, .bool t.fr]] u fun e w' => e = .returned (.int .i64 (chk t)) ∧ Below u.heap.size u w' := fun u hb =>
    refcheck_any _ t u w.heap.size (HC9.out.more hb).below.size (Hv.out.below (HC9.out.more hb).below)
  have HCk := Lib.hid hCk
  have H20 := Lib.hid h20
  have H24 := Lib.hid h24
  clear hCk h20 h24
  obtain ⟨⟨k0, k1, k2⟩, x0, x1, x2⟩ := HCk.out w9 (Below.refl _ _)
  have hB0 : Below w9.heap.size w9 w9.drew := (Below.refl _ _).drew
  go_cut [47] (fun s47 wx => s47 = .bool false ∧ Below w9.heap.size w9 wx)
  case first =>
    go_region_with (first
      | (go_at_call 20; refine Calls.mono (H20.out _ hB0) ?_; clear H20; rintro e u1 ⟨rfl, hb1⟩; have hB1 := hB0.trans (hb1.mono hB0.size); obtain ⟨⟨k0, k1, k2⟩, x0, x1, x2⟩ := HCk.out u1 hB1)
      | (go_at_call 20; refine Calls.mono (H20.out _ hB1) ?_; clear H20; rintro e u2 ⟨rfl, hb2⟩; have hB2 := hB1.trans (hb2.mono hB1.size))
      | (go_at_call 24; refine Calls.mono (H24.out _ hB0) ?_; clear H24; rintro e u1 ⟨rfl, hb1⟩; have hB1 := hB0.trans (hb1.mono hB0.size); obtain ⟨⟨k0, k1, k2⟩, x0, x1, x2⟩ := HCk.out u1 hB1)
      | (go_at_call 24; refine Calls.mono (H24.out _ hB1) ?_; clear H24; rintro e u2 ⟨rfl, hb2⟩; have hB2 := hB1.trans (hb2.mono hB1.size)))
    all_goals (go_wp2; go_meet; (case rel => exact ⟨rfl, hB2⟩))
  case rest =>
    obtain ⟨rfl, hb10⟩ := hcut
    have HC := Lib.hid (HC9.out.more hb10)
    clear k0 k1 k2 x0 x1 x2 hB0 HC9 HCk H20 H24 hb10
    have S0 := HC.out.below.size
    have hfc : ∀ b, FQ (.slice Ac nl cc) l b → b < wc.heap.size := fun b hb => (HC.out.tq.lt hb).2
    have HFc := Lib.hid hfc
    clear hfc
    have hc0a := HC.out.cells
    obtain ⟨k0, k1, k2⟩ := hc0a
    go_upto_region 11 with (first
      | (go_at_call 21; refine Calls.mono (enter_own _ t id n wc wc.heap.size (Nat.le_refl _) (HC.out.tq.tu Hl.out) Hr.out Hids.out hid) ?_; rintro e u1 ⟨⟨va0, ta, na, rfl, ⟨va, la, rfl, hta, hla⟩, hisa⟩, hba⟩; obtain ⟨Aa, ca, hva, _, _⟩ := hta.shape; subst hva; have Hta := Lib.hid hta; have Hla := Lib.hid hla; have Hisa := Lib.hid hisa; have Hba := Lib.hid hba; clear hta hla hisa hba))
    have hsa := Hba.out.size
    have hba := (Below.refl u1.heap.size u1).alloc (Nat.le_refl _) (.cells #[.slice Aa la.length ca, .int .i64 ta.at_, .bool ta.fr] 34)
    have HC := Lib.hid ((HC.out.more Hba.out).more hba)
    have hAa : AS wc.heap.size u1.heap.size (.slice Aa la.length ca) la ta.at_ ta.fr (u1.alloc (.cells #[.slice Aa la.length ca, .int .i64 ta.at_, .bool ta.fr] 34)) := ⟨Blk.new _ _ _, Hta.out.below hba⟩
    have hFa : ∀ b, FQ (.slice Aa la.length ca) la b → wc.heap.size ≤ b ∧ b < u1.heap.size := fun b hb => Hta.out.lt hb
    have hNa : u1.heap.size < (u1.alloc (.cells #[.slice Aa la.length ca, .int .i64 ta.at_, .bool ta.fr] 34)).heap.size := by simp
    generalize hW : World.alloc u1 _ = Wu1 at *
    clear hW hba Hta Hba k0 k1 k2
    generalize u1.heap.size = xa at *
    generalize wc.heap.size = sa at *
    have HAa := Lib.hid hAa
    have HFa := Lib.hid hFa
    clear hAa hFa
    have x0 := HC.out.tbox.cell 0
    have x1 := HC.out.tbox.cell 1
    have x2 := HC.out.tbox.cell 2
    simp at x0 x1 x2
    go_upto_region 12 with (first
      | (go_at_call 25; refine Calls.mono (refenter_any _ t id n Wu1 w.heap.size HC.out.below.size (Hv.out.below HC.out.below) Hr.out Hids.out (by omega)) ?_; rintro e u2 ⟨⟨vx0, tx, nx, rfl, hnx0, hisx⟩, hbx⟩; obtain ⟨rfl, rfl⟩ := Trn.both (EnterIs.det Hisa.out hisx); have hnx := hnx0; obtain ⟨Ax, cx, rfl, hx1, hx2, hx3⟩ := hnx; have Hnx := Lib.hid (show TuNew u2 Wu1.heap.size u2.heap.size (.agg #[.slice Ax ta.qs.length cx, .int .i64 ta.at_, .bool ta.fr]) ta from ⟨Ax, cx, rfl, hx1, hx2, hx3⟩); have Hbx := Lib.hid hbx; clear hnx0 hisx hbx hx1 hx2 hx3))
    have hsx := Hbx.out.size
    have hba := (Below.refl u2.heap.size u2).alloc (Nat.le_refl _) (.cells #[.slice Ax ta.qs.length cx, .int .i64 ta.at_, .bool ta.fr] 34)
    have HC := Lib.hid ((HC.out.more Hbx.out).more hba)
    have HAa := Lib.hid ((HAa.out.more Hbx.out).more hba)
    have hRx : RS Wu1.heap.size u2.heap.size u2.heap.size (.slice Ax ta.qs.length cx) ta (u2.alloc (.cells #[.slice Ax ta.qs.length cx, .int .i64 ta.at_, .bool ta.fr] 34)) := ⟨Blk.new _ _ _, Hnx.out.keep fun b _ hb => Below.heap_alloc u2 _ b hb, by simp⟩
    have hNx : u2.heap.size < (u2.alloc (.cells #[.slice Ax ta.qs.length cx, .int .i64 ta.at_, .bool ta.fr] 34)).heap.size := by simp
    generalize hW : World.alloc u2 _ = Wu2 at *
    clear hW hba Hnx Hbx x0 x1 x2
    generalize u2.heap.size = xx at *
    generalize Wu1.heap.size = sx at *
    have HRx := Lib.hid hRx
    clear hRx
    obtain ⟨a0, a1, a2⟩ := HAa.out.cells
    obtain ⟨y0, y1, y2⟩ := HRx.out.cells
    go_upto_region 14 with (first
      | (go_at_call 18; refine Calls.mono (same_big _ _ ta Wu2 Wu2.heap.size (Nat.le_refl _) (HAa.out.tq.tu Hla.out) HRx.out.tu) ?_; rintro e u3 ⟨rfl, hb⟩; have Hbs := Lib.hid hb; clear hb))
    have HC := Lib.hid (HC.out.more Hbs.out)
    have HAa := Lib.hid (HAa.out.more Hbs.out)
    have HRx := Lib.hid (HRx.out.more Hbs.out)
    have hsu3 := Hbs.out.size
    clear a0 a1 a2 y0 y1 y2 Hbs
    have hc0b := HC.out.cells
    obtain ⟨k0, k1, k2⟩ := hc0b
    go_upto_region 15 with (first
      | (go_at_call 22; refine Calls.mono (leave_own _ t id u3 u3.heap.size (Nat.le_refl _) (HC.out.tq.tu Hl.out) Hr.out Hids.out hid) ?_; rintro e u4 ⟨⟨vb0, tb, nb, rfl, ⟨vb, lb, rfl, htb, hlb⟩, hisb⟩, hbb⟩; obtain ⟨Ab, cb, hvb, _, _⟩ := htb.shape; subst hvb; have Htb := Lib.hid htb; have Hlb := Lib.hid hlb; have Hisb := Lib.hid hisb; have Hbb := Lib.hid hbb; clear htb hlb hisb hbb))
    have hsb := Hbb.out.size
    have hba := (Below.refl u4.heap.size u4).alloc (Nat.le_refl _) (.cells #[.slice Ab lb.length cb, .int .i64 tb.at_, .bool tb.fr] 34)
    have HC := Lib.hid ((HC.out.more Hbb.out).more hba)
    have HAa := Lib.hid ((HAa.out.more Hbb.out).more hba)
    have HRx := Lib.hid ((HRx.out.more Hbb.out).more hba)
    have hAb : AS u3.heap.size u4.heap.size (.slice Ab lb.length cb) lb tb.at_ tb.fr (u4.alloc (.cells #[.slice Ab lb.length cb, .int .i64 tb.at_, .bool tb.fr] 34)) := ⟨Blk.new _ _ _, Htb.out.below hba⟩
    have hFb : ∀ b, FQ (.slice Ab lb.length cb) lb b → u3.heap.size ≤ b ∧ b < u4.heap.size := fun b hb => Htb.out.lt hb
    have hNb : u4.heap.size < (u4.alloc (.cells #[.slice Ab lb.length cb, .int .i64 tb.at_, .bool tb.fr] 34)).heap.size := by simp
    generalize hW : World.alloc u4 _ = Wu4 at *
    clear hW hba Htb Hbb k0 k1 k2
    generalize u4.heap.size = xb at *
    generalize u3.heap.size = sb at *
    have HAb := Lib.hid hAb
    have HFb := Lib.hid hFb
    clear hAb hFb
    have x0 := HC.out.tbox.cell 0
    have x1 := HC.out.tbox.cell 1
    have x2 := HC.out.tbox.cell 2
    simp at x0 x1 x2
    go_upto_region 16 with (first
      | (go_at_call 26; refine Calls.mono (refleave_any _ t id Wu4 w.heap.size HC.out.below.size (Hv.out.below HC.out.below) Hr.out (by omega)) ?_; rintro e u5 ⟨⟨vy0, ty, ny, rfl, hny0, hisy⟩, hby⟩; obtain ⟨rfl, rfl⟩ := Trn.both (LeaveIs.det Hids.out Hisb.out hisy); have hny := hny0; obtain ⟨Ay, cy, rfl, hx1, hx2, hx3⟩ := hny; have Hny := Lib.hid (show TuNew u5 Wu4.heap.size u5.heap.size (.agg #[.slice Ay tb.qs.length cy, .int .i64 tb.at_, .bool tb.fr]) tb from ⟨Ay, cy, rfl, hx1, hx2, hx3⟩); have Hby := Lib.hid hby; clear hny0 hisy hby hx1 hx2 hx3))
    have hsy := Hby.out.size
    have hba := (Below.refl u5.heap.size u5).alloc (Nat.le_refl _) (.cells #[.slice Ay tb.qs.length cy, .int .i64 tb.at_, .bool tb.fr] 34)
    have HC := Lib.hid ((HC.out.more Hby.out).more hba)
    have HAa := Lib.hid ((HAa.out.more Hby.out).more hba)
    have HRx := Lib.hid ((HRx.out.more Hby.out).more hba)
    have HAb := Lib.hid ((HAb.out.more Hby.out).more hba)
    have hRy : RS Wu4.heap.size u5.heap.size u5.heap.size (.slice Ay tb.qs.length cy) tb (u5.alloc (.cells #[.slice Ay tb.qs.length cy, .int .i64 tb.at_, .bool tb.fr] 34)) := ⟨Blk.new _ _ _, Hny.out.keep fun b _ hb => Below.heap_alloc u5 _ b hb, by simp⟩
    have hNy : u5.heap.size < (u5.alloc (.cells #[.slice Ay tb.qs.length cy, .int .i64 tb.at_, .bool tb.fr] 34)).heap.size := by simp
    generalize hW : World.alloc u5 _ = Wu5 at *
    clear hW hba Hny Hby x0 x1 x2
    generalize u5.heap.size = xy at *
    generalize Wu4.heap.size = sy at *
    have HRy := Lib.hid hRy
    clear hRy
    obtain ⟨a0, a1, a2⟩ := HAb.out.cells
    obtain ⟨y0, y1, y2⟩ := HRy.out.cells
    go_upto_region 18 with (first
      | (go_at_call 18; refine Calls.mono (same_big _ _ tb Wu5 Wu5.heap.size (Nat.le_refl _) (HAb.out.tq.tu Hlb.out) HRy.out.tu) ?_; rintro e u6 ⟨rfl, hb⟩; have Hbs := Lib.hid hb; clear hb))
    have HC := Lib.hid (HC.out.more Hbs.out)
    have HAa := Lib.hid (HAa.out.more Hbs.out)
    have HRx := Lib.hid (HRx.out.more Hbs.out)
    have HAb := Lib.hid (HAb.out.more Hbs.out)
    have HRy := Lib.hid (HRy.out.more Hbs.out)
    have hsu6 := Hbs.out.size
    clear a0 a1 a2 y0 y1 y2 Hbs
    have hc0d := HC.out.cells
    obtain ⟨k0, k1, k2⟩ := hc0d
    go_upto_region 19 with (first
      | (go_at_call 23; refine Calls.mono (ask_own _ t id n u6 u6.heap.size (Nat.le_refl _) (HC.out.tq.tu Hl.out) Hr.out Hids.out hid) ?_; rintro e u7 ⟨⟨vd0, td, nd, rfl, ⟨vd, ld, rfl, htd, hld⟩, hisd⟩, hbd⟩; obtain ⟨Ad, cd, hvd, _, _⟩ := htd.shape; subst hvd; have Htd := Lib.hid htd; have Hld := Lib.hid hld; have Hisd := Lib.hid hisd; have Hbd := Lib.hid hbd; clear htd hld hisd hbd))
    have hsd := Hbd.out.size
    have hba := (Below.refl u7.heap.size u7).alloc (Nat.le_refl _) (.cells #[.slice Ad ld.length cd, .int .i64 td.at_, .bool td.fr] 34)
    have HC := Lib.hid ((HC.out.more Hbd.out).more hba)
    have HAa := Lib.hid ((HAa.out.more Hbd.out).more hba)
    have HRx := Lib.hid ((HRx.out.more Hbd.out).more hba)
    have HAb := Lib.hid ((HAb.out.more Hbd.out).more hba)
    have HRy := Lib.hid ((HRy.out.more Hbd.out).more hba)
    have hAd : AS u6.heap.size u7.heap.size (.slice Ad ld.length cd) ld td.at_ td.fr (u7.alloc (.cells #[.slice Ad ld.length cd, .int .i64 td.at_, .bool td.fr] 34)) := ⟨Blk.new _ _ _, Htd.out.below hba⟩
    have hFd : ∀ b, FQ (.slice Ad ld.length cd) ld b → u6.heap.size ≤ b ∧ b < u7.heap.size := fun b hb => Htd.out.lt hb
    have hNd : u7.heap.size < (u7.alloc (.cells #[.slice Ad ld.length cd, .int .i64 td.at_, .bool td.fr] 34)).heap.size := by simp
    generalize hW : World.alloc u7 _ = Wu7 at *
    clear hW hba Htd Hbd k0 k1 k2
    generalize u7.heap.size = xd at *
    generalize u6.heap.size = sd at *
    have HAd := Lib.hid hAd
    have HFd := Lib.hid hFd
    clear hAd hFd
    have x0 := HC.out.tbox.cell 0
    have x1 := HC.out.tbox.cell 1
    have x2 := HC.out.tbox.cell 2
    simp at x0 x1 x2
    go_upto_region 20 with (first
      | (go_at_call 27; refine Calls.mono (refask_any _ t id n Wu7 w.heap.size HC.out.below.size (Hv.out.below HC.out.below) Hr.out (by omega)) ?_; rintro e u8 ⟨⟨vz0, tz, nz, rfl, hnz0, hisz⟩, hbz⟩; obtain ⟨rfl, rfl⟩ := Trn.both (AskOn.det Hids.out Hisd.out hisz); have hnz := hnz0.new; obtain ⟨Az, cz, rfl, hx1, hx2, hx3⟩ := hnz; have Hnz := Lib.hid (show TuNew u8 Wu7.heap.size u8.heap.size (.agg #[.slice Az td.qs.length cz, .int .i64 td.at_, .bool td.fr]) td from ⟨Az, cz, rfl, hx1, hx2, hx3⟩); have Hbz := Lib.hid hbz; clear hnz0 hisz hbz hx1 hx2 hx3))
    have hsz := Hbz.out.size
    have hba := (Below.refl u8.heap.size u8).alloc (Nat.le_refl _) (.cells #[.slice Az td.qs.length cz, .int .i64 td.at_, .bool td.fr] 34)
    have HC := Lib.hid ((HC.out.more Hbz.out).more hba)
    have HAa := Lib.hid ((HAa.out.more Hbz.out).more hba)
    have HRx := Lib.hid ((HRx.out.more Hbz.out).more hba)
    have HAb := Lib.hid ((HAb.out.more Hbz.out).more hba)
    have HRy := Lib.hid ((HRy.out.more Hbz.out).more hba)
    have HAd := Lib.hid ((HAd.out.more Hbz.out).more hba)
    have hRz : RS Wu7.heap.size u8.heap.size u8.heap.size (.slice Az td.qs.length cz) td (u8.alloc (.cells #[.slice Az td.qs.length cz, .int .i64 td.at_, .bool td.fr] 34)) := ⟨Blk.new _ _ _, Hnz.out.keep fun b _ hb => Below.heap_alloc u8 _ b hb, by simp⟩
    have hNz : u8.heap.size < (u8.alloc (.cells #[.slice Az td.qs.length cz, .int .i64 td.at_, .bool td.fr] 34)).heap.size := by simp
    generalize hW : World.alloc u8 _ = Wu8 at *
    clear hW hba Hnz Hbz x0 x1 x2
    generalize u8.heap.size = xz at *
    generalize Wu7.heap.size = sz at *
    have HRz := Lib.hid hRz
    clear hRz
    obtain ⟨a0, a1, a2⟩ := HAd.out.cells
    obtain ⟨y0, y1, y2⟩ := HRz.out.cells
    go_upto_region 22 with (first
      | (go_at_call 18; refine Calls.mono (same_big _ _ td Wu8 Wu8.heap.size (Nat.le_refl _) (HAd.out.tq.tu Hld.out) HRz.out.tu) ?_; rintro e u9 ⟨rfl, hb⟩; have Hbs := Lib.hid hb; clear hb))
    have HC := Lib.hid (HC.out.more Hbs.out)
    have HAa := Lib.hid (HAa.out.more Hbs.out)
    have HRx := Lib.hid (HRx.out.more Hbs.out)
    have HAb := Lib.hid (HAb.out.more Hbs.out)
    have HRy := Lib.hid (HRy.out.more Hbs.out)
    have HAd := Lib.hid (HAd.out.more Hbs.out)
    have HRz := Lib.hid (HRz.out.more Hbs.out)
    have hsu9 := Hbs.out.size
    clear a0 a1 a2 y0 y1 y2 Hbs
    obtain ⟨k0, k1, k2⟩ := HC.out.cells
    go_upto_region 23 with (first
      | (go_at_call 21; refine Calls.mono (enter_own _ t id n u9 u9.heap.size (Nat.le_refl _) (HC.out.tq.tu Hl.out) Hr.out Hids.out hid) ?_; rintro e u10 ⟨⟨vp0, tp, np, rfl, hnp0, hisp⟩, hbp⟩; obtain ⟨rfl, rfl⟩ := Trn.both (EnterIs.det Hisa.out hisp); obtain ⟨Ap, cp, rfl, hx1, hx2, hx3⟩ := hnp0.new; have Hnp := Lib.hid (show TuNew u10 u9.heap.size u10.heap.size (.agg #[.slice Ap ta.qs.length cp, .int .i64 ta.at_, .bool ta.fr]) ta from ⟨Ap, cp, rfl, hx1, hx2, hx3⟩); have Hbp := Lib.hid hbp; clear hnp0 hisp hbp hx1 hx2 hx3))
    have hsp := Hbp.out.size
    have hba := (Below.refl u10.heap.size u10).alloc (Nat.le_refl _) (.cells #[.slice Ap ta.qs.length cp, .int .i64 ta.at_, .bool ta.fr] 34)
    have HC := Lib.hid ((HC.out.more Hbp.out).more hba)
    have HAa := Lib.hid ((HAa.out.more Hbp.out).more hba)
    have HRx := Lib.hid ((HRx.out.more Hbp.out).more hba)
    have HAb := Lib.hid ((HAb.out.more Hbp.out).more hba)
    have HRy := Lib.hid ((HRy.out.more Hbp.out).more hba)
    have HAd := Lib.hid ((HAd.out.more Hbp.out).more hba)
    have HRz := Lib.hid ((HRz.out.more Hbp.out).more hba)
    have hRp : RS u9.heap.size u10.heap.size u10.heap.size (.slice Ap ta.qs.length cp) ta (u10.alloc (.cells #[.slice Ap ta.qs.length cp, .int .i64 ta.at_, .bool ta.fr] 34)) := ⟨Blk.new _ _ _, Hnp.out.keep fun b _ hb => Below.heap_alloc u10 _ b hb, by simp⟩
    have hNp : u10.heap.size < (u10.alloc (.cells #[.slice Ap ta.qs.length cp, .int .i64 ta.at_, .bool ta.fr] 34)).heap.size := by simp
    generalize hW : World.alloc u10 _ = Wu10 at *
    clear hW hba Hnp Hbp k0 k1 k2
    generalize u10.heap.size = xp at *
    generalize u9.heap.size = sp at *
    have HRp := Lib.hid hRp
    clear hRp
    obtain ⟨k0, k1, k2⟩ := HC.out.cells
    go_upto_region 24 with (first
      | (go_at_call 22; refine Calls.mono (leave_own _ t id Wu10 Wu10.heap.size (Nat.le_refl _) (HC.out.tq.tu Hl.out) Hr.out Hids.out hid) ?_; rintro e u11 ⟨⟨vq0, tq, nq, rfl, hnq0, hisq⟩, hbq⟩; obtain ⟨rfl, rfl⟩ := Trn.both (LeaveIs.det Hids.out Hisb.out hisq); obtain ⟨Aq, cq, rfl, hx1, hx2, hx3⟩ := hnq0.new; have Hnq := Lib.hid (show TuNew u11 Wu10.heap.size u11.heap.size (.agg #[.slice Aq tb.qs.length cq, .int .i64 tb.at_, .bool tb.fr]) tb from ⟨Aq, cq, rfl, hx1, hx2, hx3⟩); have Hbq := Lib.hid hbq; clear hnq0 hisq hbq hx1 hx2 hx3))
    have hsq := Hbq.out.size
    have hba := (Below.refl u11.heap.size u11).alloc (Nat.le_refl _) (.cells #[.slice Aq tb.qs.length cq, .int .i64 tb.at_, .bool tb.fr] 34)
    have HC := Lib.hid ((HC.out.more Hbq.out).more hba)
    have HAa := Lib.hid ((HAa.out.more Hbq.out).more hba)
    have HRx := Lib.hid ((HRx.out.more Hbq.out).more hba)
    have HAb := Lib.hid ((HAb.out.more Hbq.out).more hba)
    have HRy := Lib.hid ((HRy.out.more Hbq.out).more hba)
    have HAd := Lib.hid ((HAd.out.more Hbq.out).more hba)
    have HRz := Lib.hid ((HRz.out.more Hbq.out).more hba)
    have HRp := Lib.hid ((HRp.out.more Hbq.out).more hba)
    have hRq : RS Wu10.heap.size u11.heap.size u11.heap.size (.slice Aq tb.qs.length cq) tb (u11.alloc (.cells #[.slice Aq tb.qs.length cq, .int .i64 tb.at_, .bool tb.fr] 34)) := ⟨Blk.new _ _ _, Hnq.out.keep fun b _ hb => Below.heap_alloc u11 _ b hb, by simp⟩
    have hNq : u11.heap.size < (u11.alloc (.cells #[.slice Aq tb.qs.length cq, .int .i64 tb.at_, .bool tb.fr] 34)).heap.size := by simp
    generalize hW : World.alloc u11 _ = Wu11 at *
    clear hW hba Hnq Hbq k0 k1 k2
    generalize u11.heap.size = xq at *
    generalize Wu10.heap.size = sq at *
    have HRq := Lib.hid hRq
    clear hRq
    obtain ⟨k0, k1, k2⟩ := HC.out.cells
    go_upto_region 25 with (first
      | (go_at_call 23; refine Calls.mono (ask_own _ t id n Wu11 Wu11.heap.size (Nat.le_refl _) (HC.out.tq.tu Hl.out) Hr.out Hids.out hid) ?_; rintro e u12 ⟨⟨vr0, tr, nr, rfl, hnr0, hisr⟩, hbr⟩; obtain ⟨rfl, rfl⟩ := Trn.both (AskOn.det Hids.out Hisd.out hisr); obtain ⟨Ar, cr, rfl, hx1, hx2, hx3⟩ := hnr0.new; have Hnr := Lib.hid (show TuNew u12 Wu11.heap.size u12.heap.size (.agg #[.slice Ar td.qs.length cr, .int .i64 td.at_, .bool td.fr]) td from ⟨Ar, cr, rfl, hx1, hx2, hx3⟩); have Hbr := Lib.hid hbr; clear hnr0 hisr hbr hx1 hx2 hx3))
    have hsr := Hbr.out.size
    have hba := (Below.refl u12.heap.size u12).alloc (Nat.le_refl _) (.cells #[.slice Ar td.qs.length cr, .int .i64 td.at_, .bool td.fr] 34)
    have HC := Lib.hid ((HC.out.more Hbr.out).more hba)
    have HAa := Lib.hid ((HAa.out.more Hbr.out).more hba)
    have HRx := Lib.hid ((HRx.out.more Hbr.out).more hba)
    have HAb := Lib.hid ((HAb.out.more Hbr.out).more hba)
    have HRy := Lib.hid ((HRy.out.more Hbr.out).more hba)
    have HAd := Lib.hid ((HAd.out.more Hbr.out).more hba)
    have HRz := Lib.hid ((HRz.out.more Hbr.out).more hba)
    have HRp := Lib.hid ((HRp.out.more Hbr.out).more hba)
    have HRq := Lib.hid ((HRq.out.more Hbr.out).more hba)
    have hRr : RS Wu11.heap.size u12.heap.size u12.heap.size (.slice Ar td.qs.length cr) td (u12.alloc (.cells #[.slice Ar td.qs.length cr, .int .i64 td.at_, .bool td.fr] 34)) := ⟨Blk.new _ _ _, Hnr.out.keep fun b _ hb => Below.heap_alloc u12 _ b hb, by simp⟩
    have hNr : u12.heap.size < (u12.alloc (.cells #[.slice Ar td.qs.length cr, .int .i64 td.at_, .bool td.fr] 34)).heap.size := by simp
    generalize hW : World.alloc u12 _ = Wu12 at *
    clear hW hba Hnr Hbr k0 k1 k2
    generalize u12.heap.size = xr at *
    generalize Wu11.heap.size = sr at *
    have HRr := Lib.hid hRr
    clear hRr
    have hnaa := near_list Hla.out (Hisa.out.near Hr.out)
    have h64a := hnaa.1
    have Hrla := Lib.hid hnaa.2
    clear hnaa
    have hnab := near_list Hlb.out (Hisb.out.near Hr.out)
    have h64b := hnab.1
    have Hrlb := Lib.hid hnab.2
    clear hnab
    have hnad := near_list Hld.out (Hisd.out.near Hr.out)
    have h64d := hnad.1
    have Hrld := Lib.hid hnad.2
    clear hnad
    obtain ⟨k0, k1, k2⟩ := HC.out.cells
    have x0 := HC.out.tbox.cell 0
    have x1 := HC.out.tbox.cell 1
    have x2 := HC.out.tbox.cell 2
    simp at x0 x1 x2
    have T1 := Lib.hid True.intro
    have T2 := Lib.hid True.intro
    have T3 := Lib.hid True.intro
    have T4 := Lib.hid True.intro
    have T5 := Lib.hid True.intro
    have T6 := Lib.hid True.intro
    have T7 := Lib.hid True.intro
    go_wp2_with (first
      | (go_at_call 19; clear T1; refine Calls.mono (kept_any _ l w.heap.size _ t w.heap.size Wu12 HC.out.tq Hl.out Hmk.out (Hv.out.below HC.out.below) HC.out.below.size) ?_; rintro e u13 ⟨rfl, hb⟩; have HC := Lib.hid (HC.out.more hb); have HAa := Lib.hid (HAa.out.more hb); have HRx := Lib.hid (HRx.out.more hb); have HAb := Lib.hid (HAb.out.more hb); have HRy := Lib.hid (HRy.out.more hb); have HAd := Lib.hid (HAd.out.more hb); have HRz := Lib.hid (HRz.out.more hb); have HRp := Lib.hid (HRp.out.more hb); have HRq := Lib.hid (HRq.out.more hb); have HRr := Lib.hid (HRr.out.more hb); clear hb k0 k1 k2 x0 x1 x2; obtain ⟨a0, a1, a2⟩ := HAa.out.cells)
      | (go_at_call 16; clear T2; refine Calls.mono (spoilt_any _ la sa _ _ u13 HAa.out.tq h64a Hrla.out (by have := HAa.out.box.lt; omega)) ?_; rintro e u14 ⟨⟨ma, rfl, hma⟩, hk⟩; have hC := HC.out.kp HAa.out.tq hk (by omega) (fun b hb => by have := HFc.out b hb; omega); have hAb := HAb.out.kpn HAa.out.tq hk (fun b hb hf => by have h1 := HFb.out b hb; have h2 := HFa.out b hf; omega); have hAd := HAd.out.kpn HAa.out.tq hk (fun b hb hf => by have h1 := HFd.out b hb; have h2 := HFa.out b hf; omega); have hRx := HRx.out.kp HAa.out.tq hk (fun b hb => .inl (by have := HFa.out b hb; omega)); have hRy := HRy.out.kp HAa.out.tq hk (fun b hb => .inl (by have := HFa.out b hb; omega)); have hRz := HRz.out.kp HAa.out.tq hk (fun b hb => .inl (by have := HFa.out b hb; omega)); have hRp := HRp.out.kp HAa.out.tq hk (fun b hb => .inl (by have := HFa.out b hb; omega)); have hRq := HRq.out.kp HAa.out.tq hk (fun b hb => .inl (by have := HFa.out b hb; omega)); have hRr := HRr.out.kp HAa.out.tq hk (fun b hb => .inl (by have := HFa.out b hb; omega)); have HC := Lib.hid hC; have HAb := Lib.hid hAb; have HAd := Lib.hid hAd; have HRx := Lib.hid hRx; have HRy := Lib.hid hRy; have HRz := Lib.hid hRz; have HRp := Lib.hid hRp; have HRq := Lib.hid hRq; have HRr := Lib.hid hRr; clear hk a0 a1 a2 hC hAb hAd hRx hRy hRz hRp hRq hRr; obtain ⟨a0, a1, a2⟩ := HAb.out.cells)
      | (go_at_call 16; clear T3; refine Calls.mono (spoilt_any _ lb sb _ _ u14 HAb.out.tq h64b Hrlb.out (by have := HAb.out.box.lt; omega)) ?_; rintro e u15 ⟨⟨mb, rfl, hmb⟩, hk⟩; have hC := HC.out.kp HAb.out.tq hk (by omega) (fun b hb => by have := HFc.out b hb; omega); have hAd := HAd.out.kpn HAb.out.tq hk (fun b hb hf => by have h1 := HFd.out b hb; have h2 := HFb.out b hf; omega); have hRx := HRx.out.kp HAb.out.tq hk (fun b hb => .inr (by have := HFb.out b hb; omega)); have hRy := HRy.out.kp HAb.out.tq hk (fun b hb => .inl (by have := HFb.out b hb; omega)); have hRz := HRz.out.kp HAb.out.tq hk (fun b hb => .inl (by have := HFb.out b hb; omega)); have hRp := HRp.out.kp HAb.out.tq hk (fun b hb => .inl (by have := HFb.out b hb; omega)); have hRq := HRq.out.kp HAb.out.tq hk (fun b hb => .inl (by have := HFb.out b hb; omega)); have hRr := HRr.out.kp HAb.out.tq hk (fun b hb => .inl (by have := HFb.out b hb; omega)); have HC := Lib.hid hC; have HAd := Lib.hid hAd; have HRx := Lib.hid hRx; have HRy := Lib.hid hRy; have HRz := Lib.hid hRz; have HRp := Lib.hid hRp; have HRq := Lib.hid hRq; have HRr := Lib.hid hRr; clear hk a0 a1 a2 hC hAd hRx hRy hRz hRp hRq hRr; obtain ⟨a0, a1, a2⟩ := HAd.out.cells)
      | (go_at_call 16; clear T4; refine Calls.mono (spoilt_any _ ld sd _ _ u15 HAd.out.tq h64d Hrld.out (by have := HAd.out.box.lt; omega)) ?_; rintro e u16 ⟨⟨md, rfl, hmd⟩, hk⟩; have hC := HC.out.kp HAd.out.tq hk (by omega) (fun b hb => by have := HFc.out b hb; omega); have hRx := HRx.out.kp HAd.out.tq hk (fun b hb => .inr (by have := HFd.out b hb; omega)); have hRy := HRy.out.kp HAd.out.tq hk (fun b hb => .inr (by have := HFd.out b hb; omega)); have hRz := HRz.out.kp HAd.out.tq hk (fun b hb => .inl (by have := HFd.out b hb; omega)); have hRp := HRp.out.kp HAd.out.tq hk (fun b hb => .inl (by have := HFd.out b hb; omega)); have hRq := HRq.out.kp HAd.out.tq hk (fun b hb => .inl (by have := HFd.out b hb; omega)); have hRr := HRr.out.kp HAd.out.tq hk (fun b hb => .inl (by have := HFd.out b hb; omega)); have HC := Lib.hid hC; have HRx := Lib.hid hRx; have HRy := Lib.hid hRy; have HRz := Lib.hid hRz; have HRp := Lib.hid hRp; have HRq := Lib.hid hRq; have HRr := Lib.hid hRr; clear hk a0 a1 a2 hC hRx hRy hRz hRp hRq hRr; obtain ⟨k0, k1, k2⟩ := HC.out.cells; have x0 := HC.out.tbox.cell 0; have x1 := HC.out.tbox.cell 1; have x2 := HC.out.tbox.cell 2; simp at x0 x1 x2)
      | (go_at_call 19; refine Calls.mono (kept_any _ l w.heap.size _ t w.heap.size u16 HC.out.tq Hl.out Hmk.out (Hv.out.below HC.out.below) HC.out.below.size) ?_; rintro e u17 ⟨rfl, hb⟩; have HC := Lib.hid (HC.out.more hb); have HRx := Lib.hid (HRx.out.more hb); have HRy := Lib.hid (HRy.out.more hb); have HRz := Lib.hid (HRz.out.more hb); have HRp := Lib.hid (HRp.out.more hb); have HRq := Lib.hid (HRq.out.more hb); have HRr := Lib.hid (HRr.out.more hb); clear hb k0 k1 k2 x0 x1 x2; obtain ⟨a0, a1, a2⟩ := HRp.out.cells; obtain ⟨y0, y1, y2⟩ := HRx.out.cells)
      | (go_at_call 18; clear T5; refine Calls.mono (same_big _ _ ta u17 u17.heap.size (Nat.le_refl _) HRp.out.tu HRx.out.tu) ?_; rintro e u18 ⟨rfl, hb⟩; have HC := Lib.hid (HC.out.more hb); have HRx := Lib.hid (HRx.out.more hb); have HRy := Lib.hid (HRy.out.more hb); have HRz := Lib.hid (HRz.out.more hb); have HRp := Lib.hid (HRp.out.more hb); have HRq := Lib.hid (HRq.out.more hb); have HRr := Lib.hid (HRr.out.more hb); clear hb a0 a1 a2 y0 y1 y2; obtain ⟨a0, a1, a2⟩ := HRq.out.cells; obtain ⟨y0, y1, y2⟩ := HRy.out.cells)
      | (go_at_call 18; clear T6; refine Calls.mono (same_big _ _ tb u18 u18.heap.size (Nat.le_refl _) HRq.out.tu HRy.out.tu) ?_; rintro e u19 ⟨rfl, hb⟩; have HC := Lib.hid (HC.out.more hb); have HRx := Lib.hid (HRx.out.more hb); have HRy := Lib.hid (HRy.out.more hb); have HRz := Lib.hid (HRz.out.more hb); have HRp := Lib.hid (HRp.out.more hb); have HRq := Lib.hid (HRq.out.more hb); have HRr := Lib.hid (HRr.out.more hb); clear hb a0 a1 a2 y0 y1 y2; obtain ⟨a0, a1, a2⟩ := HRr.out.cells; obtain ⟨y0, y1, y2⟩ := HRz.out.cells)
      | (go_at_call 18; clear T7; refine Calls.mono (same_big _ _ td u19 u19.heap.size (Nat.le_refl _) HRr.out.tu HRz.out.tu) ?_; rintro e u20 ⟨rfl, hb⟩; have HC := Lib.hid (HC.out.more hb); have HRx := Lib.hid (HRx.out.more hb); have HRy := Lib.hid (HRy.out.more hb); have HRz := Lib.hid (HRz.out.more hb); have HRp := Lib.hid (HRp.out.more hb); have HRq := Lib.hid (HRq.out.more hb); have HRr := Lib.hid (HRr.out.more hb); clear hb a0 a1 a2 y0 y1 y2; skip))
    go_ret
    exact ⟨rfl, HC.out.below⟩
end Go.Proofs.Ytgbjhkgbjnobcaa
