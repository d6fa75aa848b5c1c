/- The walk of 'works'. Conditions: none. -/
import Derived.Test.YtgbjhkgbjnobcaaWorksPlain
namespace Go.Proofs.Ytgbjhkgbjnobcaa
open Go.RowKit Trn

/-- A box of turns. -/
structure TBox (w : World) (b : Nat) (t : Tu) (wr : World) : Prop where
  below : Below w.heap.size w wr
  ge : w.heap.size ≤ b
  cells : ∃ A c, Blk wr b 34 #[.slice A t.qs.length c, .int .i64 t.at_, .bool t.fr] ∧ TuAt wr wr.heap.size (.agg #[.slice A t.qs.length c, .int .i64 t.at_, .bool t.fr]) t
theorem TBox.next {w wr w1 : World} {b n' c' : Nat} {t t' : Tu} {A' : Option Addr} {a : Int} {f : Bool} (h : TBox w b t wr) (hb : Below wr.heap.size wr w1) (hn : TuNew w1 wr.heap.size w1.heap.size (.agg #[.slice A' n' c', .int .i64 a, .bool f]) t') :
    TBox w b t' (((w1.setCell ⟨b, 0, none⟩ (.slice A' n' c')).setCell ⟨b, 1, none⟩ (.int .i64 a)).setCell ⟨b, 2, none⟩ (.bool f)) := by
  obtain ⟨A, c, h1, _⟩ := h.cells
  have hlt := h1.lt
  have ht := (((Touch.refl b w1).set_ 0 (.slice A' n' c')).set_ 1 (.int .i64 a)).set_ 2 (.bool f)
  have hn2 := (hn.touch ht hlt).at_
  have hge := h.ge
  refine ⟨(h.below.trans (hb.mono h.below.size)).trans (ht.below hge), hge, ?_⟩
  have hb2 := (((h1.below hb hlt).set_ 0 (.slice A' n' c')).set_ 1 (.int .i64 a)).set_ 2 (.bool f)
  obtain ⟨A2, c2, e, _⟩ := hn
  injection e with e
  have e0 : Value.slice A' n' c' = .slice A2 t'.qs.length c2 := by
    have := congrArg (fun x => x[0]?) e
    simpa using this
  have e1 : Value.int .i64 a = .int .i64 t'.at_ := by
    have := congrArg (fun x => x[1]?) e
    simpa using this
  have e2 : Value.bool f = .bool t'.fr := by
    have := congrArg (fun x => x[2]?) e
    simpa using this
  rw [e0, e1, e2] at hb2 hn2 ⊢
  rw [e0, e1, e2] at ht
  refine ⟨A2, c2, by simpa using hb2, ?_⟩
  have hsz := ht.size
  rw [hsz]
  exact hn2

set_option maxHeartbeats 4000000 in
set_option maxRecDepth 100000 in
theorem works_any (w : World) : Calls Try.prog 28 #[] w fun e w' => e = .returned (.bool true) ∧ Below w.heap.size w w' := by
  go_enter Try.func28, Try.ntmps28
  go_upto_region 2 with fail
  have H : TBox w w.heap.size none_ (w.alloc (.cells #[.slice none 0 0, .int .i64 0, .bool false] 34)) :=
    ⟨(Below.refl _ _).alloc (Nat.le_refl _) _, Nat.le_refl _, none, 0, Blk.new _ _ _, ⟨none, 0, rfl, Nat.le_refl _, Nat.zero_le _, fun h => absurd h (by simp [none_])⟩⟩
  generalize hW : World.alloc _ _ = wr at *
  clear hW
  obtain ⟨A, c, hb, ht⟩ := H.cells
  have k0 := hb.cell 0
  have k1 := hb.cell 1
  have k2 := hb.cell 2
  simp at k0 k1 k2
  have hlt := hb.lt
  have HB := Lib.hid hb
  have HT := Lib.hid ht
  have HH := Lib.hid H
  clear hb ht H
  go_upto_region 3 with (go_at_call 21; refine Calls.mono (enter_any _ none_ 1 4 _ _ (Nat.le_refl _) HT.out reach_none ids_none (by decide)) ?_; rintro e w1 ⟨⟨v', t', n, rfl, hn, hp⟩, hbl⟩; obtain ⟨rfl, rfl⟩ := enter1 hp; obtain ⟨A', c', rfl, hl1, hl2, hq'⟩ := hn; have hb1 := HB.out.below hbl hlt; have f0 := hb1.frozen 0; have f1 := hb1.frozen 1; have f2 := hb1.frozen 2; have m0 := hb1.cell 0; have m1 := hb1.cell 1; have m2 := hb1.cell 2; simp at m0 m1 m2; have HN := Lib.hid (show TuNew w1 wr.heap.size w1.heap.size _ _ from ⟨A', c', rfl, hl1, hl2, hq'⟩); have HBL := Lib.hid hbl; clear hb1 hl1 hl2 hq' hbl)
  have H := HH.out.next HBL.out HN.out
  clear HB HT HH HBL HN k0 k1 k2 f0 f1 f2 m0 m1 m2 hlt
  generalize hW : World.setCell (World.setCell (World.setCell w1 _ _) _ _) _ _ = wr' at *
  clear hW
  clear wr w1
  rename World => wr
  obtain ⟨A, c, hb, ht⟩ := H.cells
  have k0 := hb.cell 0
  have k1 := hb.cell 1
  have k2 := hb.cell 2
  simp at k0 k1 k2
  have hlt := hb.lt
  have HB := Lib.hid hb
  have HT := Lib.hid ht
  have HH := Lib.hid H
  clear hb ht H
  go_upto_region 4 with (go_at_call 21; refine Calls.mono (enter_any _ one_ 2 2 _ _ (Nat.le_refl _) HT.out reach_one ids_one (by decide)) ?_; rintro e w1 ⟨⟨v', t', n, rfl, hn, hp⟩, hbl⟩; obtain ⟨rfl, rfl⟩ := enter2 hp; obtain ⟨A', c', rfl, hl1, hl2, hq'⟩ := hn; have hb1 := HB.out.below hbl hlt; have f0 := hb1.frozen 0; have f1 := hb1.frozen 1; have f2 := hb1.frozen 2; have m0 := hb1.cell 0; have m1 := hb1.cell 1; have m2 := hb1.cell 2; simp at m0 m1 m2; have HN := Lib.hid (show TuNew w1 wr.heap.size w1.heap.size _ _ from ⟨A', c', rfl, hl1, hl2, hq'⟩); have HBL := Lib.hid hbl; clear hb1 hl1 hl2 hq' hbl)
  have H := HH.out.next HBL.out HN.out
  clear HB HT HH HBL HN k0 k1 k2 f0 f1 f2 m0 m1 m2 hlt
  generalize hW : World.setCell (World.setCell (World.setCell w1 _ _) _ _) _ _ = wr' at *
  clear hW
  clear wr w1
  rename World => wr
  obtain ⟨A, c, hb, ht⟩ := H.cells
  have k0 := hb.cell 0
  have k1 := hb.cell 1
  have k2 := hb.cell 2
  simp at k0 k1 k2
  have hlt := hb.lt
  have HB := Lib.hid hb
  have HT := Lib.hid ht
  have HH := Lib.hid H
  clear hb ht H
  go_upto_region 5 with (go_at_call 23; refine Calls.mono (ask_any _ (two_ [] [] 0) 1 3 _ _ (Nat.le_refl _) HT.out (reach_two (by decide) (by decide)) ids_two (by decide)) ?_; rintro e w1 ⟨⟨v', t', n, rfl, hn, hp⟩, hbl⟩; obtain ⟨rfl, rfl⟩ := ask1 hp; obtain ⟨A', c', rfl, hl1, hl2, hq'⟩ := hn; have hb1 := HB.out.below hbl hlt; have f0 := hb1.frozen 0; have f1 := hb1.frozen 1; have f2 := hb1.frozen 2; have m0 := hb1.cell 0; have m1 := hb1.cell 1; have m2 := hb1.cell 2; simp at m0 m1 m2; have HN := Lib.hid (show TuNew w1 wr.heap.size w1.heap.size _ _ from ⟨A', c', rfl, hl1, hl2, hq'⟩); have HBL := Lib.hid hbl; clear hb1 hl1 hl2 hq' hbl)
  have H := HH.out.next HBL.out HN.out
  clear HB HT HH HBL HN k0 k1 k2 f0 f1 f2 m0 m1 m2 hlt
  generalize hW : World.setCell (World.setCell (World.setCell w1 _ _) _ _) _ _ = wr' at *
  clear hW
  clear wr w1
  rename World => wr
  obtain ⟨A, c, hb, ht⟩ := H.cells
  have k0 := hb.cell 0
  have k1 := hb.cell 1
  have k2 := hb.cell 2
  simp at k0 k1 k2
  have hlt := hb.lt
  have HB := Lib.hid hb
  have HT := Lib.hid ht
  have HH := Lib.hid H
  clear hb ht H
  go_upto_region 6 with (go_at_call 23; refine Calls.mono (ask_any _ (two_ [3] [] 0) 2 1 _ _ (Nat.le_refl _) HT.out (reach_two (by decide) (by decide)) ids_two (by decide)) ?_; rintro e w1 ⟨⟨v', t', n, rfl, hn, hp⟩, hbl⟩; obtain ⟨rfl, rfl⟩ := ask2 hp; obtain ⟨A', c', rfl, hl1, hl2, hq'⟩ := hn; have hb1 := HB.out.below hbl hlt; have f0 := hb1.frozen 0; have f1 := hb1.frozen 1; have f2 := hb1.frozen 2; have m0 := hb1.cell 0; have m1 := hb1.cell 1; have m2 := hb1.cell 2; simp at m0 m1 m2; have HN := Lib.hid (show TuNew w1 wr.heap.size w1.heap.size _ _ from ⟨A', c', rfl, hl1, hl2, hq'⟩); have HBL := Lib.hid hbl; clear hb1 hl1 hl2 hq' hbl)
  have H := HH.out.next HBL.out HN.out
  clear HB HT HH HBL HN k0 k1 k2 f0 f1 f2 m0 m1 m2 hlt
  generalize hW : World.setCell (World.setCell (World.setCell w1 _ _) _ _) _ _ = wr' at *
  clear hW
  clear wr w1
  rename World => wr
  obtain ⟨A, c, hb, ht⟩ := H.cells
  have k0 := hb.cell 0
  have k1 := hb.cell 1
  have k2 := hb.cell 2
  simp at k0 k1 k2
  have hlt := hb.lt
  have HB := Lib.hid hb
  have HT := Lib.hid ht
  have HH := Lib.hid H
  clear hb ht H
  go_upto_region 7 with (go_at_call 13; refine Calls.mono (next_any _ (two_ [3] [1] 0) _ _ (Nat.le_refl _) HT.out (reach_two (by decide) (by decide))) ?_; rintro e w1 ⟨⟨v', t', i1, d1, ok1, rfl, hn, hp⟩, hbl⟩; obtain ⟨rfl, rfl, rfl, rfl⟩ := next1 hp; obtain ⟨A', c', rfl, hl1, hl2, hq'⟩ := hn; have hb1 := HB.out.below hbl hlt; have f0 := hb1.frozen 0; have f1 := hb1.frozen 1; have f2 := hb1.frozen 2; have m0 := hb1.cell 0; have m1 := hb1.cell 1; have m2 := hb1.cell 2; simp at m0 m1 m2; have HN := Lib.hid (show TuNew w1 wr.heap.size w1.heap.size _ _ from ⟨A', c', rfl, hl1, hl2, hq'⟩); have HBL := Lib.hid hbl; clear hb1 hl1 hl2 hq' hbl)
  have H := HH.out.next HBL.out HN.out
  clear HB HT HH HBL HN k0 k1 k2 f0 f1 f2 m0 m1 m2 hlt
  generalize hW : World.setCell (World.setCell (World.setCell w1 _ _) _ _) _ _ = wr' at *
  clear hW
  clear wr w1
  rename World => wr
  obtain ⟨A, c, hb, ht⟩ := H.cells
  have k0 := hb.cell 0
  have k1 := hb.cell 1
  have k2 := hb.cell 2
  simp at k0 k1 k2
  have hlt := hb.lt
  have HB := Lib.hid hb
  have HT := Lib.hid ht
  have HH := Lib.hid H
  clear hb ht H
  go_upto_region 8 with (go_at_call 13; refine Calls.mono (next_any _ (two_ [] [1] 1) _ _ (Nat.le_refl _) HT.out (reach_two (by decide) (by decide))) ?_; rintro e w1 ⟨⟨v', t', i2, d2, ok2, rfl, hn, hp⟩, hbl⟩; obtain ⟨rfl, rfl, rfl, rfl⟩ := next2 hp; obtain ⟨A', c', rfl, hl1, hl2, hq'⟩ := hn; have hb1 := HB.out.below hbl hlt; have f0 := hb1.frozen 0; have f1 := hb1.frozen 1; have f2 := hb1.frozen 2; have m0 := hb1.cell 0; have m1 := hb1.cell 1; have m2 := hb1.cell 2; simp at m0 m1 m2; have HN := Lib.hid (show TuNew w1 wr.heap.size w1.heap.size _ _ from ⟨A', c', rfl, hl1, hl2, hq'⟩); have HBL := Lib.hid hbl; clear hb1 hl1 hl2 hq' hbl)
  have H := HH.out.next HBL.out HN.out
  clear HB HT HH HBL HN k0 k1 k2 f0 f1 f2 m0 m1 m2 hlt
  generalize hW : World.setCell (World.setCell (World.setCell w1 _ _) _ _) _ _ = wr' at *
  clear hW
  clear wr w1
  rename World => wr
  obtain ⟨A, c, hb, ht⟩ := H.cells
  have k0 := hb.cell 0
  have k1 := hb.cell 1
  have k2 := hb.cell 2
  simp at k0 k1 k2
  have HT := Lib.hid ht
  have HH := Lib.hid H
  clear hb ht H
  go_wp2_with (go_at_call 13; refine Calls.mono (next_any _ (two_ [] [] 0) _ _ (Nat.le_refl _) HT.out (reach_two (by decide) (by decide))) ?_; rintro e w1 ⟨⟨v', t', i3, d3, ok3, rfl, hn, hp⟩, hbl⟩; obtain rfl := next3 hp; obtain ⟨A', c', rfl, hl1, hl2, hq'⟩ := hn; clear hq' hl1 hl2)
  go_ret
  have hbw := HH.out.below.trans (hbl.mono HH.out.below.size)
  exact ⟨rfl, hbw.alloc hbw.size _⟩
end Go.Proofs.Ytgbjhkgbjnobcaa
