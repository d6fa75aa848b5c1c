/- The walk of 'cutsPlaced'. Conditions: the list is readable, within reach. -/
import Derived.Test.YtkllgmhfjibajaaRefCuts
namespace Go.Proofs.Ytkllgmhfjibajaa
open Go.RowKit Go.Sort

/-- A block of integers. -/
def IB (w : World) (g : Nat) (xs : List Int) : Prop := Blk w g 3 (xs.map (Value.int .i64)).toArray
theorem IB.cell {w : World} {g : Nat} {xs : List Int} (h : IB w g xs) {i : Nat} {x : Int} (hx : xs[i]? = some x) : w.cell? ⟨g, i, none⟩ = some (.int .i64 x) := by
  rw [Blk.cell h]
  simp [hx]
theorem IB.set {w : World} {g : Nat} {xs : List Int} (h : IB w g xs) (i : Nat) (z : Int) : IB (w.setCell ⟨g, i, none⟩ (.int .i64 z)) g (xs.set i z) := by
  have := Blk.set_ h i (.int .i64 z)
  rw [List.setIfInBounds_toArray] at this
  unfold IB
  rw [List.map_set]
  exact this
theorem IB.ints {w : World} {g : Nat} {xs : List Int} (h : IB w g xs) : IntsAt w w.heap.size (some ⟨g, 0, none⟩) xs := fun _ => ⟨g, 0, rfl, Blk.lt h, fun i x hx => by rw [Nat.zero_add]; exact h.cell hx⟩
theorem fill {α : Type} (ys zs : List α) (i : Nat) (y : α) (hy : ys[i]? = some y) (hl : zs.length = ys.length) : (ys.take i ++ zs.drop i).set i y = ys.take (i + 1) ++ zs.drop (i + 1) := by
  have hi := (List.getElem?_eq_some_iff.1 hy).1
  have hlen : (ys.take i).length = i := by rw [List.length_take]; omega
  have e1 : zs.drop i = zs[i] :: zs.drop (i + 1) := List.drop_eq_getElem_cons (by omega)
  have e2 : (zs.drop i).set 0 y = y :: zs.drop (i + 1) := by rw [e1]; rfl
  rw [List.set_append_right _ _ (by omega), hlen, Nat.sub_self, List.take_add_one, hy, e2]
  simp
theorem half_in {x : Int} (h : -9223372036854775808 ≤ x ∧ x ≤ 9223372036854775807) : -9223372036854775808 ≤ x.tdiv 2 ∧ x.tdiv 2 ≤ 9223372036854775807 := by
  obtain ⟨r1, r2, _⟩ := rem_pos (x := x) (m := 2) (by omega)
  have := Int.mul_tdiv_add_tmod x 2
  omega
theorem make_ints (n : Nat) (hn : n * 8 ≤ 281474976710656) (u : World) : (Instr.makeSlice 49 (.int .i64 (n : Int)) (.int .i64 (n : Int))).run Try.prog u =
    .ok (.slice (some ⟨u.heap.size, 0, none⟩) n n) (u.alloc (.cells (Array.replicate n (.int .i64 0)) 3)) := by
  obtain ⟨i0, hi, hz0, hz1, hz2⟩ := info_parts info3
  have h := run_make (P := Try.prog) u 49 3 i0 _ Try.underlying49 hi hz0 .i64 .i64 (n : Int) (n : Int) (by omega) (Int.le_refl _) (by rw [hz2]; omega) (by omega)
  have e : madeCells (Value.int .i64 0).cells n = Array.replicate n (.int .i64 0) := by
    apply Array.ext
    · simp [madeCells]
    · intro i h1 h2
      simp [madeCells, Value.cells, Nat.mod_one]
  rw [hz1, Int.toNat_natCast, Nat.mul_one, e] at h
  exact h
theorem zeros_ib {w : World} {g n : Nat} (h : Blk w g 3 (Array.replicate n (.int .i64 0))) : IB w g (List.replicate n 0) := by
  unfold IB
  rw [List.map_replicate, List.toArray_replicate]
  exact h

/-- One of its integers is written. -/
theorem OwnInts.set {w : World} {base g n cap : Nat} {xs : List Int} (h : OwnInts w base (.slice (some ⟨g, 0, none⟩) n cap) xs) (i : Nat) (z : Int) : OwnInts (w.setCell ⟨g, i, none⟩ (.int .i64 z)) base (.slice (some ⟨g, 0, none⟩) n cap) (xs.set i z) := by
  obtain ⟨h0, h1⟩ := h
  rcases h1 with ⟨e, _⟩ | ⟨b, cap', cur, e, hb, hh, hn, hm, hs, ht⟩
  · cases e
  · injection e with e1 e2 e3
    injection e1 with e1
    injection e1 with e1 _ _
    subst e1 e3
    have hb2 := Blk.set_ (w := w) (g := g) (t := 3) (cs := cur) hh i (.int .i64 z)
    refine ⟨by simp, .inr ⟨g, cap, _, by rw [List.length_set, e2], hb, hb2, by rw [List.length_set]; exact hn, hm, by simpa using hs, ?_⟩⟩
    rw [List.length_set, Array.toList_setIfInBounds, List.take_set, ht, List.map_set]
theorem OwnInts.free {w : World} {base g n cap : Nat} {xs : List Int} (h : OwnInts w base (.slice (some ⟨g, 0, none⟩) n cap) xs) (i : Nat) : w.frozen? ⟨g, i, none⟩ = false := by
  rcases h.2 with ⟨e, _⟩ | ⟨b, cap', cur, e, hb, hh, _⟩
  · cases e
  · injection e with e1 _ _
    injection e1 with e1
    injection e1 with e1 _ _
    subst e1
    exact Blk.frozen (w := w) (t := 3) (cs := cur) hh i
theorem OwnInts.form {w : World} {base n c : Nat} {A : Option Addr} {xs : List Int} (h : OwnInts w base (.slice A n c) xs) (h0 : 0 < xs.length) : ∃ g, A = some ⟨g, 0, none⟩ := by
  rcases h.2 with ⟨_, e⟩ | ⟨b, cap', cur, e, _⟩
  · omega
  · injection e with e1 _ _
    exact ⟨b, e1⟩
/-- Five lists; the second is apart from the others. -/
structure CS (w : World) (v1 v2 v3 vx vy : Value) (us vs zs : List Int) (wr : World) : Prop where
  o1 : OwnInts wr w.heap.size v1 us
  o2 : OwnInts wr w.heap.size v2 zs
  o3 : OwnInts wr w.heap.size v3 vs
  ox : OwnInts wr w.heap.size vx us
  oy : OwnInts wr w.heap.size vy vs
  a1 : ∀ b, v1.ownBlock = some b → v2.ownBlock ≠ some b
  a3 : ∀ b, v3.ownBlock = some b → v2.ownBlock ≠ some b
  ax : ∀ b, vx.ownBlock = some b → v2.ownBlock ≠ some b
  ay : ∀ b, vy.ownBlock = some b → v2.ownBlock ≠ some b
  below : Below w.heap.size w wr
theorem CS.more {w wr w1 : World} {v1 v2 v3 vx vy : Value} {us vs zs : List Int} (h : CS w v1 v2 v3 vx vy us vs zs wr) (hb : Below wr.heap.size wr w1) : CS w v1 v2 v3 vx vy us vs zs w1 :=
  ⟨h.o1.below hb (Nat.le_refl _), h.o2.below hb (Nat.le_refl _), h.o3.below hb (Nat.le_refl _), h.ox.below hb (Nat.le_refl _), h.oy.below hb (Nat.le_refl _), h.a1, h.a3, h.ax, h.ay, h.below.trans (hb.mono h.below.size)⟩
theorem CS.set {w wr : World} {g n cap : Nat} {v1 v3 vx vy : Value} {us vs zs : List Int} (h : CS w v1 (.slice (some ⟨g, 0, none⟩) n cap) v3 vx vy us vs zs wr) (i : Nat) (z : Int) :
    CS w v1 (.slice (some ⟨g, 0, none⟩) n cap) v3 vx vy us vs (zs.set i z) (wr.setCell ⟨g, i, none⟩ (.int .i64 z)) := by
  have ne : ∀ {v : Value}, (∀ b, v.ownBlock = some b → (Value.slice (some ⟨g, 0, none⟩) n cap).ownBlock ≠ some b) → v.ownBlock ≠ some g := fun ha e => ha g e rfl
  have hge : w.heap.size ≤ g := (h.o2.lt rfl).1
  exact ⟨h.o1.setCell (ne h.a1) _, h.o2.set i z, h.o3.setCell (ne h.a3) _, h.ox.setCell (ne h.ax) _, h.oy.setCell (ne h.ay) _, h.a1, h.a3, h.ax, h.ay, h.below.setCell hge _⟩
theorem CS.push {w wr w1 : World} {v1 v2 v3 vx vy : Value} {us vs zs : List Int} (h : CS w v1 v2 v3 vx vy us vs zs wr) (z : Int) {g cap : Nat}
    (ho : w1.ownsRow w.heap.size 3 1 (.slice (some ⟨g, 0, none⟩) (zs.length + 1) cap) (zs.length + 1) (zs.map (Value.int .i64) ++ [.int .i64 z])) (hg : wr.grownBy w1 v2.ownBlock) (hat : v2.ownBlock = some g ∨ g = wr.heap.size) :
    CS w v1 (.slice (some ⟨g, 0, none⟩) (zs ++ [z]).length cap) v3 vx vy us vs (zs ++ [z]) w1 := by
  have keep : ∀ {v : Value} {l : List Int}, OwnInts wr w.heap.size v l → (∀ b, v.ownBlock = some b → v2.ownBlock ≠ some b) → OwnInts w1 w.heap.size v l ∧ ∀ b, v.ownBlock = some b → (Value.slice (some ⟨g, 0, none⟩) (zs ++ [z]).length cap).ownBlock ≠ some b := fun hv ha =>
    ⟨hv.grown hg fun b hb e => ha b hb e.symm, fun b hb e => by
      simp only [Value.ownBlock, Option.some.injEq] at e
      subst e
      rcases hat with e | e
      · exact ha _ hb e
      · have := (hv.lt hb).2
        omega⟩
  refine ⟨(keep h.o1 h.a1).1, ?_, (keep h.o3 h.a3).1, (keep h.ox h.ax).1, (keep h.oy h.ay).1, (keep h.o1 h.a1).2, (keep h.o3 h.a3).2, (keep h.ox h.ax).2, (keep h.oy h.ay).2, h.below.grown hg h.below.size (fun j hj => (h.o2.lt hj).1)⟩
  unfold OwnInts
  rw [List.length_append, List.map_append]
  exact ho

set_option maxRecDepth 100000 in
set_option maxHeartbeats 4000000 in
theorem placed_any (n : Int) (A : Option Addr) (c : Nat) (xs : List Int) (w : World) (B : Nat) (hB : B ≤ w.heap.size) (h : IntsAt w B A xs) (hx : ∀ x ∈ xs, -9223372036854775808 ≤ x ∧ x ≤ 9223372036854775807) (hn : n ≤ 9223372036854775807) (hl : xs.length * 8 ≤ 140737488351232) :
    Calls Try.prog 33 #[.int .i64 n, .slice A xs.length c] w fun e w' => e = .returned (.bool true) ∧ Below w.heap.size w w' := by
  have hmk := make_ints xs.length (by omega)
  have Hh := Lib.hid h
  have Hx := Lib.hid hx
  clear h hx
  go_enter Try.func33, Try.ntmps33
  go_upto_region 4 with fail
  have hb1 := (Blk.new w 3 (Array.replicate xs.length (.int .i64 0))).alloc (.cells (Array.replicate xs.length (.int .i64 0)) 3)
  have hb2 := Blk.new (w.alloc (.cells (Array.replicate xs.length (.int .i64 0)) 3)) 3 (Array.replicate xs.length (.int .i64 0))
  have hbe : Below w.heap.size w ((w.alloc (.cells (Array.replicate xs.length (.int .i64 0)) 3)).alloc (.cells (Array.replicate xs.length (.int .i64 0)) 3)) := ((Below.refl _ _).alloc (Nat.le_refl _) _).alloc (by simp) _
  rw [World.size_alloc] at hb2
  generalize hW : World.alloc (World.alloc _ _) _ = W
  rw [hW] at hb1 hb2 hbe
  clear hW hmk
  obtain ⟨ys, hys⟩ : ∃ ys : List Int, ys = xs.reverse.map (fun x => x.tdiv 2) := ⟨_, rfl⟩
  have hyl : ys.length = xs.length := by rw [hys]; simp
  have hyat : ∀ i, i < xs.length → ∃ x, xs[xs.length - 1 - i]? = some x ∧ ys[i]? = some (x.tdiv 2) := fun i hi => by
    obtain ⟨x, hx⟩ : ∃ x, xs[xs.length - 1 - i]? = some x := ⟨_, List.getElem?_eq_getElem (by omega)⟩
    refine ⟨x, hx, ?_⟩
    rw [hys, List.getElem?_map, List.getElem?_reverse hi, hx]
    rfl
  have hyr : ∀ y ∈ ys, -9223372036854775808 ≤ y ∧ y ≤ 9223372036854775807 := fun y hy => by
    rw [hys] at hy
    obtain ⟨x, hx, rfl⟩ := List.mem_map.1 hy
    exact half_in (Hx.out x (List.mem_reverse.1 hx))
  have Hyat := Lib.hid hyat
  have Hyr := Lib.hid hyr
  have HB1 := Lib.hid (zeros_ib hb1)
  have HB2 := Lib.hid (zeros_ib hb2)
  have HBE := Lib.hid hbe
  clear hys hyat hyr hb1 hb2 hbe
  go_wp2
  go_loopg [8] xs.length (fun g vi wr => ∃ i : Nat, g + i = xs.length ∧ vi = .int .i64 (i : Nat) ∧ IB wr w.heap.size (ys.take i ++ (List.replicate xs.length 0).drop i) ∧ IB wr (w.heap.size + 1) (ys.take i ++ (List.replicate xs.length 0).drop i) ∧ Below w.heap.size w wr)
  case atStart => exact ⟨0, by omega, rfl, HB1.out, HB2.out, HBE.out⟩
  case round =>
    obtain ⟨i, hi, rfl, hg, ht, hbe⟩ := hrel
    clear HB1 HB2 HBE
    have hin : i ≤ xs.length := by omega
    have Hi := Lib.hid hi
    have hsz := hbe.size
    have hgl := Blk.lt hg
    have htl := Blk.lt ht
    by_cases hil : i < xs.length
    · have hii : (i : Int) < xs.length := by omega
      obtain ⟨x, hx1, hy1⟩ := Hyat.out i hil
      obtain ⟨b, o, rfl, hb, hel⟩ := (Hh.out.below (hbe.mono hB)) (by omega)
      have q0 := hel _ x hx1
      have hxr := Hx.out x (List.mem_of_getElem? hx1)
      have w1 : IntKind.i64.wrap ((xs.length : Int) - 1) = (xs.length : Int) - 1 := by rw [IntKind.wrap_i64]; omega
      have w2 : IntKind.i64.wrap ((xs.length : Int) - 1 - i) = ((xs.length - 1 - i : Nat) : Int) := by rw [IntKind.wrap_i64]; omega
      have hhalf := half_in hxr
      have w3 : IntKind.i64.wrap (x.tdiv 2) = x.tdiv 2 := by rw [IntKind.wrap_i64]; omega
      have w4 : ((xs.length - 1 - i : Nat) : Int) < xs.length := by omega
      have hold : ∃ z, (ys.take i ++ (List.replicate xs.length (0 : Int)).drop i)[i]? = some z := ⟨_, List.getElem?_eq_getElem (by simp; omega)⟩
      obtain ⟨z, hz⟩ := hold
      have c1 := hg.cell hz
      have c2 := ht.cell hz
      have f1 := Blk.frozen hg i
      have f2 := Blk.frozen ht i
      have hn1 : ¬ w.heap.size = w.heap.size + 1 := by omega
      have hfl := fill ys (List.replicate xs.length (0 : Int)) i _ hy1 (by simp [hyl])
      have Hg := Lib.hid hg
      have Ht := Lib.hid ht
      have Hbe := Lib.hid hbe
      have Hfl := Lib.hid hfl
      clear hx1 hy1 hel hi hg ht hbe hfl hz
      go_wp2
      have Hg2 : IB ((wr.setCell ⟨w.heap.size + 1, i, none⟩ (.int .i64 (x.tdiv 2))).setCell ⟨w.heap.size, i, none⟩ (.int .i64 (x.tdiv 2))) w.heap.size (ys.take (i + 1) ++ (List.replicate xs.length 0).drop (i + 1)) := by
        have h1 : IB (wr.setCell ⟨w.heap.size + 1, i, none⟩ (.int .i64 (x.tdiv 2))) w.heap.size (ys.take i ++ (List.replicate xs.length 0).drop i) := Blk.far Hg.out (by simp) _
        rw [← Hfl.out]
        exact h1.set i _
      have Ht2 : IB ((wr.setCell ⟨w.heap.size + 1, i, none⟩ (.int .i64 (x.tdiv 2))).setCell ⟨w.heap.size, i, none⟩ (.int .i64 (x.tdiv 2))) (w.heap.size + 1) (ys.take (i + 1) ++ (List.replicate xs.length 0).drop (i + 1)) := by
        rw [← Hfl.out]
        exact Blk.far (Ht.out.set i _) (by simp) _
      have Hbe2 := (Hbe.out.setCell (p := ⟨w.heap.size + 1, i, none⟩) (by simp) (.int .i64 (x.tdiv 2))).setCell (p := ⟨w.heap.size, i, none⟩) (by simp) (.int .i64 (x.tdiv 2))
      go_roundg (gk - 1)
      case measure => have := Hi.out; omega
      case rel => exact ⟨i + 1, by have := Hi.out; omega, by go_num, Hg2, Ht2, Hbe2⟩
    · obtain rfl : i = xs.length := by omega
      have hii : ¬ ((xs.length : Nat) : Int) < xs.length := by omega
      have e0 : ys.take xs.length ++ (List.replicate xs.length (0 : Int)).drop xs.length = ys := by
        rw [← hyl, List.take_length, List.drop_eq_nil_of_le (by simp [hyl]), List.append_nil]
      rw [e0] at hg ht
      clear hi e0
      have hgi := hg.ints
      have hti := ht.ints
      have hone : Calls Try.prog 31 #[.int .i64 n, .slice (some ⟨w.heap.size, 0, none⟩) ys.length ys.length] wr fun e w' => (∃ v, e = .returned v ∧ OwnInts w' wr.heap.size v (if n < 0 then [] else Ct.cuts (ys.map (· % (n + 1))))) ∧ Below wr.heap.size wr w' :=
        cuts_any n _ _ ys wr wr.heap.size (Nat.le_refl _) hgi Hyr.out hn (by omega)
      rw [hyl] at hone
      obtain ⟨us, hus⟩ : ∃ us, us = (if n < 0 then [] else Ct.cuts (ys.map (· % (n + 1)))) := ⟨_, rfl⟩
      rw [← hus] at hone
      obtain ⟨vs, hvs⟩ : ∃ vs, vs = (if n < 0 then [] else Ct.cuts (xs.map (· % (n + 1)))) := ⟨_, rfl⟩
      have Hus := Lib.hid hus
      have Hvs := Lib.hid hvs
      have Hg := Lib.hid hg
      have Ht := Lib.hid ht
      have Hbe := Lib.hid hbe
      clear hg ht hbe hgi hti hus hvs
      go_upto_region 10 with (go_at_call 31; refine Calls.mono hone ?_; rintro e w1 ⟨⟨v1, rfl, ho1⟩, hb1⟩; have Ho1 := Lib.hid ho1; have Hb1 := Lib.hid hb1; clear ho1 hb1 hone)
      have hS1 : w.heap.size + 1 < wr.heap.size := htl
      have hg1 := Blk.below Hg.out Hb1.out hgl
      have ht1 := Blk.below Ht.out Hb1.out htl
      have hbe1 := Hbe.out.trans (Hb1.out.mono Hbe.out.size)
      generalize wr.heap.size = S1 at *
      have HG1 := Lib.hid (show IB w1 w.heap.size ys from hg1)
      have HT1 := Lib.hid (show IB w1 (w.heap.size + 1) ys from ht1)
      have HBE1 := Lib.hid hbe1
      clear hg1 ht1 hbe1 Hg Ht Hbe Hb1 Hyat hgl htl hsz Hi hil hii
      go_wp2
      go_loopg [10] xs.length (fun g vi wx => ∃ i : Nat, g + i = xs.length ∧ vi = .int .i64 (i : Nat) ∧ IB wx w.heap.size (xs.take i ++ ys.drop i) ∧ IB wx (w.heap.size + 1) ys ∧ OwnInts wx S1 v1 us ∧ Below w.heap.size w wx)
      case atStart => exact ⟨0, by omega, rfl, HG1.out, HT1.out, Ho1.out, HBE1.out⟩
      case round =>
        obtain ⟨i, hi, rfl, hg, ht, ho, hbe⟩ := hrel
        clear HG1 HT1 Ho1 HBE1
        have hin : i ≤ xs.length := by omega
        have Hi := Lib.hid hi
        have hsz := hbe.size
        have hgl := Blk.lt hg
        have htl := Blk.lt ht
        clear hi
        by_cases hil : i < xs.length
        · have hii : (i : Int) < xs.length := by omega
          obtain ⟨b, o, x, rfl, hb, hx1, q0⟩ := (Hh.out.below (hbe.mono hB)).at_ hil
          have hold : ∃ z, (xs.take i ++ ys.drop i)[i]? = some z := ⟨_, List.getElem?_eq_getElem (by simp [hyl]; omega)⟩
          obtain ⟨z, hz⟩ := hold
          have c1 := hg.cell hz
          have f1 := Blk.frozen hg i
          have hfl := fill xs ys i _ hx1 hyl
          have hg2 := hg.set i x
          rw [hfl] at hg2
          have ht2 := Blk.far ht (p := ⟨w.heap.size, i, none⟩) (by simp) (.int .i64 x)
          have ho2 := ho.setCell (p := ⟨w.heap.size, i, none⟩) (fun e => by have := (ho.lt e).1; simp at this; omega) (.int .i64 x)
          have hb2 := hbe.setCell (p := ⟨w.heap.size, i, none⟩) (Nat.le_refl _) (.int .i64 x)
          have Hg := Lib.hid hg2
          have Ht := Lib.hid ht2
          have Ho := Lib.hid ho2
          have Hbe := Lib.hid hb2
          clear hg ht ho hbe hx1 hz hfl hg2 ht2 ho2 hb2
          go_wp2
          go_roundg (gk - 1)
          case measure => have := Hi.out; omega
          case rel => exact ⟨i + 1, by have := Hi.out; omega, by go_num, Hg.out, Ht.out, Ho.out, Hbe.out⟩
        · obtain rfl : i = xs.length := by omega
          have hii : ¬ ((xs.length : Nat) : Int) < xs.length := by omega
          have e0 : xs.take xs.length ++ ys.drop xs.length = xs := by
            rw [List.take_length, List.drop_eq_nil_of_le (by omega), List.append_nil]
          rw [e0] at hg
          clear e0
          have hcu : ∀ w1, Below wr.heap.size wr w1 → Calls Try.prog 31 #[.int .i64 n, .slice (some ⟨w.heap.size, 0, none⟩) xs.length xs.length] w1 fun e w' => (∃ v, e = .returned v ∧ OwnInts w' w1.heap.size v vs) ∧ Below w1.heap.size w1 w' := fun w1 hb => by
            rw [Hvs.out]
            exact cuts_any n _ _ xs w1 wr.heap.size hb.size (hg.ints.below hb) Hx.out hn (by omega)
          have hrx : ∀ w1, Below wr.heap.size wr w1 → Calls Try.prog 32 #[.int .i64 n, .slice (some ⟨w.heap.size + 1, 0, none⟩) ys.length ys.length] w1 fun e w' => (∃ v, e = .returned v ∧ OwnInts w' w1.heap.size v us) ∧ Below w1.heap.size w1 w' := fun w1 hb => by
            rw [Hus.out]
            exact refcuts_any n _ _ ys w1 wr.heap.size hb.size (ht.ints.below hb) Hyr.out hn (by omega)
          rw [hyl] at hrx
          have hry : ∀ w1, Below wr.heap.size wr w1 → Calls Try.prog 32 #[.int .i64 n, .slice A xs.length c] w1 fun e w' => (∃ v, e = .returned v ∧ OwnInts w' w1.heap.size v vs) ∧ Below w1.heap.size w1 w' := fun w1 hb => by
            rw [Hvs.out]
            exact refcuts_any n _ _ xs w1 B (by have := hb.size; omega) (Hh.out.below ((hbe.trans (hb.mono hbe.size)).mono hB)) Hx.out hn hl
          have Ho := Lib.hid ho
          have Hbe := Lib.hid hbe
          clear ho hbe hg ht
          go_upto_region 18 with (first
            | (go_at_call 31; refine Calls.mono (hcu _ (Below.refl _ _)) ?_; rintro e w2 ⟨⟨v2, rfl, ho2⟩, hb2⟩; have Ho2 := Lib.hid ho2; have Hb2 := Lib.hid hb2; have hcu2 := hcu _ hb2; clear ho2 hb2 hcu)
            | (go_at_call 31; refine Calls.mono hcu2 ?_; rintro e w3 ⟨⟨v3, rfl, ho3⟩, hb3⟩; have Ho3 := Lib.hid ho3; have Hb3 := Lib.hid hb3; have hb13 := Hb2.out.trans (hb3.mono Hb2.out.size); have Hb13 := Lib.hid hb13; have hrx2 := hrx _ hb13; clear ho3 hb3 hcu2 hb13 hrx)
            | (go_at_call 32; refine Calls.mono hrx2 ?_; rintro e w4 ⟨⟨vx, rfl, hox⟩, hb4⟩; have Hox := Lib.hid hox; have Hb4 := Lib.hid hb4; have hb14 := Hb13.out.trans (hb4.mono Hb13.out.size); have Hb14 := Lib.hid hb14; have hry2 := hry _ hb14; clear hox hb4 hrx2 hb14 hry)
            | (go_at_call 32; refine Calls.mono hry2 ?_; rintro e w5 ⟨⟨vy, rfl, hoy⟩, hb5⟩; have Hoy := Lib.hid hoy; have Hb5 := Lib.hid hb5; clear hoy hb5 hry2))
          have hb15 := Hb14.out.trans (Hb5.out.mono Hb14.out.size)
          have hb25 := (Hb3.out.trans (Hb4.out.mono Hb3.out.size)).trans (Hb5.out.mono (by have := Hb3.out.size; have := Hb4.out.size; omega))
          have hb35 := Hb4.out.trans (Hb5.out.mono Hb4.out.size)
          have z2 := Hb2.out.size
          have z3 := Hb3.out.size
          have z4 := Hb4.out.size
          have hCS : CS w v1 v2 v3 vx vy us vs vs w5 := by
            refine ⟨(Ho.out.below hb15 (Nat.le_refl _)).mono (by omega), (Ho2.out.below hb25 (Nat.le_refl _)).mono (by omega), (Ho3.out.below hb35 (Nat.le_refl _)).mono (by omega), (Hox.out.below Hb5.out (Nat.le_refl _)).mono (by omega), Hoy.out.mono (by omega), fun b hb e => ?_, fun b hb e => ?_, fun b hb e => ?_, fun b hb e => ?_, Hbe.out.trans (hb15.mono Hbe.out.size)⟩
            · have h1 := (Ho.out.lt hb).2; have h2 := (Ho2.out.lt e).1; omega
            · have h1 := (Ho3.out.lt hb).1; have h2 := (Ho2.out.lt e).2; omega
            · have h1 := (Hox.out.lt hb).1; have h2 := (Ho2.out.lt e).2; omega
            · have h1 := (Hoy.out.lt hb).1; have h2 := (Ho2.out.lt e).2; omega
          clear hb15 hb25 hb35 z2 z3 z4 Ho Ho2 Ho3 Hox Hoy Hb2 Hb3 Hb4 Hb5 Hb13 Hb14 Hbe hsz hgl htl
          have huL : us.length ≤ xs.length := by
            rw [Hus.out]
            split
            · simp
            · have := Ct.cuts_len (ys.map (· % (n + 1))) []
              rw [List.length_map] at this
              simp only [List.length_nil] at this
              show (List.foldl _ [] _).length ≤ _
              omega
          have hvL : vs.length ≤ xs.length := by
            rw [Hvs.out]
            split
            · simp
            · have := Ct.cuts_len (xs.map (· % (n + 1))) []
              rw [List.length_map] at this
              simp only [List.length_nil] at this
              show (List.foldl _ [] _).length ≤ _
              omega
          clear Hus Hvs
          obtain ⟨A1, c1, rfl, _, _, i1⟩ := hCS.o1.read (Nat.le_refl _)
          obtain ⟨A2, c2, rfl, _, _, i2⟩ := hCS.o2.read (Nat.le_refl _)
          obtain ⟨A3, c3, rfl, _, _, i3⟩ := hCS.o3.read (Nat.le_refl _)
          obtain ⟨Ax, cx, rfl, _, _, ix⟩ := hCS.ox.read (Nat.le_refl _)
          obtain ⟨Ay, cy, rfl, _, _, iy⟩ := hCS.oy.read (Nat.le_refl _)
          have hs1 := same_yes A1 Ax c1 cx us w5 w5.heap.size i1 ix (by omega)
          have hs2 := fun u (hu : Below w5.heap.size w5 u) => same_yes A2 Ay c2 cy vs u w5.heap.size (i2.below hu) (iy.below hu) (by omega)
          have hs3 := fun u (hu : Below w5.heap.size w5 u) => same_yes A3 Ay c3 cy vs u w5.heap.size (i3.below hu) (iy.below hu) (by omega)
          have HCS := Lib.hid hCS
          clear hCS i1 i2 i3 ix iy
          go_upto_if 88 with (first
            | (go_at_call 44; refine Calls.mono hs1 ?_; rintro e w6 ⟨rfl, hb6⟩; have Hb6 := Lib.hid hb6; have hs2' := hs2 _ hb6; clear hb6 hs1 hs2)
            | (go_at_call 44; refine Calls.mono hs2' ?_; rintro e w7 ⟨rfl, hb7⟩; have hb57 := Hb6.out.trans (hb7.mono Hb6.out.size); have Hb57 := Lib.hid hb57; have hs3' := hs3 _ hb57; clear hb7 hb57 hs2' hs3)
            | (go_at_call 44; refine Calls.mono hs3' ?_; rintro e w8 ⟨rfl, hb8⟩; have hb58 := Hb57.out.trans (hb8.mono Hb57.out.size); have Hb58 := Lib.hid hb58; clear hb8 hb58 hs3'))
          have HCS8 := Lib.hid (HCS.out.more Hb58.out)
          clear HCS Hb6 Hb57 Hb58
          go_wp2
          go_loopg [15] vs.length (fun g vi wx => ∃ (i : Nat) (zs : List Int), g + i = vs.length ∧ vi = .int .i64 (i : Nat) ∧ zs.length = vs.length ∧ CS w (.slice A1 us.length c1) (.slice A2 vs.length c2) (.slice A3 vs.length c3) (.slice Ax us.length cx) (.slice Ay vs.length cy) us vs zs wx)
          case atStart => exact ⟨0, vs, by omega, rfl, rfl, HCS8.out⟩
          case round =>
            obtain ⟨i, zs, hi, rfl, hzl, hC⟩ := hrel
            clear HCS8
            have hin : i ≤ vs.length := by omega
            have Hi := Lib.hid hi
            clear hi
            by_cases hil : i < vs.length
            · have hii : (i : Int) < vs.length := by omega
              obtain ⟨g2, rfl⟩ := hC.o2.form (by omega)
              obtain ⟨A', c', e', _, _, hr⟩ := hC.o2.read (Nat.le_refl _)
              injection e' with e1 ex1 ex2
              clear ex1 ex2
              obtain ⟨b, o, z, e2, hb, hz, q0⟩ := hr.at_ (i := i) (by omega)
              rw [← e1] at e2
              injection e2 with e2
              injection e2 with e2 e3 _
              subst e2 e3
              rw [Nat.zero_add] at q0
              have f0 := hC.o2.free i
              have HC := Lib.hid (hC.set i (-7))
              clear hC hr hz e1
              go_wp2
              go_roundg (gk - 1)
              case measure => have := Hi.out; omega
              case rel => exact ⟨i + 1, zs.set i (-7), by have := Hi.out; omega, by go_num, by rw [List.length_set]; exact hzl, HC.out⟩
            · have hii : ¬ (i : Int) < vs.length := by omega
              have HC := Lib.hid hC
              clear hC
              go_wp2
              go_loopg [11, 16] 64 (fun g v2 vi wx => ∃ (i : Nat) (zs : List Int), g + i = 64 ∧ vi = .int .i64 (i : Nat) ∧ zs.length = vs.length + i ∧ CS w (.slice A1 us.length c1) v2 (.slice A3 vs.length c3) (.slice Ax us.length cx) (.slice Ay vs.length cy) us vs zs wx)
              case atStart => exact ⟨0, zs, by omega, rfl, by omega, HC.out⟩
              case round =>
                obtain ⟨j, ts, hj, rfl, htl, hC⟩ := hrel
                clear HC
                have hjn : j ≤ 64 := by omega
                have Hj := Lib.hid hj
                have hsz := hC.below.size
                clear hj
                by_cases hjl : j < 64
                · have hjj : (j : Int) < 64 := by omega
                  obtain ⟨i0, hi, hz0, hz1, hz2⟩ := info_parts info3
                  have HC := Lib.hid (hC.more ((Below.refl _ _).alloc (Nat.le_refl _) (.cells #[.int .i64 (-8)] 3)))
                  clear hC
                  go_wp2_with (at_builtin; refine wpList_append_lies _ rfl _ _ 49 rfl w.heap.size 3 i0 (.int .i64 0) 1 8 Try.underlying49 hi hz0 hz1 hz2 rfl (by decide) _ _ _ rfl HC.out.o2 ⟨wr.heap.size, 0, none⟩ 1 1 [.int .i64 (-8)] (by rfl) (by rfl) (World.news_of_block (heap_alloc_new _ _)) (by simp [Value.oneCell']) (by decide) (by unfold maxLen; omega) (by omega) (by simp; omega) _ rfl ?_; intro g' cap w9 hown9 hgrow hat hlt9; have HS := Lib.hid (HC.out.push (-8) hown9 hgrow hat); clear hown9 hgrow hat hlt9)
                  go_roundg (gk - 1)
                  case measure => have := Hj.out; omega
                  case rel =>
                    have e : (ts ++ [(-8 : Int)]).length = ts.length + 1 := by simp
                    exact ⟨j + 1, ts ++ [-8], by have := Hj.out; omega, by go_num, by rw [e]; omega, by have := HS.out; rw [e, htl] at this; exact this⟩
                · have hjj : ¬ (j : Int) < 64 := by omega
                  obtain ⟨B1, d1, e1, _, _, i1⟩ := hC.o1.read (Nat.le_refl _)
                  injection e1 with e1 _ f1
                  subst e1 f1
                  obtain ⟨B3, d3, e3, _, _, i3⟩ := hC.o3.read (Nat.le_refl _)
                  injection e3 with e3 _ f3
                  subst e3 f3
                  obtain ⟨Bx, dx, ex, _, _, ix⟩ := hC.ox.read (Nat.le_refl _)
                  injection ex with ex _ fx
                  subst ex fx
                  obtain ⟨By, dy, ey, _, _, iy⟩ := hC.oy.read (Nat.le_refl _)
                  injection ey with ey _ fy
                  subst ey fy
                  have hs1 := same_yes A1 Ax c1 cx us wr wr.heap.size i1 ix (by omega)
                  have hs3 := fun u (hu : Below wr.heap.size wr u) => same_yes A3 Ay c3 cy vs u wr.heap.size (i3.below hu) (iy.below hu) (by omega)
                  have HC := Lib.hid hC
                  clear hC i1 i3 ix iy
                  go_wp2_with (first
                    | (go_at_call 44; refine Calls.mono hs1 ?_; rintro e w6 ⟨rfl, hb6⟩; have Hb6 := Lib.hid hb6; have hs3' := hs3 _ hb6; clear hb6 hs1 hs3)
                    | (go_at_call 44; refine Calls.mono hs3' ?_; rintro e w7 ⟨rfl, hb7⟩; have hb57 := Hb6.out.trans (hb7.mono Hb6.out.size); have Hb57 := Lib.hid hb57; clear hb7 hb57 hs3'))
                  go_ret
                  exact ⟨rfl, HC.out.below.trans (Hb57.out.mono HC.out.below.size)⟩
end Go.Proofs.Ytkllgmhfjibajaa
