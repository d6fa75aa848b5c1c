/- The walk of 'stream.Cuts', and of what compares lists. Conditions: the list is readable, within reach. -/
import Derived.Test.YtkllgmhfjibajaaMem
import Derived.Test.YtkllgmhfjibajaaCutsPlain
import Derived.Test.YtkllgmhfjibajaaShelf
import Derived.Sort.OwnSortedInts
import Derived.Lib.OwnBridge
namespace Go.Proofs.Ytkllgmhfjibajaa
open Go.RowKit Go.Sort

theorem sort_own {w : World} {base : Nat} {v : Value} {xs : List Int} (h : OwnInts w base v xs) (hn : xs.length < 4611686018427387904) :
    Calls Try.prog 41 #[v] w fun e w' => e = .returned (.tuple #[]) ∧ OwnInts w' base v (xs.mergeSort fun x y => decide (x ≤ y)) ∧ w.grownBy w' v.ownBlock := by
  by_cases hv : v = .slice none 0 0
  · subst hv
    have hx : xs = [] := by
      have := h.1
      rcases h.2 with ⟨_, e⟩ | ⟨_, _, _, e, _⟩
      · exact List.eq_nil_of_length_eq_zero e
      · cases e
    subst hx
    refine Calls.mono (calls_of_every_depth fun D => AnyS.slices_Sort_int_none_in laysSort D none 0 w) ?_
    rintro e w' ⟨rfl, rfl⟩
    exact ⟨rfl, by simpa using h, ⟨rfl, rfl, rfl, Nat.le_refl _, fun _ _ _ => rfl⟩⟩
  · obtain ⟨g, cap, rfl, hbg, hgl, hncap, hcm, hlen, hH⟩ := Lib.holds_of_ownsRow h hv
    refine Calls.mono (Any.slices_Sort_int laysSort g 0 cap xs w hH hgl hn) ?_
    rintro e w' ⟨rfl, n, os, rfl⟩
    refine ⟨rfl, ?_, grownBy_sortedI _⟩
    rcases h.2 with ⟨e0, _⟩ | ⟨g', cap', cur, hv', hbase, hb, h1, h2, h3, h4⟩
    · cases e0
    · cases hv'
      have := ownsRow_sortedI (n := n) (os := os) (ts := xs.mergeSort fun x y => decide (x ≤ y)) (List.length_mergeSort xs) hbase hb h1 h2 h3
      unfold OwnInts
      rw [List.length_mergeSort]
      exact this
theorem compact_own {w : World} {base : Nat} {v : Value} {xs : List Int} (h : OwnInts w base v xs) (hn : xs.length < 4611686018427387904) :
    Calls Try.prog 42 #[v] w fun e w' => (∃ v', e = .returned v' ∧ OwnInts w' base v' (Lib.compact xs)) ∧ w.grownBy w' v.ownBlock := by
  by_cases hv : v = .slice none 0 0
  · subst hv
    have hx : xs = [] := by
      rcases h.2 with ⟨_, e⟩ | ⟨_, _, _, e, _⟩
      · exact List.eq_nil_of_length_eq_zero e
      · cases e
    subst hx
    refine Calls.mono (Any.slices_Compact_int_empty laysCompact none 0 w) ?_
    rintro e w' ⟨rfl, rfl⟩
    exact ⟨⟨_, rfl, OwnInts.nil _ _⟩, ⟨rfl, rfl, rfl, Nat.le_refl _, fun _ _ _ => rfl⟩⟩
  · obtain ⟨g, cap, rfl, hbg, hgl, hncap, hcm, hlen, hH⟩ := Lib.holds_of_ownsRow h hv
    refine Calls.mono (Any.slices_Compact_int laysCompact g 0 cap xs w hH (by omega) hncap) ?_
    rintro e w' ⟨rfl, q, rfl⟩
    have hle := Lib.compact_length_le xs
    have hc := Lib.ownsRow_putRow (q := q) (k := (Lib.compact xs).length) (ys := Lib.compact xs ++ List.replicate (xs.length - (Lib.compact xs).length) 0) h (by simp; omega) hle
    rw [List.take_left] at hc
    refine ⟨⟨_, rfl, hc⟩, ?_⟩
    have := grownBy_sortedI (w := w) (g := g) (n := q) (os := #[]) (Lib.compact xs ++ List.replicate (xs.length - (Lib.compact xs).length) 0).toArray
    rw [grow_empty] at this
    exact this

/-- What the remainder is. -/
theorem rem_pos {x m : Int} (hm : 0 < m) : -m < x.tmod m ∧ x.tmod m < m ∧ ((0 ≤ x.tmod m ∧ x.tmod m = x % m) ∨ (x.tmod m < 0 ∧ x.tmod m + m = x % m)) := by
  have h1 := Int.lt_tmod_of_pos x hm
  have h2 := Int.tmod_lt_of_pos x hm
  refine ⟨h1, h2, ?_⟩
  have h3 : x % m = (x.tmod m) % m := by
    conv => lhs; rw [← Int.mul_tdiv_add_tmod x m]
    rw [Int.add_comm, Int.add_mul_emod_self_left]
  rcases Int.lt_or_le (x.tmod m) 0 with h | h
  · right
    refine ⟨h, ?_⟩
    rw [h3, ← Int.add_emod_right (a := x.tmod m) (b := m), Int.emod_eq_of_lt (by omega) (by omega)]
  · left
    exact ⟨h, by rw [h3, Int.emod_eq_of_lt h h2]⟩

set_option maxRecDepth 100000 in
set_option maxHeartbeats 2000000 in
theorem cuts_any (n : Int) (A : Option Addr) (c : Nat) (xs : List Int) (w : World) (B : Nat) (hB : B ≤ w.heap.size) (h : IntsAt w B A xs) (hx : ∀ x ∈ xs, -9223372036854775808 ≤ x ∧ x ≤ 9223372036854775807) (hn : n ≤ 9223372036854775807) (hl : xs.length * 8 ≤ 140737488351232) :
    Calls Try.prog 31 #[.int .i64 n, .slice A xs.length c] w fun e w' => (∃ v, e = .returned v ∧ OwnInts w' w.heap.size v (if n < 0 then [] else Ct.cuts (xs.map (· % (n + 1))))) ∧ Below w.heap.size w w' := by
  obtain ⟨i0, hi, hz0, hz1, hz2⟩ := info_parts info3
  by_cases hneg : n < 0
  · rw [if_pos hneg]
    go_enter Try.func31, Try.ntmps31
    go_wp2
    go_ret
    exact ⟨⟨_, rfl, OwnInts.nil _ _⟩, Below.refl _ _⟩
  · rw [if_neg hneg]
    have Hh := Lib.hid h
    have Hx := Lib.hid hx
    clear h hx
    go_enter Try.func31, Try.ntmps31
    go_wp2
    go_loopg [5, 12] xs.length (fun g vl vi wr => ∃ k : Nat, g + k = xs.length ∧ vi = .int .i64 (k : Nat) ∧ OwnInts wr w.heap.size vl ((xs.take k).map (· % (n + 1))) ∧ Below w.heap.size w wr)
    case atStart => exact ⟨0, by omega, rfl, OwnInts.nil _ _, Below.refl _ _⟩
    case round =>
      obtain ⟨k, hk, rfl, hown, hbe⟩ := hrel
      have hkn : k ≤ xs.length := by omega
      have Hk := Lib.hid hk
      have Hown := Lib.hid hown
      have Hbe := Lib.hid hbe
      clear hk hown hbe
      by_cases hlt : k < xs.length
      · have hki : (k : Int) < xs.length := by omega
        obtain ⟨b, o, x, rfl, hb, hxk, q0⟩ := (Hh.out.below (Hbe.out.mono hB)).at_ hlt
        have hxr := Hx.out x (List.mem_of_getElem? hxk)
        obtain ⟨y, hy⟩ : ∃ y, y = x % (n + 1) := ⟨_, rfl⟩
        have hyr : 0 ≤ y ∧ y ≤ n := by rw [hy]; have := Int.emod_nonneg x (show n + 1 ≠ 0 by omega); have := Int.emod_lt_of_pos x (show 0 < n + 1 by omega); omega
        have Hxk := Lib.hid hxk
        have Hy := Lib.hid hy
        clear hxk hy
        obtain ⟨N1, hw1⟩ : ∃ N1, IntKind.i64.wrap (n + 1) = N1 := ⟨_, rfl⟩
        go_upto_if 18 with fail
        go_cut [7, 18] (fun s _ wx => s = .int .i64 y ∧ wr = wx)
        case first =>
          by_cases hbig : n = 9223372036854775807
          · have hN : N1 = -9223372036854775808 := by rw [← hw1, hbig]; rfl
            have hN1 : ¬ N1 > 0 := by omega
            by_cases hx0 : x < 0
            · have w2 : IntKind.i64.wrap (x + n) = x + n := by rw [IntKind.wrap_i64]; omega
              have w3 : IntKind.i64.wrap (x + n + 1) = x + n + 1 := by rw [IntKind.wrap_i64]; omega
              have hyx : y = x + n + 1 := by
                rw [Hy.out, ← Int.add_emod_right (a := x) (b := n + 1), Int.emod_eq_of_lt (by omega) (by omega)]; omega
              have Hyx := Lib.hid hyx
              clear hyx hbig hN
              go_wp2
              go_meet
              case rel => exact ⟨by rw [Hyx.out], rfl⟩
            · have hyx : y = x := by rw [Hy.out, Int.emod_eq_of_lt (by omega) (by omega)]
              have Hyx := Lib.hid hyx
              clear hyx hbig hN
              go_wp2
              go_meet
              case rel => exact ⟨by rw [Hyx.out], rfl⟩
          · have hN : N1 = n + 1 := by rw [← hw1, IntKind.wrap_i64]; omega
            have hn1 : N1 > 0 := by omega
            obtain ⟨r1, r2, r3⟩ := rem_pos (x := x) (m := N1) hn1
            have d1 : ¬ N1 = 0 := by omega
            have d2 : (N1 == 0) = false := by simp; omega
            obtain ⟨r, hr⟩ : ∃ r, r = x.tmod N1 := ⟨_, rfl⟩
            rw [← hr, hN] at r3
            rw [← hr] at r1 r2
            have d3 : x.tmod N1 = r := hr.symm
            have w2 : IntKind.i64.wrap r = r := by rw [IntKind.wrap_i64]; omega
            rcases r3 with ⟨s1, s2⟩ | ⟨s1, s2⟩
            · have s3 : ¬ r < 0 := by omega
              have Hs := Lib.hid (s2.trans Hy.out.symm)
              clear s2 hr hN
              go_wp2
              go_meet
              case rel => exact ⟨by rw [Hs.out], rfl⟩
            · have w3 : IntKind.i64.wrap (r + N1) = r + N1 := by rw [IntKind.wrap_i64]; omega
              have Hs := Lib.hid (show r + N1 = y by rw [hN]; exact s2.trans Hy.out.symm)
              clear s2 hr hN
              go_wp2
              go_meet
              case rel => exact ⟨by rw [Hs.out], rfl⟩
        case rest =>
          obtain ⟨rfl, rfl⟩ := hcut
          clear q0 hw1
          have ho1 := (Hown.out.below ((Below.refl wr.heap.size wr).alloc (Nat.le_refl _) (.cells #[.int .i64 y] 3)) (Nat.le_refl _))
          have Ho1 := Lib.hid ho1
          have hlk : ((xs.take k).map (· % (n + 1))).length = k := by rw [List.length_map, List.length_take]; omega
          have hsz := Hbe.out.size
          clear ho1
          go_wp2_with (at_builtin; refine wpList_append_lies _ rfl _ _ 49 rfl w.heap.size 3 i0 (.int .i64 0) 1 8 Try.underlying49 hi hz0 hz1 hz2 rfl (by decide) _ _ _ rfl Ho1.out ⟨wr.heap.size, 0, none⟩ 1 1 [.int .i64 y] (by rfl) (by rfl) (World.news_of_block (heap_alloc_new _ _)) (by simp [Value.oneCell']) (by decide) (by rw [hlk]; unfold maxLen; omega) (by rw [hlk]; omega) (by simp; omega) _ rfl ?_; intro g' cap w1 hown1 hgrow hat hlt1; have Hown1 := Lib.hid hown1; have Hgrow := Lib.hid hgrow; clear hown1 hgrow hat hlt1)
          go_roundg (gk - 1)
          case measure => have := Hk.out; omega
          case rel => 
            refine ⟨k + 1, by have := Hk.out; omega, by go_num, ?_, ?_⟩
            · have := Hown1.out
              rw [hlk] at this
              have e : (xs.take (k + 1)).map (· % (n + 1)) = (xs.take k).map (· % (n + 1)) ++ [y] := by
                rw [List.take_add_one, Hxk.out, List.map_append, Hy.out]
                rfl
              unfold OwnInts
              rw [e, List.length_append, hlk, List.map_append]
              exact this
            · exact (Hbe.out.alloc hsz _).grown Hgrow.out (by simp; omega) (fun j hj => (Hown.out.lt hj).1)
      · have hki : ¬ (k : Int) < xs.length := by omega
        obtain rfl : k = xs.length := by omega
        rw [List.take_length] at Hown
        have hlen : (xs.map (· % (n + 1))).length < 4611686018427387904 := by rw [List.length_map]; omega
        go_wp2_with (first
          | (go_at_call 41; refine Calls.mono (sort_own Hown.out hlen) ?_; rintro e w1 ⟨rfl, hs, hg⟩; have Hs := Lib.hid hs; have Hg := Lib.hid hg; clear hs hg)
          | (go_at_call 42; refine Calls.mono (compact_own Hs.out (by rw [List.length_mergeSort]; exact hlen)) ?_; rintro e w2 ⟨⟨v', rfl, hs2⟩, hg2⟩; have Hs2 := Lib.hid hs2; have Hg2 := Lib.hid hg2; clear hs2 hg2))
        go_ret
        have hc := Hs2.out
        rw [Ct.cuts_eq] at hc
        have hb1 := Hbe.out.grown Hg.out Hbe.out.size (fun j hj => (Hown.out.lt hj).1)
        exact ⟨⟨_, rfl, hc⟩, hb1.grown Hg2.out hb1.size (fun j hj => (Hown.out.lt hj).1)⟩
/-- Lists that are the same. -/
theorem same_yes (A A' : Option Addr) (c c' : Nat) (xs : List Int) (w : World) (B : Nat) (h : IntsAt w B A xs) (h' : IntsAt w B A' xs) (hl : xs.length ≤ 9223372036854775807) :
    Calls Try.prog 44 #[.slice A xs.length c, .slice A' xs.length c'] w fun e w' => e = .returned (.bool true) ∧ Below w.heap.size w w' := by
  have Hh := Lib.hid h
  have Hh' := Lib.hid h'
  clear h h'
  go_enter Try.func44, Try.ntmps44
  go_wp2
  go_loopg [5] xs.length (fun g vi wr => ∃ k : Nat, g + k = xs.length ∧ vi = .int .i64 (k : Nat) ∧ ∃ j, wr = w.drewN j)
  case atStart => exact ⟨0, by omega, rfl, 0, rfl⟩
  case round =>
    obtain ⟨k, hk, rfl, j, rfl⟩ := hrel
    have hkn : k ≤ xs.length := by omega
    have Hk := Lib.hid hk
    clear hk
    by_cases hlt : k < xs.length
    · have hki : (k : Int) < xs.length := by omega
      obtain ⟨b, o, x, rfl, hb, hxk, q0⟩ := Hh.out.at_ hlt
      obtain ⟨b', o', x', rfl, hb', hxk', q0'⟩ := Hh'.out.at_ hlt
      rw [hxk] at hxk'
      injection hxk' with hxk'
      subst hxk'
      clear hxk
      go_wp2
      go_quiet (fail)
      go_wp2
      go_roundg (gk - 1)
      case measure => have := Hk.out; omega
      case rel => exact ⟨k + 1, by have := Hk.out; omega, by go_num, _, rfl⟩
    · have hki : ¬ (k : Int) < xs.length := by omega
      go_wp2
      go_ret
      exact ⟨rfl, below_drewN (Below.refl _ _) _⟩
end Go.Proofs.Ytkllgmhfjibajaa
