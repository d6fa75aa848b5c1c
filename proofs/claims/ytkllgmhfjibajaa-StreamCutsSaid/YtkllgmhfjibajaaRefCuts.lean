/- The walk of the document's own 'Cuts'. Conditions: the list is readable, within reach. -/
import Derived.Test.YtkllgmhfjibajaaCuts
namespace Go.Proofs.Ytkllgmhfjibajaa
open Go.RowKit Go.Sort

set_option maxRecDepth 100000 in
theorem place_any (x n : Int) (w : World) (hx : -9223372036854775808 ≤ x ∧ x ≤ 9223372036854775807) (hn : 0 ≤ n ∧ n ≤ 9223372036854775807) :
    Calls Try.prog 43 #[.int .i64 x, .int .i64 n] w fun e w' => e = .returned (.int .i64 (x % (n + 1))) ∧ w' = w := by
  by_cases hbig : n = 9223372036854775807
  · subst hbig
    by_cases hx0 : x ≥ 0
    · have hyx : x % (9223372036854775807 + 1) = x := Int.emod_eq_of_lt (by omega) (by omega)
      rw [hyx]
      clear hyx
      go_enter Try.func43, Try.ntmps43
      go_wp2
      go_ret
      exact ⟨rfl, rfl⟩
    · have w2 : IntKind.i64.wrap (x + 9223372036854775807) = x + 9223372036854775807 := by rw [IntKind.wrap_i64]; omega
      have w3 : IntKind.i64.wrap (x + 9223372036854775807 + 1) = x + 9223372036854775807 + 1 := by rw [IntKind.wrap_i64]; omega
      have hyx : x % (9223372036854775807 + 1) = x + 9223372036854775807 + 1 := by
        rw [← Int.add_emod_right (a := x), Int.emod_eq_of_lt (by omega) (by omega)]; omega
      rw [hyx]
      clear hyx
      go_enter Try.func43, Try.ntmps43
      go_wp2
      go_ret
      exact ⟨rfl, rfl⟩
  · have hnb : (n == 9223372036854775807) = false := by simp [hbig]
    have w1 : IntKind.i64.wrap (n + 1) = n + 1 := by rw [IntKind.wrap_i64]; omega
    obtain ⟨r1, r2, r3⟩ := rem_pos (x := x) (m := n + 1) (by omega)
    have d1 : ¬ n + 1 = 0 := by omega
    have d2 : (n + 1 == 0) = false := by simp; omega
    obtain ⟨y, hy⟩ : ∃ y, y = x % (n + 1) := ⟨_, rfl⟩
    rw [← hy] at r3 ⊢
    obtain ⟨r, hr⟩ : ∃ r, r = x.tmod (n + 1) := ⟨_, rfl⟩
    rw [← hr] at r1 r2 r3
    have d3 : x.tmod (n + 1) = r := hr.symm
    have w2 : IntKind.i64.wrap r = r := by rw [IntKind.wrap_i64]; omega
    clear hbig
    rcases r3 with ⟨s1, s2⟩ | ⟨s1, s2⟩
    · have s3 : ¬ r < 0 := by omega
      subst s2
      clear hr
      go_enter Try.func43, Try.ntmps43
      go_wp2
      go_ret
      exact ⟨rfl, rfl⟩
    · have w3 : IntKind.i64.wrap (r + n) = r + n := by rw [IntKind.wrap_i64]; omega
      have w4 : IntKind.i64.wrap (r + n + 1) = r + n + 1 := by rw [IntKind.wrap_i64]; omega
      clear hy
      obtain rfl : y = r + n + 1 := by omega
      clear hr s2
      go_enter Try.func43, Try.ntmps43
      go_wp2
      go_ret
      exact ⟨rfl, rfl⟩
/-- Two lists that are owned, apart. -/
structure SM (w : World) (vm vl : Value) (ms l : List Int) (wr : World) : Prop where
  own1 : OwnInts wr w.heap.size vm ms
  own2 : OwnInts wr w.heap.size vl l
  apart : ∀ b, vm.ownBlock = some b → vl.ownBlock ≠ some b
  below : Below w.heap.size w wr
theorem SM.alloc {w wr : World} {vm vl : Value} {ms l : List Int} (h : SM w vm vl ms l wr) (o : Obj) : SM w vm vl ms l (wr.alloc o) :=
  ⟨h.own1.below ((Below.refl _ _).alloc (Nat.le_refl _) o) (Nat.le_refl _), h.own2.below ((Below.refl _ _).alloc (Nat.le_refl _) o) (Nat.le_refl _), h.apart, h.below.alloc h.below.size o⟩
theorem SM.push {w wr w1 : World} {vm vl : Value} {ms l : List Int} (h : SM w vm vl ms l wr) (z : Int) {g cap : Nat}
    (ho : w1.ownsRow w.heap.size 3 1 (.slice (some ⟨g, 0, none⟩) (ms.length + 1) cap) (ms.length + 1) (ms.map (Value.int .i64) ++ [.int .i64 z])) (hg : wr.grownBy w1 vm.ownBlock) (hat : vm.ownBlock = some g ∨ g = wr.heap.size) :
    SM w (.slice (some ⟨g, 0, none⟩) (ms ++ [z]).length cap) vl (ms ++ [z]) l w1 := by
  refine ⟨?_, h.own2.grown hg (fun b hb e => h.apart b e.symm hb), fun b hb => ?_, h.below.grown hg h.below.size (fun j hj => (h.own1.lt hj).1)⟩
  · unfold OwnInts
    rw [List.length_append, List.map_append]
    exact ho
  · simp only [Value.ownBlock, Option.some.injEq] at hb
    subst hb
    rcases hat with e | e
    · exact h.apart _ e
    · intro e2
      have := (h.own2.lt e2).2
      omega

set_option maxRecDepth 100000 in
set_option maxHeartbeats 4000000 in
theorem refcuts_any (n : Int) (A : Option Addr) (c : Nat) (xs : List Int) (w : World) (B : Nat) (hB : B ≤ w.heap.size) (h : IntsAt w B A xs) (hx : ∀ x ∈ xs, -9223372036854775808 ≤ x ∧ x ≤ 9223372036854775807) (hn : n ≤ 9223372036854775807) (hl : xs.length * 8 ≤ 140737488351232) :
    Calls Try.prog 32 #[.int .i64 n, .slice A xs.length c] w fun e w' => (∃ v, e = .returned v ∧ OwnInts w' w.heap.size v (if n < 0 then [] else Ct.cuts (xs.map (· % (n + 1))))) ∧ Below w.heap.size w w' := by
  obtain ⟨i0, hi, hz0, hz1, hz2⟩ := info_parts info3
  by_cases hneg : n < 0
  · rw [if_pos hneg]
    go_enter Try.func32, Try.ntmps32
    go_wp2
    go_ret
    exact ⟨⟨_, rfl, OwnInts.nil _ _⟩, Below.refl _ _⟩
  · rw [if_neg hneg]
    have Hh := Lib.hid h
    have Hx := Lib.hid hx
    clear h hx
    go_enter Try.func32, Try.ntmps32
    go_wp2
    go_loopg [5, 6] xs.length (fun g vl vi wr => ∃ k : Nat, g + k = xs.length ∧ vi = .int .i64 (k : Nat) ∧ OwnInts wr w.heap.size vl (Ct.cuts ((xs.take k).map (· % (n + 1)))) ∧ Below w.heap.size w wr)
    case atStart => exact ⟨0, by omega, rfl, OwnInts.nil _ _, Below.refl _ _⟩
    case round =>
      obtain ⟨k, hk, rfl, hown, hbe⟩ := hrel
      have hkn : k ≤ xs.length := by omega
      by_cases hlt : k < xs.length
      · have hki : (k : Int) < xs.length := by omega
        obtain ⟨b, o, x, rfl, hb, hxk, q0⟩ := (Hh.out.below (hbe.mono hB)).at_ hlt
        have hxr := Hx.out x (List.mem_of_getElem? hxk)
        obtain ⟨y, hy⟩ : ∃ y, y = x % (n + 1) := ⟨_, rfl⟩
        have hpl : ∀ w, Calls Try.prog 43 #[.int .i64 x, .int .i64 n] w fun e w' => e = .returned (.int .i64 y) ∧ w' = w := fun w => by
          rw [hy]; exact place_any x n w hxr ⟨by omega, hn⟩
        obtain ⟨l, hl0⟩ : ∃ l, l = Ct.cuts ((xs.take k).map (· % (n + 1))) := ⟨_, rfl⟩
        rw [← hl0] at hown
        have hlen : l.length ≤ k := by
          rw [hl0]
          have := Ct.cuts_len ((xs.take k).map (· % (n + 1))) []
          rw [List.length_map, List.length_take] at this
          have e : Ct.cuts ((xs.take k).map (· % (n + 1))) = ((xs.take k).map (· % (n + 1))).foldl (fun l x => Ct.ins x l) [] := rfl
          rw [e]
          simp only [List.length_nil] at this
          omega
        have hnext : Ct.cuts ((xs.take (k + 1)).map (· % (n + 1))) = Ct.ins y l := by
          rw [List.take_add_one, hxk, List.map_append, hl0, hy]
          exact Ct.cuts_snoc _ _
        have Hk := Lib.hid hk
        have Hnext := Lib.hid hnext
        obtain ⟨Al, cl, hvl, hcl, hclm, hil⟩ := hown.read (Nat.le_refl _)
        have Hown := Lib.hid hown
        have Hbe := Lib.hid hbe
        clear hk hnext hy hl0 hxk hown hbe hil hxr
        subst hvl
        go_wp2_with (go_at_call 43; refine Calls.mono (hpl _) ?_; rintro e w0 ⟨rfl, rfl⟩)
        clear q0
        go_loopg [8, 9, 10] l.length (fun g vm vd vk wx => ∃ j : Nat, g + j = l.length ∧ vk = .int .i64 (j : Nat) ∧ vd = .bool (Ct.ge y (l.take j)) ∧ SM w vm (.slice Al l.length cl) (if Ct.ge y (l.take j) = true then Ct.ins y (l.take j) else l.take j) l wx)
        case atStart => exact ⟨0, by omega, rfl, rfl, (by simpa [Ct.ge] using OwnInts.nil _ _), Hown.out, (fun b hb => by cases hb), Hbe.out⟩
        case round =>
          obtain ⟨j, hj, rfl, rfl, hS⟩ := hrel
          clear Hown Hbe
          have hjn : j ≤ l.length := by omega
          have Hj := Lib.hid hj
          have hsz := hS.below.size
          clear hj
          by_cases hjl : j < l.length
          · have hji : (j : Int) < l.length := by omega
            obtain ⟨A2, c2, e2, _, _, hil⟩ := hS.own2.read (Nat.le_refl _)
            injection e2 with e2 _ e2c
            subst e2 e2c
            obtain ⟨b2, o2, z, rfl, hb2, hz, q2⟩ := hil.at_ hjl
            have htk : l.take (j + 1) = l.take j ++ [z] := by rw [List.take_add_one, hz]; rfl
            have hlj : (l.take j).length = j := by rw [List.length_take]; omega
            have hgs := Ct.ge_snoc y z (l.take j)
            have Hz := Lib.hid hz
            have Htk := Lib.hid htk
            clear hil hz htk
            obtain ⟨d, hd⟩ : ∃ d, d = Ct.ge y (l.take j) := ⟨_, rfl⟩
            rw [← hd] at hS hgs ⊢
            have Hd := Lib.hid hd
            clear hd
            obtain ⟨p, hp⟩ : ∃ p, p = (decide (z ≥ y) && !d) := ⟨_, rfl⟩
            have Hp := Lib.hid hp
            clear hp
            go_upto_region 13 with fail
            go_cut [40] (fun s wx => s = .bool p ∧ wr = wx)
            case first =>
              clear hi hz0 hz1 hz2
              by_cases hge : z ≥ y
              · cases d with
                | true =>
                  go_wp2
                  go_meet
                  case rel => exact ⟨by rw [Hp.out]; simp, rfl⟩
                | false =>
                  go_wp2
                  go_meet
                  case rel => exact ⟨by rw [Hp.out]; simp; omega, rfl⟩
              · go_wp2
                go_meet
                case rel => exact ⟨by rw [Hp.out]; simp; omega, rfl⟩
            case rest =>
             obtain ⟨rfl, rfl⟩ := hcut
             go_upto_if 40 with fail
             go_cut [8, 9, 40] (fun sm sd _ wx => ∃ ms, sd = .bool (Ct.ge y (l.take (j + 1))) ∧ SM w sm (.slice (some ⟨b2, o2, none⟩) l.length cl) ms l wx ∧ ms.length ≤ j + 1 ∧ ms ++ [z] = (if Ct.ge y (l.take (j + 1)) = true then Ct.ins y (l.take (j + 1)) else l.take (j + 1)))
             case first =>
               rw [← Htk.out] at hgs
               cases d with
               | true =>
                 obtain rfl : p = false := by rw [Hp.out]; simp
                 rw [if_pos rfl] at hS
                 have hil := Ct.ins_len y (l.take j)
                 have HS := Lib.hid hS
                 have Hgs := Lib.hid hgs
                 clear hS hgs
                 go_wp2
                 go_meet
                 case rel => exact ⟨_, by rw [Hgs.out]; rfl, HS.out, by omega, by rw [Hgs.out, Bool.true_or, if_pos rfl, Htk.out, Ct.ins_done y [z] _ Hd.out.symm]⟩
               | false =>
                 rw [if_neg (by decide)] at hS
                 by_cases hge : z ≥ y
                 · have hle : y ≤ z := hge
                   obtain rfl : p = true := by rw [Hp.out]; simp; omega
                   by_cases hgt : z > y
                   · have hln : ((l.take j)).length = j := hlj
                     have HS := Lib.hid hS
                     have Hgs := Lib.hid hgs
                     clear hS hgs
                     go_wp2_with (at_builtin; refine wpList_append_lies _ rfl _ _ 49 rfl w.heap.size 3 i0 (.int .i64 0) 1 8 Try.underlying49 hi hz0 hz1 hz2 rfl (by decide) _ _ _ rfl (HS.out.alloc _).own1 ⟨wr.heap.size, 0, none⟩ 1 1 [.int .i64 y] (by rfl) (by rfl) (World.news_of_block (heap_alloc_new _ _)) (by simp [Value.oneCell']) (by decide) (by unfold maxLen; omega) (by omega) (by have := hsz; simp; omega) _ rfl ?_; intro g' cap w1 hown1 hgrow hat hlt1; have HS1 := Lib.hid ((HS.out.alloc _).push y hown1 hgrow hat); clear hown1 hgrow hat hlt1)
                     go_meet
                     case rel => exact ⟨l.take j ++ [y], by rw [Hgs.out, decide_eq_true (show y ≤ z by omega)]; rfl, by have := HS1.out; rw [List.length_append, hlj] at this; exact this, by simp; omega, by rw [Hgs.out, decide_eq_true (show y ≤ z by omega), Bool.or_true, if_pos rfl, Htk.out, Ct.ins_not y [z] _ Hd.out.symm]; simp [Ct.ins, hle, hgt]⟩
                   · have HS := Lib.hid hS
                     have Hgs := Lib.hid hgs
                     clear hS hgs
                     go_wp2
                     go_meet
                     case rel => exact ⟨l.take j, by rw [Hgs.out, decide_eq_true (show y ≤ z by omega)]; rfl, HS.out, by omega, by rw [Hgs.out, decide_eq_true (show y ≤ z by omega), Bool.or_true, if_pos rfl, Htk.out, Ct.ins_not y [z] _ Hd.out.symm]; simp [Ct.ins, hle]; omega⟩
                 · have hle : ¬ y ≤ z := hge
                   obtain rfl : p = false := by rw [Hp.out]; simp; omega
                   have HS := Lib.hid hS
                   have Hgs := Lib.hid hgs
                   clear hS hgs
                   go_wp2
                   go_meet
                   case rel => exact ⟨l.take j, by rw [Hgs.out, decide_eq_false (show ¬ y ≤ z by omega)]; rfl, HS.out, by omega, by rw [Hgs.out, decide_eq_false (show ¬ y ≤ z by omega), if_neg (by decide), Htk.out]⟩
             case rest =>
               obtain ⟨ms, rfl, hS2, hml, htgt⟩ := hcut
               obtain ⟨A3, c3, e3, _, _, hil⟩ := hS2.own2.read (Nat.le_refl _)
               injection e3 with e3 _ e3c
               subst e3c
               obtain ⟨b3, o3, z3, e4, hb3, hz3, q3⟩ := hil.at_ hjl
               rw [← e3] at e4
               injection e4 with e4
               injection e4 with e5 e6 _
               subst e5 e6
               rw [Hz.out] at hz3
               injection hz3 with hz3
               subst hz3
               have hsz := hS2.below.size
               have HS := Lib.hid hS2
               have Htgt := Lib.hid htgt
               clear hS hgs q2 hS2 hil htgt e3
               have hmsz : (ms ++ [z]).length = ms.length + 1 := by simp
               go_wp2_with (at_builtin; refine wpList_append_lies _ rfl _ _ 49 rfl w.heap.size 3 i0 (.int .i64 0) 1 8 Try.underlying49 hi hz0 hz1 hz2 rfl (by decide) _ _ _ rfl (HS.out.alloc _).own1 ⟨wc.heap.size, 0, none⟩ 1 1 [.int .i64 z] (by rfl) (by rfl) (World.news_of_block (heap_alloc_new _ _)) (by simp [Value.oneCell']) (by decide) (by unfold maxLen; omega) (by omega) (by have := hsz; simp; omega) _ rfl ?_; intro g' cap w1 hown1 hgrow hat hlt1; have HS1 := Lib.hid ((HS.out.alloc _).push z hown1 hgrow hat); clear hown1 hgrow hat hlt1)
               go_roundg (gk - 1)
               case measure => have := Hj.out; omega
               case rel => exact ⟨j + 1, by have := Hj.out; omega, by go_num, rfl, by have := HS1.out; rw [hmsz, Htgt.out] at this; exact this⟩
          · obtain rfl : j = l.length := by omega
            have hji : ¬ ((l.length : Nat) : Int) < l.length := by omega
            rw [List.take_length] at hS ⊢
            obtain ⟨d, hd⟩ : ∃ d, d = Ct.ge y l := ⟨_, rfl⟩
            rw [← hd] at hS ⊢
            have Hd := Lib.hid hd
            clear hd
            cases d with
            | true =>
              rw [if_pos rfl] at hS
              have HS := Lib.hid hS
              clear hS
              go_wp2
              go_roundg (xs.length - (k + 1))
              case measure => have := Hk.out; omega
              case rel => exact ⟨k + 1, by omega, by go_num, by rw [Hnext.out]; exact HS.out.own1, HS.out.below⟩
            | false =>
              rw [if_neg (by decide)] at hS
              have HS := Lib.hid hS
              clear hS
              go_wp2_with (at_builtin; refine wpList_append_lies _ rfl _ _ 49 rfl w.heap.size 3 i0 (.int .i64 0) 1 8 Try.underlying49 hi hz0 hz1 hz2 rfl (by decide) _ _ _ rfl (HS.out.alloc _).own1 ⟨wr.heap.size, 0, none⟩ 1 1 [.int .i64 y] (by rfl) (by rfl) (World.news_of_block (heap_alloc_new _ _)) (by simp [Value.oneCell']) (by decide) (by unfold maxLen; omega) (by omega) (by have := hsz; simp; omega) _ rfl ?_; intro g' cap w1 hown1 hgrow hat hlt1; have HS1 := Lib.hid ((HS.out.alloc _).push y hown1 hgrow hat); clear hown1 hgrow hat hlt1)
              go_roundg (xs.length - (k + 1))
              case measure => have := Hk.out; omega
              case rel =>
                have e : Ct.ins y l = l ++ [y] := by
                  have := Ct.ins_not y [] l Hd.out.symm
                  rw [List.append_nil] at this
                  exact this
                refine ⟨k + 1, by omega, by go_num, ?_, HS1.out.below⟩
                rw [Hnext.out, e]
                have := HS1.out.own1
                rw [List.length_append] at this
                exact this
      · have hki : ¬ (k : Int) < xs.length := by omega
        obtain rfl : k = xs.length := by omega
        rw [List.take_length] at hown
        have Hown := Lib.hid hown
        clear hown hk
        go_wp2
        go_ret
        exact ⟨⟨_, rfl, Hown.out⟩, hbe⟩
end Go.Proofs.Ytkllgmhfjibajaa
