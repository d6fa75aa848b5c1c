/- The walk of List, over the contracts of maps.Keys and slices.Sorted. Conditions: the table is one of at most 64. -/
import Derived.Test.YtmcahimapoddfaaSorted
namespace Go.Proofs.Ytmcahimapoddfaa
open Go.RowKit Go.Maps Go.Sort Go.Shelf

theorem pids_read {w : World} {base B : Nat} {v : Value} {l : List Pr} (h : w.ownsRow base 2 1 v l.length ((l.map (·.pid)).map (Value.int .i64))) (hB : w.heap.size ≤ B) :
    ∃ A c, v = .slice A l.length c ∧ l.length ≤ c ∧ c ≤ maxLen ∧ (0 < l.length → ∃ g, A = some ⟨g, 0, none⟩ ∧ g < B ∧ ∀ i p, l[i]? = some p → w.cell? ⟨g, i, none⟩ = some (.int .i64 p.pid)) := by
  obtain ⟨_, h⟩ := h
  rcases h with ⟨rfl, h0⟩ | ⟨b, cap, cur, rfl, hb, hh, hn, hm, hcs, ht⟩
  · rw [h0]
    exact ⟨none, 0, rfl, Nat.le_refl _, Nat.zero_le _, fun h => absurd h (by omega)⟩
  · refine ⟨some ⟨b, 0, none⟩, cap, rfl, hn, hm, fun _ => ⟨b, rfl, by have := Blk.lt (w := w) (t := 2) (cs := cur) hh; omega, fun i p hp => ?_⟩⟩
    have hi := (List.getElem?_eq_some_iff.1 hp).1
    rw [Blk.cell (t := 2) (cs := cur) hh, ← Array.getElem?_toList, ← List.getElem?_take_of_lt (show i < l.length * 1 by omega), ht, List.map_map, List.getElem?_map, hp]
    rfl

theorem look_at {l : List Pr} (h : Rising l) {k : Nat} {p : Pr} (hp : l[k]? = some p) : (look l p.pid).getD zPr = p := by
  rw [look_of_mem h (List.mem_of_getElem? hp)]
  rfl
theorem take_snoc' {α : Type} (l : List α) (k : Nat) (x : α) (h : l[k]? = some x) : l.take (k + 1) = l.take k ++ [x] := by
  have hk := (List.getElem?_eq_some_iff.1 h).1
  rw [List.take_succ_eq_append_getElem hk, (List.getElem?_eq_some_iff.1 h).2]

set_option maxRecDepth 100000 in
set_option maxHeartbeats 4000000 in
theorem list_any (B b m : Nat) (l : List Pr) (w : World) (ht : TabAt w B b m l) (h64 : l.length ≤ 64) :
    Calls Try.prog 21 #[.pointer (some ⟨b, 0, none⟩)] w fun e w' => ∃ v, e = .returned v ∧ OwnP w' w.heap.size v l ∧ Below w.heap.size w w' := by
  have cK := keys_c m w
  have cS := sorted_c m l w ht.tab h64
  have Ht := Lib.hid ht
  have H64 := Lib.hid h64
  have tc := ht.cell.cell 0
  simp only [List.getElem?_toArray, List.getElem?_cons_zero] at tc
  obtain ⟨i0, hi, hz0, hz1, hz2⟩ := info_parts info67
  clear ht h64
  go_enter Try.func21, Try.ntmps21
  go_wp2_with (first
    | (go_at_call 38; refine cK.mono ?_; rintro e w1 ⟨rfl, rfl⟩)
    | (go_at_call 37; refine cS.mono ?_; rintro e w2 ⟨v, rfl, hrow, hbl⟩; obtain ⟨A, c, rfl, hlc, hcm, hat⟩ := pids_read hrow (Nat.le_refl _); unfold maxLen at hcm; clear hrow cK cS))
  have hb2 : Below w.heap.size w w2 := ((Below.refl _ _).alloc (Nat.le_refl _) _).trans (hbl.mono (by omega))
  have ht2 : TabAt w2 B b m l := Ht.out.below hb2 (Nat.le_refl _)
  have Hat := Lib.hid hat
  have Hb2 := Lib.hid hb2
  have Ht2 := Lib.hid ht2
  have hl64 := H64.out
  clear hat hb2 ht2 hbl tc Ht
  go_loopg [3, 15] l.length (fun g v i wr => ∃ k : Nat, g + k = l.length ∧ i = .int .i64 (k : Nat) ∧ OwnP wr w2.heap.size v (l.take k) ∧ Below w2.heap.size w2 wr)
  case atStart => exact ⟨0, by omega, rfl, OwnP.nil _ _, Below.refl _ _⟩
  case round =>
    obtain ⟨k, hk, rfl, hown, hbw⟩ := hrel
    have hkn : k ≤ l.length := by omega
    have htr : TabAt wr B b m l := Ht2.out.below hbw (Nat.le_refl _)
    have tc := htr.cell.cell 0
    simp only [List.getElem?_toArray, List.getElem?_cons_zero] at tc
    have hsz := hbw.size
    have Hk := Lib.hid hk
    have Hbw := Lib.hid hbw
    by_cases hkl : k < l.length
    · have hki : (k : Int) < l.length := by omega
      obtain ⟨g, hAe, hgl, hcs⟩ := Hat.out (by omega)
      subst hAe
      have hqk : l[k]? = some l[k] := List.getElem?_eq_getElem hkl
      obtain ⟨p, hpe⟩ : ∃ p, p = l[k] := ⟨_, rfl⟩
      rw [← hpe] at hqk
      have q0 : wr.cell? ⟨g, k, none⟩ = some (.int .i64 p.pid) := (hbw.cell (p := ⟨g, k, none⟩) hgl).trans (hcs k p hqk)
      have hget := htr.tab.get (k := p.pid) (htr.tab.wf p (List.mem_of_getElem? hqk))
      rw [look_at htr.tab.rising hqk] at hget
      unfold prV at hget
      have hts := take_snoc' l k p hqk
      have Hts := Lib.hid hts
      have hlen : (l.take k).length = k := by rw [List.length_take]; omega
      have Hlen := Lib.hid hlen
      have Hown := Lib.hid hown
      clear hk hbw hcs hqk hpe hts htr hlen hown
      go_wp2_with (first
        | (at_builtin; refine wpList_append_lies _ rfl _ _ 22 rfl w2.heap.size 67 i0 (.agg #[.int .i64 0, .int .i64 0, .int .i64 0]) 3 24 Try.underlying22 hi hz0 hz1 hz2 rfl (by decide) _ (l.take k).length ((l.take k).flatMap prCells) rfl
            (Hown.out.keep fun j hj => Below.heap_alloc _ _ j (Hown.out.lt hj).2) ⟨wr.heap.size, 0, none⟩ 1 1 (prCells p) rfl rfl (World.news_of_block (heap_alloc_new _ _)) (by intro u hu; simp [prCells] at hu; rcases hu with rfl | rfl | rfl <;> rfl) (by decide)
            (by have := Hlen.out; unfold maxLen; omega) (by have := Hlen.out; omega) (by simp; omega) _ rfl ?_; intro g' cap w3 hown3 hgr3 hat3 hlt3))
      have hk := Hk.out
      have hb3 : Below w2.heap.size w2 w3 := (Hbw.out.alloc (by omega) _).grown hgr3 (by simp; omega) (fun j hj => (Hown.out.lt hj).1)
      go_roundg (gk - 1)
      case measure => omega
      case rel => exact ⟨k + 1, by omega, by go_num, by
        have e : (l.take (k + 1)).length = (l.take k).length + 1 := by rw [Hts.out]; simp
        have e2 : (l.take (k + 1)).flatMap prCells = (l.take k).flatMap prCells ++ prCells p := by rw [Hts.out, List.flatMap_append]; simp
        unfold OwnP
        rw [e, e2]
        have h := hown3
        rw [Hlen.out] at h ⊢
        exact h, hb3⟩
    · have hki : ¬ (k : Int) < l.length := by omega
      have hkp : k = l.length := by omega
      rw [hkp, List.take_length] at hown
      have Hown := Lib.hid hown
      clear hkp hown hk hbw htr Hk
      go_wp2
      go_ret
      exact ⟨_, rfl, Hown.out.mono Hb2.out.size, Hb2.out.trans (Hbw.out.mono Hb2.out.size)⟩
end Go.Proofs.Ytmcahimapoddfaa
