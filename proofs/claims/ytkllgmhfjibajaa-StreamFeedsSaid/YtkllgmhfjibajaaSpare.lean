/- The walks of the law's spare and kept. Conditions: the bytes fit. -/
import Derived.Test.YtkllgmhfjibajaaRSplit
namespace Go.Proofs.Ytkllgmhfjibajaa
open Go.RowKit St
/-- What stands behind a chunk. -/
def marks : List Int := List.replicate 64 197
theorem marks_byt : Byt marks := fun x hx => by have := List.eq_of_mem_replicate hx; omega
theorem set_repl (xs : List Int) (m : Nat) (z x : Int) (h : 0 < m) : (xs ++ List.replicate m z).set xs.length x = (xs ++ [x]) ++ List.replicate (m - 1) z := by
  obtain ⟨m, rfl⟩ : ∃ k, m = k + 1 := ⟨m - 1, by omega⟩
  rw [List.set_append_right (h := Nat.le_refl _), Nat.sub_self, List.replicate_succ]
  simp
theorem take_next {xs : List Int} {k : Nat} {x : Int} (h : xs[k]? = some x) : xs.take (k + 1) = xs.take k ++ [x] := by
  rw [List.take_add_one, h]
  rfl
theorem BytesAt.pre {w : World} {A : Option Addr} {xs ys : List Int} (h : BytesAt w A (xs ++ ys)) : BytesAt w A xs := fun h0 => by
  obtain ⟨b, o, e, hlt, hc⟩ := h (by rw [List.length_append]; omega)
  exact ⟨b, o, e, hlt, fun i x hx => hc i x (by rw [List.getElem?_append_left (List.getElem?_eq_some_iff.1 hx).1]; exact hx)⟩
set_option maxRecDepth 100000 in
set_option maxHeartbeats 4000000 in
theorem spare_any (A : Option Addr) (cs : List Int) (c : Nat) (w : World) (hc : cs.length ≤ c ∧ c ≤ maxLen) (hbig : cs.length ≤ 2147483647) (hx : BytesAt w A cs) :
    Calls Try.prog 10 #[.slice A cs.length c] w fun e w' => e = .returned (.slice (some ⟨w.heap.size, 0, none⟩) (cs.length + 64) (cs.length + 64)) ∧ Below w.heap.size w w' ∧ Blk w' w.heap.size 5 ((cs ++ marks).map (Value.int .u8)).toArray := by
  have hcm := hc.2
  unfold maxLen at hcm
  have hmk := make_bytes (cs.length + 64) (by omega)
  have hcast : ((cs.length + 64 : Nat) : Int) = (cs.length : Int) + 64 := by omega
  rw [hcast] at hmk
  have Hx := Lib.hid hx
  clear hx hcast
  go_enter Try.func10, Try.ntmps10
  go_wp2
  clear hmk
  go_loopg [4] cs.length (fun gg iv wx => ∃ k : Nat, gg + k = cs.length ∧ iv = .int .i64 ((k : Nat) : Int) ∧ Below w.heap.size w wx ∧ Blk wx w.heap.size 5 ((cs.take k ++ List.replicate (cs.length + 64 - k) 0).map (Value.int .u8)).toArray)
  case atStart => exact ⟨0, by omega, rfl, (Below.refl _ _).alloc (Nat.le_refl _) _, by have := Blk.new w 5 (Array.replicate (cs.length + 64) (.int .u8 0)); simpa using this⟩
  case round =>
    obtain ⟨k, hk, rfl, hbe, hbl⟩ := hrel
    have Hk := Lib.hid hk
    have hkl : k ≤ cs.length := by omega
    clear hk
    by_cases hlt : k < cs.length
    · have hki : (k : Int) < cs.length := by omega
      have hk2 : (k : Int) < (cs.length : Int) + 64 := by omega
      obtain ⟨b, o, x, rfl, hbl', hxk, q0⟩ := (Hx.out.below hbe).at_ hlt
      have htl : (cs.take k).length = k := by rw [List.length_take]; omega
      have hset := set_repl (cs.take k) (cs.length + 64 - k) 0 x (by omega)
      rw [htl, ← take_next hxk, show cs.length + 64 - k - 1 = cs.length + 64 - (k + 1) by omega] at hset
      have hb2 := hbl.setU k x
      rw [hset] at hb2
      have hbe2 := hbe.setCell (p := ⟨w.heap.size, k, none⟩) (Nat.le_refl _) (.int .u8 x)
      have hfz := hbl.frozen k
      obtain ⟨old, hold⟩ : ∃ old, (cs.take k ++ List.replicate (cs.length + 64 - k) 0)[k]? = some old := ⟨_, List.getElem?_eq_getElem (by rw [List.length_append, List.length_replicate, htl]; omega)⟩
      have hc0 : wr.cell? ⟨w.heap.size, k, none⟩ = some (.int .u8 old) := by
        rw [hbl.cell]
        simp only [List.getElem?_toArray, List.getElem?_map, hold]
        rfl
      have Hb2 := Lib.hid hb2
      have Hbe2 := Lib.hid hbe2
      clear hb2 hbe2 hset hold htl hbl hbe hxk
      go_wp2
      go_roundg (gk - 1)
      case measure => have := Hk.out; omega
      case rel => exact ⟨k + 1, by have := Hk.out; omega, by go_num, Hbe2.out, Hb2.out⟩
    · have hki : ¬ (k : Int) < cs.length := by omega
      obtain rfl : k = cs.length := by omega
      rw [List.take_length, show cs.length + 64 - cs.length = 64 by omega] at hbl
      have Hbl := Lib.hid hbl
      have Hbe := Lib.hid hbe
      clear hlt hbl hbe
      go_wp2
      go_loopg [5] 64 (fun gg iv wx => ∃ k : Nat, gg + k = 64 ∧ iv = .int .i64 ((cs.length + k : Nat) : Int) ∧ Below w.heap.size w wx ∧ Blk wx w.heap.size 5 (((cs ++ List.replicate k 197) ++ List.replicate (64 - k) 0).map (Value.int .u8)).toArray)
      case atStart => exact ⟨0, by omega, rfl, Hbe.out, by simpa using Hbl.out⟩
      case round =>
        obtain ⟨k, hk, rfl, hbe, hbl⟩ := hrel
        have Hk2 := Lib.hid hk
        by_cases hlt : k < 64
        · have hki : ((cs.length + k : Nat) : Int) < (cs.length : Int) + 64 := by omega
          have htl : (cs ++ List.replicate k 197).length = cs.length + k := by simp
          have hset := set_repl (cs ++ List.replicate k 197) (64 - k) 0 197 (by omega)
          have hrp : (cs ++ List.replicate k 197) ++ [197] = cs ++ List.replicate (k + 1) 197 := by rw [List.append_assoc, ← List.replicate_succ']
          rw [htl, hrp, show 64 - k - 1 = 64 - (k + 1) by omega] at hset
          clear hrp
          have hb2 := hbl.setU (cs.length + k) 197
          rw [hset] at hb2
          have hbe2 := hbe.setCell (p := ⟨w.heap.size, cs.length + k, none⟩) (Nat.le_refl _) (.int .u8 197)
          have hfz := hbl.frozen (cs.length + k)
          obtain ⟨old, hold⟩ : ∃ old, ((cs ++ List.replicate k 197) ++ List.replicate (64 - k) 0)[cs.length + k]? = some old := ⟨_, List.getElem?_eq_getElem (by rw [List.length_append, List.length_replicate, htl]; omega)⟩
          have hc0 : wr.cell? ⟨w.heap.size, cs.length + k, none⟩ = some (.int .u8 old) := by
            rw [hbl.cell]
            simp only [List.getElem?_toArray, List.getElem?_map, hold]
            rfl
          have hj0 : ¬ ((cs.length + k : Nat) : Int) < 0 := by omega
          have hjm : cs.length + k ≤ 2147483711 := by omega
          have Hb2 := Lib.hid hb2
          have Hbe2 := Lib.hid hbe2
          have Hj := Lib.hid (rfl : cs.length + k = cs.length + k)
          clear hb2 hbe2 hset hold htl hbl hbe hk
          generalize hj : cs.length + k = j at *
          have Hjj := Lib.hid hj
          clear hj Hj
          go_wp2
          go_roundg (gk - 1)
          case measure => have := Hk2.out; omega
          case rel => exact ⟨k + 1, by have := Hk2.out; omega, by rw [← Nat.add_assoc, Hjj.out]; go_num, Hbe2.out, Hb2.out⟩
        · have hki : ¬ ((cs.length + k : Nat) : Int) < (cs.length : Int) + 64 := by omega
          obtain rfl : k = 64 := by omega
          have hbl2 : Blk wr w.heap.size 5 ((cs ++ marks).map (Value.int .u8)).toArray := by rw [Nat.sub_self, List.replicate_zero, List.append_nil] at hbl; exact hbl
          have Hbl2 := Lib.hid hbl2
          have Hbe2 := Lib.hid hbe
          clear hbl hbl2 hbe hk hlt
          go_wp2
          go_ret
          exact ⟨rfl, Hbe2.out, by have := Hbl2.out; rw [List.map_append] at this; exact this⟩
end Go.Proofs.Ytkllgmhfjibajaa
