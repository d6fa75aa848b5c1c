/- Memory: the law's shelf; the walk of stands. Conditions: it fits. -/
import Derived.Test.YtkllgmhfjibajaaKept
namespace Go.Proofs.Ytkllgmhfjibajaa
open Go.RowKit St
/-- Bytes that are read, in a block from base on. -/
def RB (w : World) (base : Nat) (v : Value) (xs : List Int) : Prop :=
  ∃ A c, v = .slice A xs.length c ∧ xs.length ≤ c ∧ c ≤ maxLen ∧ BytesAt w A xs ∧ ∀ a, A = some a → a.off = 0 ∧ base ≤ a.block ∧ a.block < w.heap.size
section
variable {w w' : World} {base : Nat} {v : Value} {xs : List Int}
theorem RB.lt (h : RB w base v xs) {b : Nat} (hb : v.ownBlock = some b) : base ≤ b ∧ b < w.heap.size := by
  obtain ⟨A, c, rfl, _, _, _, hA⟩ := h
  cases A with
  | none => cases hb
  | some a =>
    injection hb with hb
    subst hb
    exact (hA a rfl).2
theorem RB.keep (h : RB w base v xs) (hs : w.heap.size ≤ w'.heap.size) (hk : ∀ b, v.ownBlock = some b → w'.heap[b]? = w.heap[b]?) : RB w' base v xs := by
  obtain ⟨A, c, rfl, h1, h2, hx, hA⟩ := h
  refine ⟨A, c, rfl, h1, h2, fun h0 => ?_, fun a e => ⟨(hA a e).1, (hA a e).2.1, Nat.lt_of_lt_of_le (hA a e).2.2 hs⟩⟩
  obtain ⟨b, o, rfl, hlt, hc⟩ := hx h0
  exact ⟨b, o, rfl, Nat.lt_of_lt_of_le hlt hs, fun i x hi => by rw [← hc i x hi]; exact World.cell?_of_block (a := ⟨b, o + i, none⟩) (hk b rfl)⟩
theorem RB.kp {S : Nat → Prop} (h : RB w base v xs) (hk : Kp S w w') (hS : ∀ b, v.ownBlock = some b → ¬ S b) : RB w' base v xs := h.keep hk.size fun b hb => hk.block b (h.lt hb).2 (hS b hb)
theorem RB.below (h : RB w base v xs) (hb : Below w.heap.size w w') : RB w' base v xs := h.keep hb.size fun b e => hb.block b (h.lt e).2
theorem OwnB.rb (h : OwnB w base v xs) : RB w base v xs := by
  obtain ⟨A, c, rfl, h1, h2, hx, hA⟩ := h.read
  refine ⟨A, c, rfl, h1, h2, hx, fun a e => ⟨?_, h.lt (hA a e)⟩⟩
  rcases h.2 with ⟨e2, _⟩ | ⟨b, cap, cur, e2, _⟩
  · injection e2 with e2
    rw [e] at e2
    cases e2
  · injection e2 with e2
    rw [e] at e2
    injection e2 with e2
    rw [e2]
theorem RB.mono {base' : Nat} (h : RB w base v xs) (hb : base' ≤ base) : RB w base' v xs := by
  obtain ⟨A, c, e, h1, h2, hx, hA⟩ := h
  exact ⟨A, c, e, h1, h2, hx, fun a ea => ⟨(hA a ea).1, Nat.le_trans hb (hA a ea).2.1, (hA a ea).2.2⟩⟩
end
/-- The mark of the body of this number. -/
def mk (n : Nat) : Int := ((n % 199 : Nat) : Int)
theorem mk_range (n : Nat) : 0 ≤ mk n ∧ mk n < 199 := by unfold mk; omega
/-- The law's shelf at block g: so many bodies, each with its mark. -/
structure SH (w : World) (base g : Nat) (sv : Value) (l : List (Nat × Value)) : Prop where
  blk : Blk w g 30 #[sv]
  row : OwnS w base sv (l.map (·.2))
  own : ∀ (n : Nat) (p : Nat × Value), l[n]? = some p → RB w base p.2 (List.replicate p.1 (mk n))
/-- The blocks that it holds. -/
def FS2 (g : Nat) (sv : Value) (l : List (Nat × Value)) (b : Nat) : Prop := b = g ∨ sv.ownBlock = some b ∨ ∃ (n : Nat) (p : Nat × Value), l[n]? = some p ∧ p.2.ownBlock = some b
section
variable {w w' : World} {base g : Nat} {sv : Value} {l : List (Nat × Value)}
theorem SH.lt (h : SH w base g sv l) {b : Nat} (hb : FS2 g sv l b) : b < w.heap.size := by
  rcases hb with rfl | hb | ⟨n, p, hp, hb⟩
  · exact h.blk.lt
  · exact (h.row.lt b hb).2
  · exact ((h.own n p hp).lt hb).2
theorem SH.keep (h : SH w base g sv l) (hs : w.heap.size ≤ w'.heap.size) (hk : ∀ b, FS2 g sv l b → w'.heap[b]? = w.heap[b]?) : SH w' base g sv l :=
  ⟨(hk g (.inl rfl)).trans h.blk, row_keep h.row fun b hb => hk b (.inr (.inl hb)), fun n p hp => (h.own n p hp).keep hs fun b hb => hk b (.inr (.inr ⟨n, p, hp, hb⟩))⟩
theorem SH.kp {S : Nat → Prop} (h : SH w base g sv l) (hk : Kp S w w') (hS : ∀ b, FS2 g sv l b → ¬ S b) : SH w' base g sv l := h.keep hk.size fun b hb => hk.block b (h.lt hb) (hS b hb)
theorem SH.below (h : SH w base g sv l) (hb : Below w.heap.size w w') : SH w' base g sv l := h.keep hb.size fun b e => hb.block b (h.lt e)
theorem SH.ne (h : SH w base g sv l) : sv.ownBlock ≠ some g := by
  intro e
  rcases h.row.2 with ⟨rfl, _⟩ | ⟨b, cap, cur, rfl, _, hh, _⟩
  · cases e
  · injection e with e
    simp only at e
    subst e
    have h1 : w.heap[b]? = some (.cells cur 22 (0, 0)) := hh
    have h2 : w.heap[b]? = some (.cells #[.slice (some ⟨b, 0, none⟩) (l.map (·.2)).length cap] 30 (0, 0)) := h.blk
    rw [h1] at h2
    injection h2 with h2
    injection h2 with _ h3
    cases h3
end
set_option maxRecDepth 100000 in
set_option maxHeartbeats 4000000 in
theorem stands_any (base g : Nat) (sv : Value) (l : List (Nat × Value)) (w : World) (h : SH w base g sv l) (hl : l.length ≤ 4294967296) :
    Calls Try.prog 15 #[.pointer (some ⟨g, 0, none⟩)] w fun e w' => e = .returned (.bool true) ∧ w' = w := by
  obtain ⟨Av, cv, rfl, hc1, hc2⟩ := own_shape h.row
  rw [List.length_map] at *
  unfold maxLen at hc2
  have q0 := h.blk.cell 0
  simp only [List.getElem?_toArray, List.getElem?_cons_zero] at q0
  have Hh := Lib.hid h
  clear h
  go_enter Try.func15, Try.ntmps15
  go_wp2
  go_loopg [3] l.length (fun gg iv wx => ∃ n, gg + n = l.length ∧ iv = .int .i64 ((n : Nat) : Int) ∧ w = wx)
  case atStart => exact ⟨0, by omega, rfl, rfl⟩
  case round =>
    obtain ⟨n, hn, rfl, rfl⟩ := hrel
    have Hn := Lib.hid hn
    by_cases hlt : n < l.length
    · have hni : (n : Int) < l.length := by omega
      obtain ⟨p, hp⟩ : ∃ p, l[n]? = some p := ⟨_, List.getElem?_eq_getElem hlt⟩
      obtain ⟨A1, c1, e1, d1, d2, dx, _⟩ := Hh.out.own n p hp
      have hrow := Hh.out.row
      unfold OwnS at hrow
      rw [List.length_map] at hrow
      obtain ⟨tb, tcap, etv, _, _⟩ := World.ownsRow.form hrow (by omega)
      obtain ⟨rfl, -, rfl⟩ := Value.slice.inj etv
      have qt : w.cell? ⟨tb, n, none⟩ = some (.slice A1 p.1 c1) := by
        rw [World.ownsRow.cellAt hrow n (by omega), List.getElem?_map, hp]
        show some p.2 = _
        rw [e1, List.length_replicate]
      rw [List.length_replicate] at d1
      have hm1 := mk_range n
      have hmt : (n : Int).tmod 199 = mk n := by rw [Int.tmod_eq_emod_of_nonneg (by omega)]; unfold mk; omega
      have Dx := Lib.hid dx
      have hpl : p.1 ≤ maxLen := by omega
      unfold maxLen at hpl d2
      clear hn hrow etv e1 dx hp
      generalize mk n = m at *
      go_wp2
      go_loopg [4] p.1 (fun gg iv wx => ∃ k, gg + k = p.1 ∧ iv = .int .i64 ((k : Nat) : Int) ∧ w = wx)
      case atStart => exact ⟨0, by omega, rfl, rfl⟩
      case round =>
        obtain ⟨k, hk, rfl, rfl⟩ := hrel
        have Hk := Lib.hid hk
        by_cases hkl : k < p.1
        · have hki : (k : Int) < p.1 := by omega
          obtain ⟨b, o, x, rfl, _, hxk, q1⟩ := Dx.out.at_ (show k < (List.replicate p.1 m).length by rw [List.length_replicate]; exact hkl)
          obtain rfl : x = m := List.eq_of_mem_replicate (List.mem_of_getElem? hxk)
          clear hk hxk
          go_wp2
          go_roundg (gk - 1)
          case measure => have := Hk.out; omega
          case rel => exact ⟨k + 1, by have := Hk.out; omega, by go_num, rfl⟩
        · have hki : ¬ (k : Int) < p.1 := by omega
          clear hk
          go_wp2
          go_roundg (l.length - (n + 1))
          case measure => have := Hn.out; omega
          case rel => exact ⟨n + 1, by have := Hn.out; omega, by go_num, rfl⟩
    · have hni : ¬ (n : Int) < l.length := by omega
      clear hn
      go_wp2
      go_ret
      exact ⟨rfl, rfl⟩
end Go.Proofs.Ytkllgmhfjibajaa
