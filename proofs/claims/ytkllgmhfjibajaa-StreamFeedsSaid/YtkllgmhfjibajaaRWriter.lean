/- The walks of the reference's Writer and Fixed. Conditions: none. -/
import Derived.Test.YtkllgmhfjibajaaRSums
import Derived.Test.YtkllgmhfjibajaaWriter
namespace Go.Proofs.Ytkllgmhfjibajaa
open Go.RowKit St
/-- The four bytes of a number, written from behind. -/
def fxA (x : Int) (k : Nat) : List Int := List.replicate (4 - k) 0 ++ (b4 x).drop (4 - k)
theorem fx_set (x : Int) (k : Nat) (hk : k < 4) (y : Int) (hy : (b4 x)[3 - k]? = some y) : (fxA x k).set (3 - k) y = fxA x (k + 1) := by
  have h4 : k = 0 ∨ k = 1 ∨ k = 2 ∨ k = 3 := by omega
  rcases h4 with rfl | rfl | rfl | rfl
  · simp [b4] at hy; subst hy; rfl
  · simp [b4] at hy; subst hy; rfl
  · simp [b4] at hy; subst hy; rfl
  · simp [b4] at hy; subst hy; rfl
theorem Blk.setU {w : World} {g : Nat} {t : TypeId} {xs : List Int} (h : Blk w g t (xs.map (Value.int .u8)).toArray) (k : Nat) (y : Int) : Blk (w.setCell ⟨g, k, none⟩ (.int .u8 y)) g t ((xs.set k y).map (Value.int .u8)).toArray := by
  have := h.set_ k (.int .u8 y)
  rw [List.map_set]
  simpa using this
set_option maxRecDepth 100000 in
set_option maxHeartbeats 4000000 in
theorem fixed4_any (x : Nat) (w : World) (hx : x < 4294967296) : Calls Try.prog 89 #[.int .u64 (x : Int), .int .i64 4] w fun e w' => e = .returned (.slice (some ⟨w.heap.size, 0, none⟩) 4 4) ∧ Below w.heap.size w w' ∧ Blk w' w.heap.size 5 ((b4 (x : Int)).map (Value.int .u8)).toArray := by
  have hmk : ∀ u : World, (Instr.makeSlice 22 (.int .i64 4) (.int .i64 4)).run Try.prog u = .ok (.slice (some ⟨u.heap.size, 0, none⟩) 4 4) (u.alloc (.cells (Array.replicate 4 (.int .u8 0)) 5)) := fun u => make_bytes 4 (by decide) u
  go_enter Try.func89, Try.ntmps89
  go_wp2
  go_loopg [0, 6] 4 (fun gg xv iv wx => ∃ k : Nat, gg + k = 4 ∧ iv = .int .i64 (3 - (k : Int)) ∧ xv = .int .u64 ((x / 256 ^ k : Nat) : Int) ∧ Below w.heap.size w wx ∧ Blk wx w.heap.size 5 ((fxA (x : Int) k).map (Value.int .u8)).toArray)
  case atStart => exact ⟨0, by omega, rfl, by simp, (Below.refl _ _).alloc (Nat.le_refl _) _, Blk.new w 5 _⟩
  case round =>
    obtain ⟨k, hk, rfl, rfl, hbe, hbl⟩ := hrel
    have Hk := Lib.hid hk
    by_cases hlt : k < 4
    · have hyl : x / 256 ^ k < 4294967296 := Nat.lt_of_le_of_lt (Nat.div_le_self _ _) hx
      have hnx : x / 256 ^ (k + 1) = x / 256 ^ k / 256 := by rw [Nat.pow_succ, Nat.div_div_eq_div_mul]
      have hy : (b4 (x : Int))[3 - k]? = some ((x / 256 ^ k : Nat) % 256 : Int) := by
        have h4 : k = 0 ∨ k = 1 ∨ k = 2 ∨ k = 3 := by omega
        rcases h4 with rfl | rfl | rfl | rfl <;> simp [b4] <;> omega
      have hst := fx_set (x : Int) k hlt _ hy
      have hb2 := hbl.setU (3 - k) ((x / 256 ^ k : Nat) % 256 : Int)
      rw [hst] at hb2
      have hbe2 := hbe.setCell (p := ⟨w.heap.size, 3 - k, none⟩) (Nat.le_refl _) (.int .u8 ((x / 256 ^ k : Nat) % 256 : Int))
      generalize x / 256 ^ k = y at *
      have Hnx := Lib.hid hnx
      have Hb2 := Lib.hid hb2
      have Hbe2 := Lib.hid hbe2
      have hfz := hbl.frozen (3 - k)
      have hik : (3 : Int) - (k : Int) = ((3 - k : Nat) : Int) := by omega
      rw [hik]
      have hlt4 : 3 - k < 4 := by omega
      obtain ⟨old, hold⟩ : ∃ old, (fxA (x : Int) k)[3 - k]? = some old := ⟨_, List.getElem?_eq_getElem (by simp [fxA, b4]; omega)⟩
      have hc0 : wr.cell? ⟨w.heap.size, 3 - k, none⟩ = some (.int .u8 old) := by
        rw [hbl.cell]
        simp [hold]
      have hym : (y : Int).tmod 256 = (y : Int) % 256 := Int.tmod_eq_emod_of_nonneg (by omega)
      have hyd : (y : Int).tdiv 256 = (y : Int) / 256 := Int.tdiv_eq_ediv_of_nonneg (by omega)
      generalize hj : 3 - k = j at *
      have Hj := Lib.hid hj
      have Hik := Lib.hid hik
      have Hlt := Lib.hid hlt
      have hj0 : ¬ (j : Int) < 0 := by omega
      clear hnx hb2 hbe2 hk hst hy hbl hbe hj hik hlt hold
      go_wp2
      go_roundg (gk - 1)
      case measure => have := Hk.out; have := Hlt.out; omega
      case rel => exact ⟨k + 1, by have := Hk.out; have := Hlt.out; omega, by have := Hj.out; have := Hlt.out; congr 1; omega, by rw [Hnx.out]; congr 1, Hbe2.out, Hb2.out⟩
    · obtain rfl : k = 4 := by omega
      clear hk hlt
      go_wp2
      go_ret
      exact ⟨rfl, hbe, hbl⟩
/-- A reference's writer at block g. -/
structure RW (w : World) (base g : Nat) (v : Value) (bs : List Int) : Prop where
  blk : Blk w g 135 #[v]
  own : OwnB w base v bs
section
variable {w w' : World} {base g : Nat} {v : Value} {bs : List Int}
theorem RW.ne (h : RW w base g v bs) : v.ownBlock ≠ some g := h.own.ne_blk h.blk (by decide)
theorem RW.kp {S : Nat → Prop} (h : RW w base g v bs) (hk : Kp S w w') (hg : ¬ S g) (hv : ∀ b, v.ownBlock = some b → ¬ S b) : RW w' base g v bs := ⟨h.blk.kp hk hg, h.own.kp hk hv⟩
theorem RW.below (h : RW w base g v bs) (hb : Below w.heap.size w w') : RW w' base g v bs := ⟨h.blk.below hb h.blk.lt, h.own.below hb⟩
end
theorem rnewWriter_any (w : World) : Calls Try.prog 92 #[] w fun e w' => e = .returned (.pointer (some ⟨w.heap.size, 0, none⟩)) ∧ Below w.heap.size w w' ∧ w'.heap.size = w.heap.size + 1 ∧ RW w' w.heap.size w.heap.size (.slice none 0 0) [] := by
  go_enter Try.func92, Try.ntmps92
  go_wp2
  go_ret
  exact ⟨rfl, (Below.refl _ w).alloc (Nat.le_refl _) _, World.size_alloc _ _, Blk.new w 135 _, OwnB.nil _ _⟩
/-- What a step of such a writer leaves. -/
def RWrote (w : World) (base g : Nat) (v : Value) (bs : List Int) (w' : World) : Prop :=
  ∃ v', RW w' base g v' bs ∧ Kp (fun j => j = g ∨ v.ownBlock = some j) w w' ∧ (v'.ownBlock = v.ownBlock ∨ ∀ b, v'.ownBlock = some b → w.heap.size ≤ b)
set_option maxRecDepth 100000 in
set_option maxHeartbeats 4000000 in
theorem rraw_any (base g : Nat) (v : Value) (bs : List Int) (w : World) (A : Option Addr) (xs : List Int) (c : Nat) (hr : RW w base g v bs) (hbase : base ≤ w.heap.size) (hx : BytesAt w A xs) (h0 : 0 < xs.length) (hbig : bs.length + xs.length ≤ 140737488355328) :
    Calls Try.prog 94 #[.pointer (some ⟨g, 0, none⟩), .slice A xs.length c] w fun e w' => e = .returned (.tuple #[]) ∧ RWrote w base g v (bs ++ xs) w' := by
  obtain ⟨b, o, rfl, _, _⟩ := hx h0
  obtain ⟨Av, cv, rfl, hc1, hc2⟩ := hr.own.shape
  have q0 := hr.blk.cell 0
  simp at q0
  have Hr := Lib.hid hr
  have Hx := Lib.hid hx
  clear hr hx
  go_enter Try.func94, Try.ntmps94
  go_wp2_with (at_builtin; refine wpList_app5 rfl (.tmp 10) (.tmp 11) rfl (v := .slice Av bs.length cv) (xs := bs) (by simp [Act.eval]) Hr.out.own ⟨b, o, none⟩ xs.length c xs (by simp [Act.eval]) rfl Hx.out h0 hbig hbase ?_; rintro g2 cap w2 hown hgr hat hlt; have z2 := (hgr.cell_far ⟨g, 0, none⟩ (Hr.out.blk.lt) (fun e => Hr.out.ne e.symm)).trans q0; have f2' := (hgr.frozen_far ⟨g, 0, none⟩ (Hr.out.blk.lt) (fun e => Hr.out.ne e.symm)).trans (Hr.out.blk.frozen 0))
  go_end0
  have hk : Kp (fun j => (Value.slice Av bs.length cv).ownBlock = some j) w w2 := Kp.of_grown' hgr
  have hb := Hr.out.blk.kp hk Hr.out.ne
  refine ⟨rfl, .slice (some ⟨g2, 0, none⟩) (bs.length + xs.length) cap, ⟨by simpa using hb.set_ 0 (.slice (some ⟨g2, 0, none⟩) (bs.length + xs.length) cap), hown.kp (S := fun j => j = g) (Kp.set_ (fun j => j = g) w2 (p := ⟨g, 0, none⟩) rfl _) (fun b hb' e => hown.ne_blk hb (by decide) (by rw [hb', e]))⟩, (hk.mono (fun j hj => .inl (.inr hj))).trans (Kp.set_ (fun j => j = g) w2 (p := ⟨g, 0, none⟩) rfl _) (fun j hj => .inl (.inl hj)), ?_⟩
  rcases hat with h | h
  · exact .inl h.symm
  · refine .inr fun b hb => ?_
    injection hb with hb
    simp only at hb
    omega
theorem RWrote.after {w w1 w' : World} {base g : Nat} {v : Value} {bs : List Int} (hb : Below w.heap.size w w1) (h : RWrote w1 base g v bs w') : RWrote w base g v bs w' := by
  obtain ⟨v', h1, h2, h3⟩ := h
  have hs := hb.size
  exact ⟨v', h1, (Kp.of_below (S := fun j => j = g ∨ v.ownBlock = some j) hb).trans h2 (fun j hj => .inl hj), h3.imp id (fun h b e => Nat.le_trans hs (h b e))⟩
theorem rbyte_any (base g : Nat) (v : Value) (bs : List Int) (w : World) (x : Int) (hr : RW w base g v bs) (hbase : base ≤ w.heap.size) (hbig : bs.length + 1 ≤ 140737488355328) :
    Calls Try.prog 93 #[.pointer (some ⟨g, 0, none⟩), .int .u8 x] w fun e w' => e = .returned (.tuple #[]) ∧ RWrote w base g v (bs ++ [x]) w' := by
  have hb1 := (Below.refl w.heap.size w).alloc (Nat.le_refl _) (.cells #[.int .u8 x] 5)
  have hraw := rraw_any base g v bs (w.alloc (.cells #[.int .u8 x] 5)) (some ⟨w.heap.size, 0, none⟩) [x] 1 (hr.below hb1) (Nat.le_trans hbase hb1.size) (bytes_single (Blk.new w 5 #[.int .u8 x])) (by simp) (by simpa using hbig)
  have Hb1 := Lib.hid hb1
  clear hr hb1
  go_enter Try.func93, Try.ntmps93
  go_wp2_with (go_at_call 94; refine hraw.mono ?_; clear hraw; rintro e w' ⟨rfl, hw⟩)
  go_end0
  exact ⟨rfl, hw.after Hb1.out⟩
theorem rbytes_any (base g : Nat) (v : Value) (bs : List Int) (w : World) (hr : RW w base g v bs) (h0 : 0 < bs.length) (hbig : bs.length ≤ 140737488355328) :
    Calls Try.prog 96 #[.pointer (some ⟨g, 0, none⟩)] w fun e w' => ∃ v', e = .returned v' ∧ OwnB w' w.heap.size v' bs ∧ Below w.heap.size w w' := by
  have hb1 := (Below.refl w.heap.size w).alloc (Nat.le_refl _) (.cells #[] 5)
  have ho1 : OwnB (w.alloc (.cells #[] 5)) w.heap.size (.slice (some ⟨w.heap.size, 0, none⟩) 0 0) [] := OwnB.of_blk (bs := []) (Blk.new w 5 #[]) (Nat.le_refl _) rfl (Nat.zero_le _)
  have q0 := (hr.blk.below hb1 hr.blk.lt).cell 0
  simp only [List.getElem?_toArray, List.getElem?_cons_zero] at q0
  obtain ⟨A, c, rfl, h1, h2, hx, hA⟩ := (hr.own.below hb1).read
  obtain ⟨b, o, rfl, _, _⟩ := hx h0
  have Hx := Lib.hid hx
  have Ho1 := Lib.hid ho1
  have Hb1 := Lib.hid hb1
  have hs1 := hb1.size
  clear hr hx hA ho1 hb1
  go_enter Try.func96, Try.ntmps96
  go_wp2_with (at_builtin; refine wpList_app5 rfl _ _ rfl (v := .slice (some ⟨w.heap.size, 0, none⟩) 0 0) rfl Ho1.out ⟨b, o, none⟩ bs.length c bs (by simp [Act.eval]) rfl Hx.out h0 (by simpa using hbig) hs1 ?_; rintro g2 cap w1 hown hgr hat hlt)
  simp only [List.nil_append, List.length_nil, Nat.zero_add] at hown
  go_ret
  exact ⟨_, rfl, by simpa using hown, Hb1.out.grown hgr hs1 (fun j hj => by injection hj with hj; simp only at hj; omega)⟩
set_option maxRecDepth 100000 in
set_option maxHeartbeats 4000000 in
theorem ru32_any (base g : Nat) (v : Value) (bs : List Int) (w : World) (x : Nat) (hx : x < 4294967296) (hr : RW w base g v bs) (hbase : base ≤ w.heap.size) (hbig : bs.length + 4 ≤ 140737488355328) :
    Calls Try.prog 95 #[.pointer (some ⟨g, 0, none⟩), .int .u32 (x : Int)] w fun e w' => e = .returned (.tuple #[]) ∧ RWrote w base g v (bs ++ b4 (x : Int)) w' := by
  have hfx := fixed4_any x w hx
  have hxi : (x : Int) < 4294967296 := by omega
  have Hr := Lib.hid hr
  clear hr
  go_enter Try.func95, Try.ntmps95
  go_wp2_with (first
    | (go_at_call 89; refine hfx.mono ?_; clear hfx; rintro e w1 ⟨rfl, hb1, hk1⟩; have hraw := rraw_any base g v bs w1 (some ⟨w.heap.size, 0, none⟩) (b4 (x : Int)) 4 (Hr.out.below hb1) (Nat.le_trans hbase hb1.size) (bytes_of_blk hk1) (by simp [b4]) (by simpa [b4] using hbig))
    | (go_at_call 94; refine hraw.mono ?_; clear hraw; rintro e w' ⟨rfl, hw⟩))
  go_end0
  exact ⟨rfl, hw.after hb1⟩
end Go.Proofs.Ytkllgmhfjibajaa
