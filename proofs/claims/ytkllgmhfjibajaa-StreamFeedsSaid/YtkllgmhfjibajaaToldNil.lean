/- The walks of the law's told on no bytes, and of bent. Conditions: none. -/
import Derived.Test.YtkllgmhfjibajaaTold
namespace Go.Proofs.Ytkllgmhfjibajaa
open Go.RowKit St
/-- No bytes are fed. -/
theorem feed_empty (base g : Nat) (v : Value) (r : R) (w : World) (A : Option Addr) (c : Nat) (hr : RD w base g v r) :
    Calls Try.prog 21 #[.pointer (some ⟨g, 0, none⟩), .slice A 0 c] w fun e w' => e = .returned (.slice none 0 0) ∧ w' = w := by
  have q0 := hr.blk.cell 0
  simp at q0
  clear hr
  go_enter Try.func21, Try.ntmps21
  go_wp2
  go_loopg [1, 5] 0 (fun gg ch tv wx => ch = .slice A 0 c ∧ tv = .slice none 0 0 ∧ wx = w)
  case atStart => exact ⟨rfl, rfl, rfl⟩
  case round =>
    obtain ⟨rfl, rfl, rfl⟩ := hrel
    go_wp2
    go_ret
    exact ⟨rfl, rfl⟩
set_option maxRecDepth 100000 in
set_option maxHeartbeats 1600000 in
theorem told_nil (base g : Nat) (v : Value) (r : R) (w : World) (tv3 : Value) (B : Nat) (ts : List Int) (hr : RD w base g v r) (ht : OwnInts w B tv3 ts) (hto : ∀ j, tv3.ownBlock = some j → j ≠ g ∧ v.ownBlock ≠ some j) :
    Calls Try.prog 36 #[.pointer (some ⟨g, 0, none⟩), .slice none 0 0, tv3] w fun e w' => ∃ tv, e = .returned tv ∧ ∃ v' l, Told w base g v w' v' (feed r []).1 tv l (feed r []).2 := by
  have hg := hr.blk.lt
  obtain ⟨A3, c3, rfl, k1, k2, k3⟩ := ht.read (Nat.le_refl _)
  unfold maxLen at k2
  have Hr := Lib.hid hr
  have Ht := Lib.hid ht
  have Hto := Lib.hid hto
  have Hg := Lib.hid hg
  clear hr ht k3 hto hg
  obtain ⟨i0, hi, hz0, hz1, hz2⟩ := info57'
  go_enter Try.func36, Try.ntmps36
  go_wp2
  go_loopg [7, 8, 9] ts.length (fun gg tv fr i wx => ∃ q vk, gg + q = ts.length ∧ i = .int .i64 ((q : Nat) : Int) ∧ fr = .int .i64 0 ∧ tv = .slice none 0 0 ∧ Told w base g v wx vk r (.slice none 0 0) [] [])
  case atStart => exact ⟨0, v, by omega, rfl, rfl, rfl, Told.nothing Hr.out (Kp.refl _ _) (.inl rfl)⟩
  case round =>
    obtain ⟨q, vk, hq, rfl, rfl, rfl, hT⟩ := hrel
    have hf := fun A' c' => feed_empty base g vk r wr A' c' hT.rd
    have Hq := Lib.hid hq
    have HT := Lib.hid hT
    clear hq hT
    have hon : ∀ u : World, u.ownsRow w.heap.size 57 4 (.slice none 0 0) 0 ([] : List Value) := fun u => World.ownsRow_nil _ _ 57 4
    by_cases hlt : q < ts.length
    · have hqi : (q : Int) < ts.length := by omega
      have htw := Ht.out.keep (w' := wr) (fun j hj => HT.out.kp.block j (Ht.out.lt hj).2 (fun hS => hS.elim (Hto.out j hj).1 (Hto.out j hj).2))
      obtain ⟨A4, c4, e4, _, _, h4⟩ := htw.read (Nat.le_refl _)
      injection e4 with e4 _ e5
      subst e4 e5
      obtain ⟨b3, o3, x, e6, hb3, hxq, q0⟩ := h4.at_ hlt
      subst e6
      have hb3' := (Ht.out.lt (b := b3) rfl).2
      have hqw : w.cell? ⟨b3, o3 + q, none⟩ = some (.int .i64 x) := by
        rw [← q0]
        exact (World.cell?_of_block (a := ⟨b3, o3 + q, none⟩) (HT.out.kp.block b3 hb3' (fun hS => hS.elim (Hto.out b3 rfl).1 (Hto.out b3 rfl).2))).symm
      have Hqw := Lib.hid hqw
      clear htw h4 hxq hqw
      by_cases hx1 : (0 : Int) ≤ x
      · by_cases hx2 : x ≤ 0
        · obtain rfl : x = 0 := by omega
          go_upto_region 8 with (go_at_call 21; refine (hf _ _).mono ?_; clear hf; rintro e w2 ⟨rfl, rfl⟩)
          go_wp2_with (at_builtin; refine wpList_append_own_none rfl (.tmp 42) (.tmp 43) 24 rfl w.heap.size 57 i0 4 Try.underlying24 hi (.slice none 0 0) 0 [] (by simp [Act.eval]) (hon _) (by simp [Act.eval]) ?_)
          go_roundg (gk - 1)
          case measure => have := Hq.out; omega
          case rel => exact ⟨q + 1, vk, by have := Hq.out; omega, by go_num, rfl, rfl, HT.out⟩
        · go_wp2
          go_roundg (gk - 1)
          case measure => have := Hq.out; omega
          case rel => exact ⟨q + 1, vk, by have := Hq.out; omega, by go_num, rfl, rfl, HT.out⟩
      · go_wp2
        go_roundg (gk - 1)
        case measure => have := Hq.out; omega
        case rel => exact ⟨q + 1, vk, by have := Hq.out; omega, by go_num, rfl, rfl, HT.out⟩
    · have hqi : ¬ (q : Int) < ts.length := by omega
      go_upto_region 11 with (go_at_call 21; refine (hf _ _).mono ?_; clear hf; rintro e w2 ⟨rfl, rfl⟩)
      go_wp2_with (at_builtin; refine wpList_append_own_none rfl (.tmp 54) (.tmp 55) 24 rfl w.heap.size 57 i0 4 Try.underlying24 hi (.slice none 0 0) 0 [] (by simp [Act.eval]) (hon _) (by simp [Act.eval]) ?_)
      go_ret
      exact ⟨_, rfl, vk, [], HT.out⟩
set_option maxRecDepth 100000 in
set_option maxHeartbeats 1600000 in
theorem told_e0 (a : Addr) (base g : Nat) (v : Value) (r : R) (w : World) (tv3 : Value) (B : Nat) (ts : List Int) (hr : RD w base g v r) (ht : OwnInts w B tv3 ts) (hto : ∀ j, tv3.ownBlock = some j → j ≠ g ∧ v.ownBlock ≠ some j) :
    Calls Try.prog 36 #[.pointer (some ⟨g, 0, none⟩), .slice (some a) 0 0, tv3] w fun e w' => ∃ tv, e = .returned tv ∧ ∃ v' l, Told w base g v w' v' (feed r []).1 tv l (feed r []).2 := by
  have hg := hr.blk.lt
  obtain ⟨A3, c3, rfl, k1, k2, k3⟩ := ht.read (Nat.le_refl _)
  unfold maxLen at k2
  have Hr := Lib.hid hr
  have Ht := Lib.hid ht
  have Hto := Lib.hid hto
  have Hg := Lib.hid hg
  clear hr ht k3 hto hg
  obtain ⟨i0, hi, hz0, hz1, hz2⟩ := info57'
  go_enter Try.func36, Try.ntmps36
  go_wp2
  go_loopg [7, 8, 9] ts.length (fun gg tv fr i wx => ∃ q vk, gg + q = ts.length ∧ i = .int .i64 ((q : Nat) : Int) ∧ fr = .int .i64 0 ∧ tv = .slice none 0 0 ∧ Told w base g v wx vk r (.slice none 0 0) [] [])
  case atStart => exact ⟨0, v, by omega, rfl, rfl, rfl, Told.nothing Hr.out (Kp.refl _ _) (.inl rfl)⟩
  case round =>
    obtain ⟨q, vk, hq, rfl, rfl, rfl, hT⟩ := hrel
    have hf := fun A' c' => feed_empty base g vk r wr A' c' hT.rd
    have Hq := Lib.hid hq
    have HT := Lib.hid hT
    clear hq hT
    have hon : ∀ u : World, u.ownsRow w.heap.size 57 4 (.slice none 0 0) 0 ([] : List Value) := fun u => World.ownsRow_nil _ _ 57 4
    by_cases hlt : q < ts.length
    · have hqi : (q : Int) < ts.length := by omega
      have htw := Ht.out.keep (w' := wr) (fun j hj => HT.out.kp.block j (Ht.out.lt hj).2 (fun hS => hS.elim (Hto.out j hj).1 (Hto.out j hj).2))
      obtain ⟨A4, c4, e4, _, _, h4⟩ := htw.read (Nat.le_refl _)
      injection e4 with e4 _ e5
      subst e4 e5
      obtain ⟨b3, o3, x, e6, hb3, hxq, q0⟩ := h4.at_ hlt
      subst e6
      have hb3' := (Ht.out.lt (b := b3) rfl).2
      have hqw : w.cell? ⟨b3, o3 + q, none⟩ = some (.int .i64 x) := by
        rw [← q0]
        exact (World.cell?_of_block (a := ⟨b3, o3 + q, none⟩) (HT.out.kp.block b3 hb3' (fun hS => hS.elim (Hto.out b3 rfl).1 (Hto.out b3 rfl).2))).symm
      have Hqw := Lib.hid hqw
      clear htw h4 hxq hqw
      by_cases hx1 : (0 : Int) ≤ x
      · by_cases hx2 : x ≤ 0
        · obtain rfl : x = 0 := by omega
          go_upto_region 8 with (go_at_call 21; refine (hf _ _).mono ?_; clear hf; rintro e w2 ⟨rfl, rfl⟩)
          go_wp2_with (at_builtin; refine wpList_append_own_none rfl (.tmp 42) (.tmp 43) 24 rfl w.heap.size 57 i0 4 Try.underlying24 hi (.slice none 0 0) 0 [] (by simp [Act.eval]) (hon _) (by simp [Act.eval]) ?_)
          go_roundg (gk - 1)
          case measure => have := Hq.out; omega
          case rel => exact ⟨q + 1, vk, by have := Hq.out; omega, by go_num, rfl, rfl, HT.out⟩
        · go_wp2
          go_roundg (gk - 1)
          case measure => have := Hq.out; omega
          case rel => exact ⟨q + 1, vk, by have := Hq.out; omega, by go_num, rfl, rfl, HT.out⟩
      · go_wp2
        go_roundg (gk - 1)
        case measure => have := Hq.out; omega
        case rel => exact ⟨q + 1, vk, by have := Hq.out; omega, by go_num, rfl, rfl, HT.out⟩
    · have hqi : ¬ (q : Int) < ts.length := by omega
      go_upto_region 11 with (go_at_call 21; refine (hf _ _).mono ?_; clear hf; rintro e w2 ⟨rfl, rfl⟩)
      go_wp2_with (at_builtin; refine wpList_append_own_none rfl (.tmp 54) (.tmp 55) 24 rfl w.heap.size 57 i0 4 Try.underlying24 hi (.slice none 0 0) 0 [] (by simp [Act.eval]) (hon _) (by simp [Act.eval]) ?_)
      go_ret
      exact ⟨_, rfl, vk, [], HT.out⟩
set_option maxRecDepth 100000 in
set_option maxHeartbeats 1600000 in
theorem told_e1 (a : Addr) (c : Nat) (hc0 : 0 < c) (base g : Nat) (v : Value) (r : R) (w : World) (tv3 : Value) (B : Nat) (ts : List Int) (hr : RD w base g v r) (ht : OwnInts w B tv3 ts) (hto : ∀ j, tv3.ownBlock = some j → j ≠ g ∧ v.ownBlock ≠ some j) :
    Calls Try.prog 36 #[.pointer (some ⟨g, 0, none⟩), .slice (some a) 0 c, tv3] w fun e w' => ∃ tv, e = .returned tv ∧ ∃ v' l, Told w base g v w' v' (feed r []).1 tv l (feed r []).2 := by
  have hg := hr.blk.lt
  have hcn : ¬ c = 0 := by omega
  obtain ⟨A3, c3, rfl, k1, k2, k3⟩ := ht.read (Nat.le_refl _)
  unfold maxLen at k2
  have Hr := Lib.hid hr
  have Ht := Lib.hid ht
  have Hto := Lib.hid hto
  have Hg := Lib.hid hg
  clear hr ht k3 hto hg
  obtain ⟨i0, hi, hz0, hz1, hz2⟩ := info57'
  go_enter Try.func36, Try.ntmps36
  go_wp2
  go_loopg [7, 8, 9] ts.length (fun gg tv fr i wx => ∃ q vk, gg + q = ts.length ∧ i = .int .i64 ((q : Nat) : Int) ∧ fr = .int .i64 0 ∧ tv = .slice none 0 0 ∧ Told w base g v wx vk r (.slice none 0 0) [] [])
  case atStart => exact ⟨0, v, by omega, rfl, rfl, rfl, Told.nothing Hr.out (Kp.refl _ _) (.inl rfl)⟩
  case round =>
    obtain ⟨q, vk, hq, rfl, rfl, rfl, hT⟩ := hrel
    have hf := fun A' c' => feed_empty base g vk r wr A' c' hT.rd
    have Hq := Lib.hid hq
    have HT := Lib.hid hT
    clear hq hT
    have hon : ∀ u : World, u.ownsRow w.heap.size 57 4 (.slice none 0 0) 0 ([] : List Value) := fun u => World.ownsRow_nil _ _ 57 4
    by_cases hlt : q < ts.length
    · have hqi : (q : Int) < ts.length := by omega
      have htw := Ht.out.keep (w' := wr) (fun j hj => HT.out.kp.block j (Ht.out.lt hj).2 (fun hS => hS.elim (Hto.out j hj).1 (Hto.out j hj).2))
      obtain ⟨A4, c4, e4, _, _, h4⟩ := htw.read (Nat.le_refl _)
      injection e4 with e4 _ e5
      subst e4 e5
      obtain ⟨b3, o3, x, e6, hb3, hxq, q0⟩ := h4.at_ hlt
      subst e6
      have hb3' := (Ht.out.lt (b := b3) rfl).2
      have hqw : w.cell? ⟨b3, o3 + q, none⟩ = some (.int .i64 x) := by
        rw [← q0]
        exact (World.cell?_of_block (a := ⟨b3, o3 + q, none⟩) (HT.out.kp.block b3 hb3' (fun hS => hS.elim (Hto.out b3 rfl).1 (Hto.out b3 rfl).2))).symm
      have Hqw := Lib.hid hqw
      clear htw h4 hxq hqw
      by_cases hx1 : (0 : Int) ≤ x
      · by_cases hx2 : x ≤ 0
        · obtain rfl : x = 0 := by omega
          go_upto_region 8 with (go_at_call 21; refine (hf _ _).mono ?_; clear hf; rintro e w2 ⟨rfl, rfl⟩)
          go_wp2_with (at_builtin; refine wpList_append_own_none rfl (.tmp 42) (.tmp 43) 24 rfl w.heap.size 57 i0 4 Try.underlying24 hi (.slice none 0 0) 0 [] (by simp [Act.eval]) (hon _) (by simp [Act.eval]) ?_)
          go_roundg (gk - 1)
          case measure => have := Hq.out; omega
          case rel => exact ⟨q + 1, vk, by have := Hq.out; omega, by go_num, rfl, rfl, HT.out⟩
        · go_wp2
          go_roundg (gk - 1)
          case measure => have := Hq.out; omega
          case rel => exact ⟨q + 1, vk, by have := Hq.out; omega, by go_num, rfl, rfl, HT.out⟩
      · go_wp2
        go_roundg (gk - 1)
        case measure => have := Hq.out; omega
        case rel => exact ⟨q + 1, vk, by have := Hq.out; omega, by go_num, rfl, rfl, HT.out⟩
    · have hqi : ¬ (q : Int) < ts.length := by omega
      go_upto_region 11 with (go_at_call 21; refine (hf _ _).mono ?_; clear hf; rintro e w2 ⟨rfl, rfl⟩)
      go_wp2_with (at_builtin; refine wpList_append_own_none rfl (.tmp 54) (.tmp 55) 24 rfl w.heap.size 57 i0 4 Try.underlying24 hi (.slice none 0 0) 0 [] (by simp [Act.eval]) (hon _) (by simp [Act.eval]) ?_)
      go_ret
      exact ⟨_, rfl, vk, [], HT.out⟩
/-- Told, of whatever bytes come. -/
theorem told_gen (base g : Nat) (v : Value) (r : R) (w : World) (A : Option Addr) (bs : List Int) (c : Nat) (tv3 : Value) (B : Nat) (ts : List Int) (hr : RD w base g v r) (hok : Ok r) (hbase : base ≤ w.heap.size) (hc : bs.length ≤ c ∧ c ≤ maxLen) (hA : A = none → c = 0) (hbig : bs.length ≤ 2147483648) (hx : BytesAt w A bs)
    (hoff : 0 < bs.length → Away w g v A) (hby : Byt bs) (ht : OwnInts w B tv3 ts) (hto : ∀ j, tv3.ownBlock = some j → j ≠ g ∧ v.ownBlock ≠ some j) :
    Calls Try.prog 36 #[.pointer (some ⟨g, 0, none⟩), .slice A bs.length c, tv3] w fun e w' => ∃ tv, e = .returned tv ∧ ∃ v' l, Told w base g v w' v' (feed r bs).1 tv l (feed r bs).2 := by
  by_cases h0 : 0 < bs.length
  · obtain ⟨b, o, rfl, _, _⟩ := hx h0
    exact told_any base g v r w b o bs c tv3 B ts hr hok hbase hc hbig hx (hoff h0) hby ht hto
  · obtain rfl : bs = [] := List.eq_nil_of_length_eq_zero (by omega)
    cases A with
    | none =>
      obtain rfl := hA rfl
      exact told_nil base g v r w tv3 B ts hr ht hto
    | some a =>
      by_cases h : c = 0
      · subst h
        exact told_e0 a base g v r w tv3 B ts hr ht hto
      · exact told_e1 a c (by omega) base g v r w tv3 B ts hr ht hto
theorem split_empty (lim : Int) (A : Option Addr) (c : Nat) (w : World) (hlim : 64 ≤ lim ∧ lim ≤ 4096) :
    Calls Try.prog 12 #[.slice A 0 c, .int .i64 lim] w fun e w' => Below w.heap.size w w' ∧ e = .returned (.tuple #[.slice none 0 0, .int .i64 0]) := by
  have hn := new_good lim w hlim
  go_enter Try.func12, Try.ntmps12
  go_upto_region 4 with (go_at_call 20; refine hn.mono ?_; clear hn; rintro e w1 ⟨rfl, hb1, hr1⟩)
  have hf := feed_empty _ _ _ _ w1 A c hr1
  have hwt := waiting_any _ _ _ _ w1 hr1
  have e0 : ((fresh lim).buf.length : Int) = 0 := rfl
  rw [e0] at hwt
  have Hb1 := Lib.hid hb1
  clear hb1 hr1 e0
  go_wp2_with (first | (go_at_call 21; refine hf.mono ?_; rintro e w2 ⟨rfl, rfl⟩) | (go_at_call 23; refine hwt.mono ?_; rintro e w2 ⟨rfl, rfl⟩))
  go_ret2
  exact ⟨Hb1.out, rfl⟩
/-- Split, of whatever bytes come. -/
theorem split_gen (lim : Int) (A : Option Addr) (cs : List Int) (c : Nat) (w : World) (hlim : 64 ≤ lim ∧ lim ≤ 4096) (hc : cs.length ≤ c ∧ c ≤ maxLen) (hbig : cs.length ≤ 2147483648) (hx : BytesAt w A cs) (hby : Byt cs) :
    Calls Try.prog 12 #[.slice A cs.length c, .int .i64 lim] w fun e w' => Below w.heap.size w w' ∧ ∃ tv l, e = .returned (.tuple #[tv, .int .i64 (feed (fresh lim) cs).1.buf.length]) ∧ PL w' w.heap.size tv l ∧ l.map (·.1) = (feed (fresh lim) cs).2 := by
  by_cases h0 : 0 < cs.length
  · refine split_any lim A cs c w hlim hc hbig hx (fun a e => ?_) hby
    obtain ⟨b, o, e', hlt, _⟩ := hx h0
    rw [e'] at e
    injection e with e
    subst e
    exact hlt
  · obtain rfl : cs = [] := List.eq_nil_of_length_eq_zero (by omega)
    refine (split_empty lim A c w hlim).mono ?_
    rintro e w' ⟨hb, rfl⟩
    exact ⟨hb, _, [], rfl, PL.nil _ _, rfl⟩
def bentI (x : Int) : Int := 64 + (if Int.tmod x 4033 < 0 then Int.tmod x 4033 + 4033 else Int.tmod x 4033)
theorem bentI_range (x : Int) : 64 ≤ bentI x ∧ bentI x ≤ 4096 := by
  unfold bentI
  have h1 := Int.tmod_lt_of_pos x (b := 4033) (by decide)
  have h2 := Int.lt_tmod_of_pos x (b := 4033) (by decide)
  split <;> omega
theorem bent_any (x : Int) (w : World) : Calls Try.prog 34 #[.int .i64 x] w fun e w' => e = .returned (.int .i64 (bentI x)) ∧ w' = w := by
  have h1 := Int.tmod_lt_of_pos x (b := 4033) (by decide)
  have h2 := Int.lt_tmod_of_pos x (b := 4033) (by decide)
  go_enter Try.func34, Try.ntmps34
  go_upto_region 2 with fail
  have hb : bentI x = 64 + (if Int.tmod x 4033 < 0 then Int.tmod x 4033 + 4033 else Int.tmod x 4033) := rfl
  generalize Int.tmod x 4033 = y at *
  have Hb := Lib.hid hb
  clear hb
  by_cases hy : y < 0
  · have e1 : bentI x = 64 + (y + 4096 - 64 + 1) := by rw [Hb.out, if_pos hy]; omega
    have E1 := Lib.hid e1
    clear e1 Hb
    go_wp2
    go_ret
    rw [E1.out]
    exact ⟨rfl, rfl⟩
  · have e1 : bentI x = 64 + y := by rw [Hb.out, if_neg hy]
    have E1 := Lib.hid e1
    clear e1 Hb
    go_wp2
    go_ret
    rw [E1.out]
    exact ⟨rfl, rfl⟩
end Go.Proofs.Ytkllgmhfjibajaa
