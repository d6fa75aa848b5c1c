/- The walks of octet's reader: NewReader, Rest, take, fixed, U32, Raw, where the bytes suffice. Conditions: the bytes are readable. -/
import Derived.Test.YtkllgmhfjibajaaBytes
namespace Go.Proofs.Ytkllgmhfjibajaa
open Go.RowKit

/-- A value of bytes that is a slice of its list. -/
theorem OwnB.shape {w : World} {base : Nat} {v : Value} {xs : List Int} (h : OwnB w base v xs) : ∃ A c, v = .slice A xs.length c ∧ xs.length ≤ c ∧ c ≤ maxLen := by
  obtain ⟨A, c, h1, h2, h3, _⟩ := h.read
  exact ⟨A, c, h1, h2, h3⟩
section
variable {w : World}
theorem bytes_one (xs : List Int) : ∀ u ∈ xs.map (Value.int .u8), u.oneCell' = true := by
  intro u hu
  obtain ⟨x, _, rfl⟩ := List.mem_map.1 hu
  rfl
theorem own_app {w' : World} {base n : Nat} {v' : Value} {xs news : List Int} (hn : n = xs.length + news.length) (h : w'.ownsRow base 5 1 v' n (xs.map (Value.int .u8) ++ news.map (Value.int .u8))) : OwnB w' base v' (xs ++ news) := by
  subst hn
  show w'.ownsRow base 5 1 v' _ _
  rw [List.length_append, List.map_append]
  exact h
/-- An append of bytes to bytes that are owned. -/
theorem wpList_app5 {ops : Array Oper} {rest : List Oper} {o : Oper} {a : Act} {Q : Exit → Act → World → Prop} (hgd : o.guard = none) (s x : Operand)
    (ho : o.op = .call { callee := .builtin .append, args := #[s, x], argTypes := #[22, 22] })
    {base : Nat} {v : Value} {xs : List Int} (hs : a.eval s = v) (hown : OwnB w base v xs)
    (ad : Addr) (m c : Nat) (news : List Int) (hx : a.eval x = .slice (some ad) m c) (hm : m = news.length) (hnews : BytesAt w (some ad) news) (h0 : 0 < m) (hlen : xs.length + m ≤ 140737488355328) (hbase : base ≤ w.heap.size)
    (h : ∀ g cap w', OwnB w' base (.slice (some ⟨g, 0, none⟩) (xs.length + m) cap) (xs ++ news) → w.grownBy w' v.ownBlock → (v.ownBlock = some g ∨ g = w.heap.size) → g < w'.heap.size →
      wpList Try.prog ops Q rest (a.put o.dst (.slice (some ⟨g, 0, none⟩) (xs.length + m) cap)) w') : wpList Try.prog ops Q (o :: rest) a w := by
  obtain ⟨i0, hi, hz0, hz1, hz2⟩ : ∃ i, Try.prog.info? 5 = some i ∧ i.zero = some (.int .u8 0) ∧ i.size = 1 ∧ i.bytes = 1 := by
    have h := info5
    cases hh : Try.prog.info? 5 with
    | none => rw [hh] at h; cases h
    | some i => rw [hh] at h; simp at h; exact ⟨i, rfl, h⟩
  refine wpList_append_lies w hgd s x 22 ho base 5 i0 (.int .u8 0) 1 1 Try.underlying22 hi hz0 hz1 hz2 rfl (by decide) v xs.length (xs.map (Value.int .u8)) hs hown ad m c (news.map (Value.int .u8)) hx (by simp [hm]) hnews.news (bytes_one _) h0 (by unfold maxLen; omega) (by omega) hbase w.heap.size rfl fun g cap w' h1 h2 h3 h4 => ?_
  exact h g cap w' (own_app (by omega) h1) h2 h3 h4
theorem step_app5 {ops : Array Oper} {o : Oper} {a : Act} {K : Act → World → Prop} {Q : Exit → Act → World → Prop} {E : Prop} (hgd : o.guard = none) (s x : Operand)
    (ho : o.op = .call { callee := .builtin .append, args := #[s, x], argTypes := #[22, 22] })
    {base : Nat} {v : Value} {xs : List Int} (hs : a.eval s = v) (hown : OwnB w base v xs)
    (ad : Addr) (m c : Nat) (news : List Int) (hx : a.eval x = .slice (some ad) m c) (hm : m = news.length) (hnews : BytesAt w (some ad) news) (h0 : 0 < m) (hlen : xs.length + m ≤ 140737488355328) (hbase : base ≤ w.heap.size)
    (h : ∀ g cap w', OwnB w' base (.slice (some ⟨g, 0, none⟩) (xs.length + m) cap) (xs ++ news) → w.grownBy w' v.ownBlock → (v.ownBlock = some g ∨ g = w.heap.size) → g < w'.heap.size →
      K (a.put o.dst (.slice (some ⟨g, 0, none⟩) (xs.length + m) cap)) w') : if Region.wanted o (yielded ops a.tmps) = true then Oper.wp Try.prog o a w K Q else E := by
  obtain ⟨i0, hi, hz0, hz1, hz2⟩ : ∃ i, Try.prog.info? 5 = some i ∧ i.zero = some (.int .u8 0) ∧ i.size = 1 ∧ i.bytes = 1 := by
    have h := info5
    cases hh : Try.prog.info? 5 with
    | none => rw [hh] at h; cases h
    | some i => rw [hh] at h; simp at h; exact ⟨i, rfl, h⟩
  refine step_append_lies w hgd s x 22 ho base 5 i0 (.int .u8 0) 1 1 Try.underlying22 hi hz0 hz1 hz2 rfl (by decide) v xs.length (xs.map (Value.int .u8)) hs hown ad m c (news.map (Value.int .u8)) hx (by simp [hm]) hnews.news (bytes_one _) h0 (by unfold maxLen; omega) (by omega) hbase w.heap.size rfl fun g cap w' h1 h2 h3 h4 => ?_
  exact h g cap w' (own_app (by omega) h1) h2 h3 h4
end
theorem Kp.of_grown' {w w1 : World} {v : Value} (h : w.grownBy w1 v.ownBlock) : Kp (fun j => v.ownBlock = some j) w w1 := Kp.of_grown h
/-- octet's reader at block g: its bytes, its place. -/
def RdAt (w : World) (g : Nat) (v : Value) (at_ : Nat) : Prop := Blk w g 124 #[v, .int .i64 (at_ : Nat), .bool false, .int .i64 0, .int .i64 0]
set_option maxRecDepth 100000 in
set_option maxHeartbeats 4000000 in
theorem newReader_any (A : Option Addr) (xs : List Int) (c : Nat) (w : World) (hc : xs.length ≤ c ∧ c ≤ maxLen) (hbig : xs.length ≤ 140737488355328) (hx : BytesAt w A xs) (h0 : 0 < xs.length) :
    Calls Try.prog 77 #[.slice A xs.length c] w fun e w' => Below w.heap.size w w' ∧ ∃ v g, e = .returned (.pointer (some ⟨g, 0, none⟩)) ∧ RdAt w' g v 0 ∧ OwnB w' w.heap.size v xs ∧ v.ownBlock ≠ some g ∧ w.heap.size ≤ g := by
  have hcm := hc.2
  unfold maxLen at hcm
  have hlc := hc.1
  obtain ⟨b, o, rfl, hbl, _⟩ := hx h0
  have Hx := Lib.hid hx
  have H0 := Lib.hid h0
  clear hx h0
  go_enter Try.func77, Try.ntmps77
  go_wp2_with (at_builtin; refine wpList_app5 rfl _ _ rfl (v := .slice none 0 0) rfl (OwnB.nil _ w.heap.size) ⟨b, o, none⟩ xs.length c xs rfl rfl Hx.out H0.out (by simp; omega) (Nat.le_refl _) ?_; rintro g cap w1 hown hgr hat hlt)
  simp only [List.nil_append, List.length_nil, Nat.zero_add] at hown
  have hs := hgr.size
  go_ret
  refine ⟨(Below.refl _ _).grown hgr (Nat.le_refl _) (fun j hj => by cases hj) |>.alloc hs _, _, _, rfl, Blk.new _ _ _, hown.below ((Below.refl _ _).alloc (Nat.le_refl _) _), ?_, hs⟩
  simp [Value.ownBlock]
  omega
set_option maxRecDepth 100000 in
set_option maxHeartbeats 4000000 in
theorem rest_any (g : Nat) (v : Value) (at_ : Nat) (bs : List Int) (base : Nat) (w : World) (hr : RdAt w g v at_) (hv : OwnB w base v bs) (hle : at_ ≤ bs.length) :
    Calls Try.prog 101 #[.pointer (some ⟨g, 0, none⟩)] w fun e w' => e = .returned (.int .i64 ((bs.length - at_ : Nat) : Int)) ∧ ∃ n, w.drewN n = w' := by
  obtain ⟨A, c, rfl, hc1, hc2⟩ := hv.shape
  unfold maxLen at hc2
  have c0 := hr.cell 0
  have c1 := hr.cell 1
  simp at c0 c1
  clear hr hv
  go_enter Try.func101, Try.ntmps101
  go_upto_region 3 with fail
  go_quiet (fail)
  go_wp2
  go_ret
  refine ⟨?_, _, rfl⟩
  go_num
set_option maxRecDepth 100000 in
set_option maxHeartbeats 4000000 in
theorem take_any (g : Nat) (v : Value) (at_ n : Nat) (bs : List Int) (base : Nat) (w : World) (hr : RdAt w g v at_) (hv : OwnB w base v bs) (hle : at_ + n ≤ bs.length) (h0 : 0 < n) (hne : v.ownBlock ≠ some g) :
    Calls Try.prog 98 #[.pointer (some ⟨g, 0, none⟩), .int .i64 (n : Nat)] w fun e w' => Kp (fun j => j = g) w w' ∧ RdAt w' g v (at_ + n) ∧
      ∃ A c, e = .returned (.slice A n c) ∧ n ≤ c ∧ c ≤ maxLen ∧ BytesAt w' A ((bs.drop at_).take n) ∧ (∀ a, A = some a → v.ownBlock = some a.block) := by
  have hrest := rest_any g v at_ bs base w hr hv (by omega)
  obtain ⟨A, c, rfl, hc1, hc2⟩ := hv.shape
  obtain ⟨b, cap, hvs, hb1, hb2⟩ := hv.form (by omega)
  unfold maxLen at hc2
  have c0 := hr.cell 0
  have c1 := hr.cell 1
  have c2 := hr.cell 2
  simp at c0 c1 c2
  have hfz := Blk.frozen hr 1
  have hn0 : ¬ (n : Int) < 0 := by omega
  have hnr : ¬ (n : Int) > ((bs.length - at_ : Nat) : Int) := by omega
  have Hr := Lib.hid hr
  have Hv := Lib.hid hv
  clear hr hv
  go_enter Try.func98, Try.ntmps98
  go_upto_region 9 with (go_at_call 101; refine hrest.mono ?_; rintro e w1 ⟨rfl, n1, rfl⟩)
  go_cut [] (fun wx => wx = (w.drewN n1).setCell ⟨g, 1, none⟩ (.int .i64 ((at_ + n : Nat) : Int)))
  case first =>
    go_wp2
    go_meet
    case rel => rw [Int.natCast_add]
  case rest =>
    subst hcut
    have hsub : ((at_ + n : Nat) : Int) - (n : Nat) = (at_ : Nat) := by omega
    go_upto_region 10 with fail
    go_quiet (fail)
    go_wp2
    go_ret
    have hk : Kp (fun j => j = g) w (((w.drewN n1).setCell ⟨g, 1, none⟩ (.int .i64 ((at_ + n : Nat) : Int))).drewN nq) :=
      ((Kp.drewN _ _ _).trans (Kp.set_ (fun j => j = g) _ (p := ⟨g, 1, none⟩) rfl _) (fun j hj => .inl hj)).trans (Kp.drewN (fun j => j = g) _ _) (fun j hj => .inl hj)
    refine ⟨hk, ?_, some ⟨b, at_, none⟩, c - at_, ?_, by omega, by unfold maxLen; omega, fun _ => ⟨b, at_, rfl, Nat.lt_of_lt_of_le hb2 hk.size, fun i x hx => ?_⟩, fun a e => by injection e with e; subst e; rfl⟩
    · have := (Blk.drewN Hr.out n1).set_ 1 (.int .i64 ((at_ + n : Nat) : Int))
      exact this.drewN nq
    · exact congrArg (fun m => Ending.returned (.slice (some ⟨b, at_, none⟩) m (c - at_))) (show at_ + n - at_ = n by omega)
    · rw [List.getElem?_take] at hx
      split at hx
      · rw [List.getElem?_drop] at hx
        obtain ⟨A', c', e1, _, _, h3, _⟩ := (Hv.out.kp hk (fun b' hb' e => hne (by rw [hb', e]))).read
        obtain ⟨b', o', e4, _, h5⟩ := h3 (by omega)
        injection e1 with e1 _ _
        rw [← e1] at e4
        injection e4 with e4
        injection e4 with e4 e5 _
        subst e4 e5
        have := h5 (at_ + i) x hx
        rwa [Nat.zero_add] at this
      · cases hx
/-- A number of bytes, the highest first. -/
def shl8 (v c : Int) : Int := bits .or .u64 (IntKind.wrap .u64 (v * 256)) c
def be (xs : List Int) : Int := xs.foldl shl8 0
set_option maxRecDepth 100000 in
set_option maxHeartbeats 4000000 in
theorem fixed_any (g : Nat) (v : Value) (at_ n : Nat) (bs : List Int) (base : Nat) (w : World) (hr : RdAt w g v at_) (hv : OwnB w base v bs) (hle : at_ + n ≤ bs.length) (h0 : 0 < n) (hne : v.ownBlock ≠ some g) (hby : Byt bs) :
    Calls Try.prog 87 #[.pointer (some ⟨g, 0, none⟩), .int .i64 (n : Nat)] w fun e w' => Kp (fun j => j = g) w w' ∧ RdAt w' g v (at_ + n) ∧
      e = .returned (.int .u64 (be ((bs.drop at_).take n))) := by
  have ht := take_any g v at_ n bs base w hr hv hle h0 hne
  obtain ⟨ys, hys⟩ : ∃ ys, ys = (bs.drop at_).take n := ⟨_, rfl⟩
  have hyl : ys.length = n := by rw [hys, List.length_take, List.length_drop]; omega
  have hyb : Byt ys := fun x hx => hby x (List.mem_of_mem_drop (List.mem_of_mem_take (hys ▸ hx)))
  rw [← hys] at ht ⊢
  clear hr hv hys hle
  subst hyl
  go_enter Try.func87, Try.ntmps87
  go_wp2_with (go_at_call 98; refine ht.mono ?_; rintro e w1 ⟨hk, hr1, A, c, rfl, hc1, hc2, hx, _⟩)
  clear ht
  unfold maxLen at hc2
  go_loopg [5, 12] ys.length (fun gg x i wx => ∃ k : Nat, gg + k = ys.length ∧ i = .int .i64 (k : Nat) ∧ x = .int .u64 (be (ys.take k)) ∧ w1 = wx)
  case atStart => exact ⟨0, by omega, rfl, rfl, rfl⟩
  case round =>
    obtain ⟨k, hkk, rfl, rfl, rfl⟩ := hrel
    have Hk := Lib.hid hkk
    by_cases hkl : k < ys.length
    · have hki : (k : Int) < ys.length := by omega
      obtain ⟨b, o, x, rfl, hbl, hxk, q0⟩ := hx.at_ hkl
      have hxr := hyb x (List.mem_of_getElem? hxk)
      have hxr0 : ¬ x < 0 := by omega
      have hxr1 := hxr.2
      have hnext : be (ys.take (k + 1)) = shl8 (be (ys.take k)) x := by
        unfold be
        rw [List.take_add_one, hxk, List.foldl_append]
        rfl
      have Hn := Lib.hid hnext
      obtain ⟨y, hy⟩ : ∃ y, y = be (ys.take k) := ⟨_, rfl⟩
      rw [← hy] at Hn ⊢
      clear hnext hxk hkk hy hxr
      go_wp2
      go_roundg (gk - 1)
      case measure => have := Hk.out; omega
      case rel => exact ⟨k + 1, by have := Hk.out; omega, by go_num, by rw [Hn.out]; rfl, rfl⟩
    · have hki : ¬ (k : Int) < ys.length := by omega
      obtain rfl : k = ys.length := by omega
      rw [List.take_length]
      obtain ⟨y, hy⟩ : ∃ y, y = be ys := ⟨_, rfl⟩
      rw [← hy]
      have Hy := Lib.hid hy
      clear hy
      go_wp2
      go_ret
      exact ⟨hk, hr1, by rw [← Hy.out]; rfl⟩
set_option maxRecDepth 100000 in
set_option maxHeartbeats 4000000 in
theorem rU32_any (g : Nat) (v : Value) (at_ : Nat) (bs : List Int) (base : Nat) (w : World) (hr : RdAt w g v at_) (hv : OwnB w base v bs) (hle : at_ + 4 ≤ bs.length) (hne : v.ownBlock ≠ some g) (hby : Byt bs) :
    Calls Try.prog 78 #[.pointer (some ⟨g, 0, none⟩)] w fun e w' => Kp (fun j => j = g) w w' ∧ RdAt w' g v (at_ + 4) ∧
      e = .returned (.int .u32 (IntKind.wrap .u32 (be ((bs.drop at_).take 4)))) := by
  have ht := fixed_any g v at_ 4 bs base w hr hv hle (by omega) hne hby
  obtain ⟨y, hy⟩ : ∃ y, y = be ((bs.drop at_).take 4) := ⟨_, rfl⟩
  rw [← hy] at ht ⊢
  clear hy hr hv
  go_enter Try.func78, Try.ntmps78
  go_wp2_with (go_at_call 87; refine ht.mono ?_; rintro e w1 ⟨hk, hr1, rfl⟩)
  go_ret
  exact ⟨hk, hr1, rfl⟩
set_option maxRecDepth 100000 in
set_option maxHeartbeats 4000000 in
theorem rRaw_any (g : Nat) (v : Value) (at_ n : Nat) (bs : List Int) (base : Nat) (w : World) (hr : RdAt w g v at_) (hv : OwnB w base v bs) (hle : at_ + n ≤ bs.length) (h0 : 0 < n) (hne : v.ownBlock ≠ some g) (hbig : n ≤ 140737488355328) :
    Calls Try.prog 88 #[.pointer (some ⟨g, 0, none⟩), .int .i64 (n : Nat)] w fun e w' => Kp (fun j => j = g) w w' ∧ ∃ u, OwnB w' w.heap.size u ((bs.drop at_).take n) ∧ e = .returned u := by
  have ht := take_any g v at_ n bs base w hr hv hle h0 hne
  obtain ⟨ys, hys⟩ : ∃ ys, ys = (bs.drop at_).take n := ⟨_, rfl⟩
  have hyl : ys.length = n := by rw [hys, List.length_take, List.length_drop]; omega
  rw [← hys] at ht ⊢
  clear hr hv hys hle
  subst hyl
  go_enter Try.func88, Try.ntmps88
  go_wp2_with (first
    | (go_at_call 98; refine ht.mono ?_; clear ht; rintro e w1 ⟨hk, hr1, A, c, rfl, hc1, hc2, hx, _⟩; obtain ⟨b, o, rfl, hbl, _⟩ := hx h0)
    | (at_builtin; refine wpList_app5 rfl _ _ rfl (v := .slice none 0 0) rfl (OwnB.nil _ w1.heap.size) ⟨b, o, none⟩ ys.length c ys rfl rfl hx h0 (by simp; omega) (Nat.le_refl _) ?_; rintro g' cap w2 hown hgr hat hlt))
  simp only [List.nil_append, List.length_nil, Nat.zero_add] at hown
  go_ret
  exact ⟨hk.trans (Kp.of_grown' hgr) (fun j hj => by cases hj), _, hown.mono hk.size, rfl⟩
end Go.Proofs.Ytkllgmhfjibajaa
