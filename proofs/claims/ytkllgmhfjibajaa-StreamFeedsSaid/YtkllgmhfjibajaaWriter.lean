/- The walks of octet's Writer and of wire's Frame. Conditions: none. -/
import Derived.Test.YtkllgmhfjibajaaSmall
namespace Go.Proofs.Ytkllgmhfjibajaa
open Go.RowKit St
/-- A writer at block g. -/
structure WR (w : World) (base g : Nat) (v : Value) (bs : List Int) : Prop where
  blk : Blk w g 93 #[v]
  own : OwnB w base v bs
section
variable {w w' : World} {base g : Nat} {v : Value} {bs : List Int}
theorem WR.ne (h : WR w base g v bs) : v.ownBlock ≠ some g := h.own.ne_blk h.blk (by decide)
theorem WR.kp {S : Nat → Prop} (h : WR w base g v bs) (hk : Kp S w w') (hg : ¬ S g) (hv : ∀ b, v.ownBlock = some b → ¬ S b) : WR w' base g v bs := ⟨h.blk.kp hk hg, h.own.kp hk hv⟩
theorem WR.below (h : WR w base g v bs) (hb : Below w.heap.size w w') : WR w' base g v bs := ⟨h.blk.below hb h.blk.lt, h.own.below hb⟩
end
theorem newWriter_any (w : World) : Calls Try.prog 45 #[] w fun e w' => e = .returned (.pointer (some ⟨w.heap.size, 0, none⟩)) ∧ Below w.heap.size w w' ∧ w'.heap.size = w.heap.size + 1 ∧ WR w' w.heap.size w.heap.size (.slice none 0 0) [] := by
  go_enter Try.func45, Try.ntmps45
  go_wp2
  go_ret
  exact ⟨rfl, (Below.refl _ w).alloc (Nat.le_refl _) _, World.size_alloc _ _, Blk.new w 93 _, OwnB.nil _ _⟩
/-- What a writer's step leaves. -/
def Wrote (w : World) (base g : Nat) (v : Value) (bs : List Int) (w' : World) : Prop :=
  ∃ v', WR w' base g v' bs ∧ Kp (fun j => j = g ∨ v.ownBlock = some j) w w' ∧ (v'.ownBlock = v.ownBlock ∨ ∀ b, v'.ownBlock = some b → w.heap.size ≤ b)
set_option maxRecDepth 100000 in
set_option maxHeartbeats 4000000 in
theorem raw_any (base g : Nat) (v : Value) (bs : List Int) (w : World) (A : Option Addr) (xs : List Int) (c : Nat) (hr : WR w base g v bs) (hbase : base ≤ w.heap.size) (hx : BytesAt w A xs) (h0 : 0 < xs.length) (hbig : bs.length + xs.length ≤ 140737488355328) :
    Calls Try.prog 48 #[.pointer (some ⟨g, 0, none⟩), .slice A xs.length c] w fun e w' => e = .returned (.tuple #[]) ∧ Wrote w base g v (bs ++ xs) w' := by
  obtain ⟨b, o, rfl, _, _⟩ := hx h0
  obtain ⟨Av, cv, rfl, hc1, hc2⟩ := hr.own.shape
  have q0 := hr.blk.cell 0
  simp at q0
  have Hr := Lib.hid hr
  have Hx := Lib.hid hx
  clear hr hx
  go_enter Try.func48, Try.ntmps48
  go_wp2_with (at_builtin; refine wpList_app5 rfl (.tmp 10) (.tmp 11) rfl (v := .slice Av bs.length cv) (xs := bs) (by simp [Act.eval]) Hr.out.own ⟨b, o, none⟩ xs.length c xs (by simp [Act.eval]) rfl Hx.out h0 hbig hbase ?_; rintro g2 cap w2 hown hgr hat hlt; have z2 := (hgr.cell_far ⟨g, 0, none⟩ (Hr.out.blk.lt) (fun e => Hr.out.ne e.symm)).trans q0; have f2' := (hgr.frozen_far ⟨g, 0, none⟩ (Hr.out.blk.lt) (fun e => Hr.out.ne e.symm)).trans (Hr.out.blk.frozen 0))
  go_end0
  have hk : Kp (fun j => (Value.slice Av bs.length cv).ownBlock = some j) w w2 := Kp.of_grown' hgr
  have hb := Hr.out.blk.kp hk Hr.out.ne
  refine ⟨rfl, .slice (some ⟨g2, 0, none⟩) (bs.length + xs.length) cap, ⟨by simpa using hb.set_ 0 (.slice (some ⟨g2, 0, none⟩) (bs.length + xs.length) cap), hown.kp (S := fun j => j = g) (Kp.set_ (fun j => j = g) w2 (p := ⟨g, 0, none⟩) rfl _) (fun b hb' e => hown.ne_blk hb (by decide) (by rw [hb', e]))⟩, (hk.mono (fun j hj => .inl (.inr hj))).trans (Kp.set_ (fun j => j = g) w2 (p := ⟨g, 0, none⟩) rfl _) (fun j hj => .inl (.inl hj)), ?_⟩
  rcases hat with h | h
  · exact .inl h.symm
  · refine .inr fun b hb => ?_
    injection hb with hb
    simp only at hb
    omega
theorem Wrote.after {w w1 w' : World} {base g : Nat} {v : Value} {bs : List Int} (hb : Below w.heap.size w w1) (h : Wrote w1 base g v bs w') : Wrote w base g v bs w' := by
  obtain ⟨v', h1, h2, h3⟩ := h
  have hs := hb.size
  exact ⟨v', h1, (Kp.of_below (S := fun j => j = g ∨ v.ownBlock = some j) hb).trans h2 (fun j hj => .inl hj), h3.imp id (fun h b e => Nat.le_trans hs (h b e))⟩
theorem byte_any (base g : Nat) (v : Value) (bs : List Int) (w : World) (x : Int) (hr : WR w base g v bs) (hbase : base ≤ w.heap.size) (hbig : bs.length + 1 ≤ 140737488355328) :
    Calls Try.prog 47 #[.pointer (some ⟨g, 0, none⟩), .int .u8 x] w fun e w' => e = .returned (.tuple #[]) ∧ Wrote w base g v (bs ++ [x]) w' := by
  have hb1 := (Below.refl w.heap.size w).alloc (Nat.le_refl _) (.cells #[.int .u8 x] 5)
  have hraw := raw_any base g v bs (w.alloc (.cells #[.int .u8 x] 5)) (some ⟨w.heap.size, 0, none⟩) [x] 1 (hr.below hb1) (Nat.le_trans hbase hb1.size) (bytes_single (Blk.new w 5 #[.int .u8 x])) (by simp) (by simpa using hbig)
  have Hb1 := Lib.hid hb1
  clear hr hb1
  go_enter Try.func47, Try.ntmps47
  go_wp2_with (go_at_call 48; refine hraw.mono ?_; clear hraw; rintro e w' ⟨rfl, hw⟩)
  go_end0
  exact ⟨rfl, hw.after Hb1.out⟩
theorem bytes_any (base g : Nat) (v : Value) (bs : List Int) (w : World) (hr : WR w base g v bs) (h0 : 0 < bs.length) (hbig : bs.length ≤ 140737488355328) :
    Calls Try.prog 49 #[.pointer (some ⟨g, 0, none⟩)] w fun e w' => ∃ v', e = .returned v' ∧ OwnB w' w.heap.size v' bs ∧ Below w.heap.size w w' := by
  have q0 := hr.blk.cell 0
  simp at q0
  obtain ⟨A, c, rfl, h1, h2, hx, hA⟩ := hr.own.read
  obtain ⟨b, o, rfl, _, _⟩ := hx h0
  have Hx := Lib.hid hx
  clear hr hx hA
  go_enter Try.func49, Try.ntmps49
  go_wp2_with (at_builtin; refine wpList_app5 rfl _ _ rfl (v := .slice none 0 0) rfl (OwnB.nil _ w.heap.size) ⟨b, o, none⟩ bs.length c bs (by simp [Act.eval]) rfl Hx.out h0 (by simpa using hbig) (Nat.le_refl _) ?_; rintro g2 cap w1 hown hgr hat hlt)
  simp only [List.nil_append, List.length_nil, Nat.zero_add] at hown
  go_ret
  exact ⟨_, rfl, by simpa using hown, (Below.refl _ _).grown hgr (Nat.le_refl _) (fun j hj => by cases hj)⟩
/-- Four bytes, the highest first. -/
def b4 (x : Int) : List Int := [x / 16777216 % 256, x / 65536 % 256, x / 256 % 256, x % 256]
theorem bytes_of_blk {w : World} {b : Nat} {t : TypeId} {xs : List Int} (h : Blk w b t (xs.map (Value.int .u8)).toArray) : BytesAt w (some ⟨b, 0, none⟩) xs := fun _ => ⟨b, 0, rfl, h.lt, fun i x hx => by
  rw [h.cell, Nat.zero_add]
  simp [hx]⟩
set_option maxRecDepth 100000 in
set_option maxHeartbeats 4000000 in
theorem u32_any (base g : Nat) (v : Value) (bs : List Int) (w : World) (x : Int) (hr : WR w base g v bs) (hbase : base ≤ w.heap.size) (hbig : bs.length + 4 ≤ 140737488355328) :
    Calls Try.prog 46 #[.pointer (some ⟨g, 0, none⟩), .int .u32 x] w fun e w' => e = .returned (.tuple #[]) ∧ Wrote w base g v (bs ++ b4 x) w' := by
  have hb1 := (Below.refl w.heap.size w).alloc (Nat.le_refl _) (.cells #[.int .u8 (x / 16777216 % 256), .int .u8 (x / 65536 % 256), .int .u8 (x / 256 % 256), .int .u8 (x % 256)] 5)
  have hraw := raw_any base g v bs _ (some ⟨w.heap.size, 0, none⟩) (b4 x) 4 (hr.below hb1) (Nat.le_trans hbase hb1.size) (bytes_of_blk (Blk.new w 5 ((b4 x).map (Value.int .u8)).toArray)) (by simp [b4]) (by simpa [b4] using hbig)
  have Hb1 := Lib.hid hb1
  clear hr hb1
  go_enter Try.func46, Try.ntmps46
  go_wp2_with (go_at_call 48; refine hraw.mono ?_; clear hraw; rintro e w' ⟨rfl, hw⟩)
  go_end0
  exact ⟨rfl, hw.after Hb1.out⟩
/-- A frame of a body. -/
def frameOf (cs : List Int) : List Int := [197] ++ b4 (cs.length : Int) ++ b4 (extP (extP 0 (b4 (cs.length : Int))) cs) ++ cs
theorem b4_byt (x : Int) : Byt (b4 x) := fun y hy => by
  simp only [b4, List.mem_cons, List.not_mem_nil, or_false] at hy
  rcases hy with rfl | rfl | rfl | rfl <;> omega
theorem frameOf_len (cs : List Int) : (frameOf cs).length = cs.length + 9 := by
  simp [frameOf, b4]
theorem frameOf_byt {cs : List Int} (h : Byt cs) : Byt (frameOf cs) := by
  unfold frameOf
  exact byt_app (byt_app (byt_app (fun y hy => by simp at hy; subst hy; decide) (b4_byt _)) (b4_byt _)) h
theorem Wrote.keep {w w' : World} {base g g' : Nat} {v v' : Value} {bs bs' : List Int} (h : WR w base g v bs) (h' : WR w base g' v' bs') (hg : g ≠ g') (hv : ∀ b, v.ownBlock = some b → v'.ownBlock ≠ some b) (hk : Kp (fun j => j = g' ∨ v'.ownBlock = some j) w w') : WR w' base g v bs :=
  h.kp hk (fun e => e.elim hg (fun e => h'.own.ne_blk h.blk (by decide) e)) (fun b hb e => e.elim (fun e => h.own.ne_blk h'.blk (by decide) (by rw [hb, e])) (hv b hb))
/-- Frame's two writers. -/
structure FS (w w' : World) (gn gw : Nat) (v2 v3 : Value) (nb wb : List Int) (A : Option Addr) (cs : List Int) : Prop where
  n : WR w' gn gn v2 nb
  g : WR w' gn gw v3 wb
  lt : gn < gw
  far : ∀ b, v2.ownBlock = some b → v3.ownBlock ≠ some b
  be : Below gn w w'
  x : BytesAt w' A cs
  hA : ∀ a, A = some a → a.block < gn
theorem FS.below {w w1 w2 : World} {gn gw : Nat} {v2 v3 : Value} {nb wb : List Int} {A : Option Addr} {cs : List Int} (h : FS w w1 gn gw v2 v3 nb wb A cs) (hb : Below w1.heap.size w1 w2) : FS w w2 gn gw v2 v3 nb wb A cs :=
  ⟨h.n.below hb, h.g.below hb, h.lt, h.far, h.be.trans (hb.mono (Nat.le_of_lt h.n.blk.lt)), h.x.below hb, h.hA⟩
theorem FS.wrote {w w1 w2 : World} {gn gw : Nat} {v2 v3 : Value} {nb wb wb' : List Int} {A : Option Addr} {cs : List Int} (h : FS w w1 gn gw v2 v3 nb wb A cs) (hw : Wrote w1 gn gw v3 wb' w2) : ∃ v3', FS w w2 gn gw v2 v3' nb wb' A cs := by
  obtain ⟨v', h1, hk, h3⟩ := hw
  have hlt := h.n.blk.lt
  refine ⟨v', Wrote.keep h.n h.g (by have := h.lt; omega) h.far hk, h1, h.lt, fun b hb e => ?_, Kp.to_below h.be hk (Nat.le_of_lt hlt) (fun j hj => ?_), h.x.kp hk (fun a e hj => ?_), h.hA⟩
  · rcases h3 with h3 | h3
    · exact h.far b hb (h3 ▸ e)
    · have := h3 b e
      have := (h.n.own.lt hb).2
      omega
  · rcases hj with hj | hj
    · have := h.lt; omega
    · exact (h.g.own.lt hj).1
  · have ha := h.hA a e
    rcases hj with hj | hj
    · have := h.lt; omega
    · have := (h.g.own.lt hj).1
      omega
theorem frame_none (A : Option Addr) (c : Nat) (w : World) : Calls Try.prog 35 #[.slice A 0 c] w fun e w' => e = .returned (.tuple #[.slice none 0 0, .int .i64 160]) ∧ w' = w := by
  go_enter Try.func35, Try.ntmps35
  go_wp2
  go_ret2
  exact ⟨rfl, rfl⟩
theorem frame_huge (A : Option Addr) (n c : Nat) (w : World) (h : 4087 < n) : Calls Try.prog 35 #[.slice A n c] w fun e w' => e = .returned (.tuple #[.slice none 0 0, .int .i64 163]) ∧ w' = w := by
  have h1 : ((n : Int) == 0) = false := by simp only [beq_eq_false_iff_ne, ne_eq]; omega
  have h2 : (n : Int) > 4087 := by omega
  go_enter Try.func35, Try.ntmps35
  go_wp2
  go_ret2
  exact ⟨rfl, rfl⟩
set_option maxRecDepth 100000 in
set_option maxHeartbeats 4000000 in
theorem frame_any (A : Option Addr) (cs : List Int) (c : Nat) (w : World) (hc : cs.length ≤ c ∧ c ≤ maxLen) (hx : BytesAt w A cs) (hby : Byt cs) (h0 : 0 < cs.length) (hle : cs.length ≤ 4087) :
    Calls Try.prog 35 #[.slice A cs.length c] w fun e w' => Below w.heap.size w w' ∧ ∃ v, e = .returned (.tuple #[v, .int .i64 0]) ∧ OwnB w' w.heap.size v (frameOf cs) := by
  have h1 : ((cs.length : Int) == 0) = false := by simp only [beq_eq_false_iff_ne, ne_eq]; omega
  have h2 : ¬ (cs.length : Int) > 4087 := by omega
  have Hx := Lib.hid hx
  have Hby := Lib.hid hby
  have H0 := Lib.hid h0
  clear hx hby h0
  go_enter Try.func35, Try.ntmps35
  go_upto_region 6 with (go_at_call 45; refine (newWriter_any w).mono ?_; rintro e w1 ⟨rfl, hb1, hs1, hn1⟩)
  have hu := u32_any w.heap.size w.heap.size _ [] w1 (cs.length : Int) hn1 hb1.size (by simp)
  rw [List.nil_append] at hu
  have hx1 := Hx.out.below hb1
  have Hb1 := Lib.hid hb1
  have Hn1 := Lib.hid hn1
  have Hs1 := Lib.hid hs1
  generalize hgn : w.heap.size = gn at *
  clear hb1 hn1 hs1
  go_upto_region 7 with (go_at_call 46; refine hu.mono ?_; clear hu; rintro e w2 ⟨rfl, v2, hn2, hk2, hv2⟩)
  have hx2 : BytesAt w2 A cs := hx1.kp hk2 (fun a e h => by
    obtain ⟨b, o, e', hlt, _⟩ := Hx.out H0.out
    rw [e'] at e
    injection e with e
    subst e
    rcases h with h | h
    · simp only at h; omega
    · cases h)
  have hk2' : Below gn w w2 := Kp.to_below Hb1.out hk2 (hgn ▸ Hb1.out.size) (fun j hj => hj.elim (fun h => by omega) (fun h => by cases h))
  have Hx2 := Lib.hid hx2
  have Hn2 := Lib.hid hn2
  have Hk2 := Lib.hid hk2'
  have Hl2 := Lib.hid (hn2.own.lt (b := gn))
  clear hx1 hx2 hn2 hk2 hk2' hv2
  go_upto_region 8 with (go_at_call 45; refine (newWriter_any w2).mono ?_; rintro e w3 ⟨rfl, hb3, hs3, hg3⟩)
  have fs3 : FS w w3 gn w2.heap.size v2 (.slice none 0 0) (b4 (cs.length : Int)) [] A cs := by
    refine ⟨Hn2.out.below hb3, ⟨hg3.blk, OwnB.nil _ _⟩, Hn2.out.blk.lt, fun b hb e => (by cases e), Hk2.out.trans (hb3.mono (Nat.le_of_lt Hn2.out.blk.lt)), Hx2.out.below hb3, fun a e => ?_⟩
    obtain ⟨b, o, e', hlt, _⟩ := Hx.out H0.out
    rw [e'] at e
    injection e with e
    subst e
    show b < gn
    omega
  generalize w2.heap.size = gw at *
  clear hb3 hs3 hg3 Hx2 Hn2 Hk2 Hl2
  have hcall := byte_any gn gw _ [] w3 197 fs3.g (Nat.le_of_lt fs3.n.blk.lt) (by simp)
  have Fs3 := Lib.hid fs3
  clear fs3
  go_upto_region 9 with (go_at_call 47; refine hcall.mono ?_; clear hcall; rintro e w4 ⟨rfl, hw4⟩)
  obtain ⟨v4, fs4⟩ := Fs3.out.wrote hw4
  clear hw4 Fs3
  rw [List.nil_append] at fs4
  have hcall := bytes_any gn gn _ _ w4 fs4.n (by simp [b4]) (by simp [b4])
  have Fs4 := Lib.hid fs4
  clear fs4
  go_upto_region 10 with (first | (go_at_call 49; refine hcall.mono ?_; clear hcall; rintro e w5 ⟨vb, rfl, hob, hb5⟩; obtain ⟨Ab, cb, rfl, k1, k2, kx, kA⟩ := hob.read; have fs5 := Fs4.out.below hb5; have hraw := raw_any gn gw v4 [197] w5 Ab (b4 (cs.length : Int)) cb fs5.g (Nat.le_of_lt fs5.n.blk.lt) kx (by simp [b4]) (by simp [b4]); have Fs5 := Lib.hid fs5; clear fs5 kx kA hob) | (go_at_call 48; refine hraw.mono ?_; clear hraw; rintro e w6 ⟨rfl, hw6⟩))
  obtain ⟨v6, fs6⟩ := Fs5.out.wrote hw6
  clear hw6 Fs5 hb5 k1 k2
  have hcall := bytes_any gn gn _ _ w6 fs6.n (by simp [b4]) (by simp [b4])
  have Fs6 := Lib.hid fs6
  clear fs6
  go_upto_region 11 with (first | (go_at_call 49; refine hcall.mono ?_; clear hcall; rintro e w7 ⟨vb, rfl, hob, hb7⟩; obtain ⟨Ac, cc, rfl, k1, k2, kx, kA⟩ := hob.read; have fs7 := Fs6.out.below hb7; have hsum := sum_any Ac (b4 (cs.length : Int)) cc w7 ⟨k1, k2⟩ kx (b4_byt _); have Fs7 := Lib.hid fs7; clear fs7 kx kA hob) | (go_at_call 51; refine hsum.mono ?_; clear hsum; rintro e w8 ⟨hb8, rfl⟩; have fs8 := Fs7.out.below hb8; have hext := extend_any (nt ((b4 (cs.length : Int)).foldl thr (nt 0))) A cs c w8 hc fs8.x Hby.out; have Fs8 := Lib.hid fs8; clear fs8) | (go_at_call 50; refine hext.mono ?_; clear hext; rintro e w9 ⟨hb9, rfl⟩; have fs9 := Fs8.out.below hb9; have hu := u32_any gn gw v6 ([197] ++ b4 (cs.length : Int)) w9 (nt (cs.foldl thr (nt (nt ((b4 (cs.length : Int)).foldl thr (nt 0)))))) fs9.g (Nat.le_of_lt fs9.n.blk.lt) (by simp [b4]); have Fs9 := Lib.hid fs9; clear fs9) | (go_at_call 46; refine hu.mono ?_; clear hu; rintro e w10 ⟨rfl, hw10⟩))
  obtain ⟨v10, fs10⟩ := Fs9.out.wrote hw10
  clear hw10
  have hraw := raw_any gn gw _ _ w10 A cs c fs10.g (Nat.le_of_lt fs10.n.blk.lt) fs10.x H0.out (by simp [b4]; omega)
  have Fs10 := Lib.hid fs10
  clear fs10
  go_upto_region 12 with (go_at_call 48; refine hraw.mono ?_; clear hraw; rintro e w11 ⟨rfl, hw11⟩)
  obtain ⟨v11, fs11⟩ := Fs10.out.wrote hw11
  have hcall := bytes_any gn gw _ _ w11 fs11.g (by simp) (by simp [b4]; omega)
  have Fs11 := Lib.hid fs11
  clear fs11 hw11
  go_wp2_with (go_at_call 49; refine hcall.mono ?_; clear hcall; rintro e w12 ⟨vf, rfl, hof, hb12⟩)
  go_ret2
  have fs12 := Fs11.out.below hb12
  rw [hgn]
  exact ⟨fs12.be, vf, rfl, hof.mono (Nat.le_of_lt Fs11.out.n.blk.lt)⟩
end Go.Proofs.Ytkllgmhfjibajaa
