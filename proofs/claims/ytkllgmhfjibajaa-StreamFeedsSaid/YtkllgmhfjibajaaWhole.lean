/- The walk of a stream's reader's whole. Conditions: none. -/
import Derived.Test.YtkllgmhfjibajaaPieces
namespace Go.Proofs.Ytkllgmhfjibajaa
open Go.RowKit St

theorem own_same (A : Option Addr) (n m c : Nat) : (Value.slice A n c).ownBlock = (Value.slice A m c).ownBlock := by
  cases A <;> rfl
section
variable {w : World} {base g : Nat} {v : Value} {r : R}
theorem RD.setOwn (h : RD w base g v r) (i : Nat) (u : Value) : OwnB (w.setCell ⟨g, i, none⟩ u) base v r.buf :=
  h.own.kp (S := fun j => j = g) (Kp.set_ (fun j => j = g) w (p := ⟨g, i, none⟩) rfl u) (fun b hb e => h.ne (by rw [hb, e]))
theorem RD.putSt (h : RD w base g v r) (x : Int) : RD (w.setCell ⟨g, 0, none⟩ (.int .i64 x)) base g v ⟨x, r.lim, r.buf, r.len, r.fr⟩ :=
  ⟨by simpa using h.blk.set_ 0 (.int .i64 x), h.setOwn 0 _⟩
theorem RD.putLen (h : RD w base g v r) (x : Int) : RD (w.setCell ⟨g, 3, none⟩ (.int .i64 x)) base g v ⟨r.st, r.lim, r.buf, x, r.fr⟩ :=
  ⟨by simpa using h.blk.set_ 3 (.int .i64 x), h.setOwn 3 _⟩
theorem RD.putFr (h : RD w base g v r) (x : Int) : RD (w.setCell ⟨g, 4, none⟩ (.int .i64 x)) base g v ⟨r.st, r.lim, r.buf, r.len, x⟩ :=
  ⟨by simpa using h.blk.set_ 4 (.int .i64 x), h.setOwn 4 _⟩
theorem RD.putBuf {v' : Value} {bs : List Int} (h : RD w base g v r) (h' : OwnB w base v' bs) : RD (w.setCell ⟨g, 2, none⟩ v') base g v' ⟨r.st, r.lim, bs, r.len, r.fr⟩ :=
  ⟨by simpa using h.blk.set_ 2 v', h'.kp (S := fun j => j = g) (Kp.set_ (fun j => j = g) w (p := ⟨g, 2, none⟩) rfl v') (fun b hb e => h'.ne_blk h.blk (by decide) (by rw [hb, e]))⟩
theorem RD.drewN (h : RD w base g v r) (n : Nat) : RD (w.drewN n) base g v r := ⟨h.blk.drewN n, h.own.below ((Below.refl _ w).trans ⟨rfl, rfl, rfl, Nat.le_refl _, fun _ _ => rfl⟩)⟩
theorem RD.drew (h : RD w base g v r) : RD w.drew base g v r := h.drewN 1
theorem RD.alloc (h : RD w base g v r) (o : Obj) : RD (w.alloc o) base g v r := ⟨h.blk.alloc o, h.own.below ((Below.refl _ w).alloc (Nat.le_refl _) o)⟩
end
/-- What a step may write: the reader's block, its bytes'. -/
def SR (g : Nat) (v : Value) (j : Nat) : Prop := j = g ∨ v.ownBlock = some j
theorem bodyP_len {xs : List Int} (h : (bodyP xs).2 = 0) : 0 < (bodyP xs).1.length ∧ (bodyP xs).1.length ≤ 4096 := by
  unfold bodyP at h ⊢
  split at h
  · rename_i a
    rw [if_pos a]
    have := headOk_len a
    split at h
    · rename_i b
      rw [if_pos b]
      unfold bodyOf
      rw [List.length_take, List.length_drop, List.length_drop]
      omega
    · cases h
  · cases h
theorem bodyP_err (xs : List Int) : bodyP xs = ((bodyP xs).1, 0) ∨ bodyP xs = ([], 160) := by
  unfold bodyP
  split
  · split
    · exact .inl rfl
    · exact .inr rfl
  · exact .inr rfl
theorem make_bytes (n : Nat) (hn : n ≤ 281474976710656) (u : World) : (Instr.makeSlice 22 (.int .i64 (n : Int)) (.int .i64 (n : Int))).run Try.prog u =
    .ok (.slice (some ⟨u.heap.size, 0, none⟩) n n) (u.alloc (.cells (Array.replicate n (.int .u8 0)) 5)) := by
  obtain ⟨i0, hi, hz0, hz1, hz2⟩ : ∃ i, Try.prog.info? 5 = some i ∧ i.zero = some (.int .u8 0) ∧ i.size = 1 ∧ i.bytes = 1 := by
    have h := info5
    cases hh : Try.prog.info? 5 with
    | none => rw [hh] at h; cases h
    | some i => rw [hh] at h; simp at h; exact ⟨i, rfl, h⟩
  have h := run_make (P := Try.prog) u 22 5 i0 _ Try.underlying22 hi hz0 .i64 .i64 (n : Int) (n : Int) (by omega) (Int.le_refl _) (by rw [hz2]; omega) (by omega)
  have e : madeCells (Value.int .u8 0).cells n = Array.replicate n (.int .u8 0) := by
    apply Array.ext
    · simp [madeCells]
    · intro i h1 h2
      simp [madeCells, Value.cells, Nat.mod_one]
  rw [hz1, Int.toNat_natCast, Nat.mul_one, e] at h
  exact h
/-- Bytes that are copied into a block of zeros. -/
theorem copy_bytes {w : World} {b n : Nat} (hb : Blk w b 5 (Array.replicate n (.int .u8 0))) {a : Addr} {c c' : Nat} {bs : List Int} (hl : bs.length = n) (hx : BytesAt w (some a) bs) (ty : TypeId) :
    (Builtin.copy_ #[22, 22] ty #[.slice (some ⟨b, 0, none⟩) n c, .slice (some a) n c']).run Try.prog w = .ok (goInt n) (w.setRow b (bs.map (Value.int .u8)).toArray) := by
  have h := run_copy_row (P := Try.prog) w 22 22 ty 5 b 0 n c a n c' (Array.replicate n (.int .u8 0)) 5 (bs.map (Value.int .u8)) Try.underlying22
    (by have h := info5; cases hh : Try.prog.info? 5 with | none => rw [hh] at h; cases h | some i => rw [hh] at h; simp at h; simp [h]) hb (by simp [hl]) hx.news (by simp [hl]) (bytes_one _)
  rw [h]
  simp [hl]
theorem Blk.row {w : World} {b : Nat} {t : TypeId} {cs : Array Value} (h : Blk w b t cs) (cs' : Array Value) : Blk (w.setRow b cs') b t cs' := setRow_heap w b cs cs' t _ h
theorem Kp.row (S : Nat → Prop) (w : World) {b : Nat} (hb : S b) (cs : Array Value) : Kp S w (w.setRow b cs) := by
  refine ⟨rfl, rfl, rfl, by simp [World.setRow], fun k _ hn => ?_⟩
  have : k ≠ b := fun e => hn (e ▸ hb)
  simp [World.setRow, Array.getElem?_modify, Ne.symm this]
theorem OwnB.of_blk {w : World} {base b : Nat} {bs : List Int} {n : Nat} (h : Blk w b 5 (bs.map (Value.int .u8)).toArray) (hb : base ≤ b) (hn : n = bs.length) (hm : n ≤ maxLen) : OwnB w base (.slice (some ⟨b, 0, none⟩) n n) bs := by
  subst hn
  exact ⟨by simp, .inr ⟨b, bs.length, _, rfl, hb, h, Nat.le_refl _, hm, by simp, by rw [List.take_of_length_le (by simp)]⟩⟩
theorem wrapI (x : Int) : IntKind.wrap .i64 x = wrap64 x := by unfold wrap64; exact IntKind.wrap_i64 x
set_option maxRecDepth 100000 in
set_option maxHeartbeats 4000000 in
theorem whole_small (base g : Nat) (v : Value) (r : R) (w : World) (hr : RD w base g v r) (hlt : (r.buf.length : Int) < r.len) :
    Calls Try.prog 62 #[.pointer (some ⟨g, 0, none⟩)] w fun e w' => e = .returned (.slice none 0 0) ∧ ∃ n, w.drewN n = w' := by
  obtain ⟨A, c, rfl, hc1, hc2⟩ := hr.own.shape
  have q2 := hr.blk.cell 2
  have q3 := hr.blk.cell 3
  simp at q2 q3
  clear hr
  go_enter Try.func62, Try.ntmps62
  go_upto_region 1 with fail
  go_quiet (fail)
  go_wp2
  go_ret
  exact ⟨rfl, _, rfl⟩
set_option maxRecDepth 100000 in
set_option maxHeartbeats 4000000 in
theorem whole_good (base g : Nat) (v : Value) (r : R) (w : World) (hr : RD w base g v r) (hlt : ¬ (r.buf.length : Int) < r.len) (hby : Byt r.buf) (bo : List Int) (hok : bodyP r.buf = (bo, 0)) :
    Calls Try.prog 62 #[.pointer (some ⟨g, 0, none⟩)] w fun e w' => ∃ tv, e = .returned tv ∧ ∃ v' l, Told w base g v w' v' ⟨1, r.lim, [], r.len, wrap64 (r.fr + r.len)⟩ tv l [⟨0, bo, r.fr, 0⟩] ∧ v'.ownBlock = v.ownBlock ∧ l.length = 1 := by
  have hb1 : 0 < bo.length ∧ bo.length ≤ 4096 := by have := bodyP_len (xs := r.buf) (by rw [hok]); rwa [hok] at this
  obtain ⟨st, lim, buf, len, fr⟩ := r
  simp only at hlt hby hok ⊢
  obtain ⟨A, c, rfl, hc1, hc2⟩ := hr.own.shape
  unfold maxLen at hc2
  simp only at hc1
  have q2 := hr.blk.cell 2
  have q3 := hr.blk.cell 3
  simp at q2 q3
  have Hr := Lib.hid hr
  have Hok := Lib.hid hok
  clear hr hok
  go_enter Try.func62, Try.ntmps62
  go_upto_region 1 with fail
  go_cut [15] (fun x wx => x = .bool false ∧ RD wx base g (.slice A buf.length c) ⟨st, lim, buf, len, fr⟩ ∧ Below w.heap.size w wx ∧ wx.heap.size = w.heap.size)
  case first =>
    go_quiet (fail)
    go_wp2
    go_meet
    case rel => exact ⟨rfl, Hr.out.drewN _, ⟨rfl, rfl, rfl, Nat.le_refl _, fun _ _ => rfl⟩, rfl⟩
  case rest =>
    obtain ⟨rfl, hr1, hw1, hs1⟩ := hcut
    generalize wc = w1 at *
    clear q2 q3
    have Hs1 := Lib.hid hs1
    have Hw1 := Lib.hid hw1
    clear hs1 hw1
    have q4 := hr1.blk.cell 4
    simp at q4
    go_upto_region 4 with fail
    have hr2 := hr1.alloc (.cells #[.int .i64 0, .slice none 0 0, .int .i64 fr, .int .i64 0] 57)
    have hx2 := Blk.new w1 57 #[.int .i64 0, .slice none 0 0, .int .i64 fr, .int .i64 0]
    have hb2 := (Below.refl w1.heap.size w1).alloc (Nat.le_refl _) (.cells #[.int .i64 0, .slice none 0 0, .int .i64 fr, .int .i64 0] 57)
    generalize hW2 : World.alloc w1 _ = w2 at *
    clear hW2
    generalize hB : w1.heap.size = b at *
    have hg : g < b := hB ▸ hr1.blk.lt
    have q2 := hr2.blk.cell 2
    simp at q2
    obtain ⟨A', c', e1, h1, h2, hx, hA⟩ := hr2.own.read
    injection e1 with e1 _ e3
    subst e1 e3
    have hbody := body_any A buf c w2 ⟨h1, h2⟩ hx hby
    rw [Hok.out] at hbody
    have Hr1 := Lib.hid hr1
    have Hr2 := Lib.hid hr2
    have Hx2 := Lib.hid hx2
    have Hb2 := Lib.hid hb2
    clear hr1 hr2 hx2 hb2 q4 hx hA
    go_upto_region 5 with (go_at_call 79; refine hbody.mono ?_; clear hbody; rintro e w3 ⟨hb3, bv, rfl, hbv⟩)
    have hbs := Hx2.out.lt
    have hr3 := Hr2.out.below hb3
    have hx3 := Hx2.out.below hb3 hbs
    obtain ⟨bb, cb, e1, hbb1, hbb2⟩ := hbv.form hb1.1
    subst e1
    obtain ⟨Ab, cb', e1, k1, k2, kx, kA⟩ := hbv.read
    injection e1 with e1 _ e3
    subst e1 e3
    have hmk := fun u => make_bytes bo.length (by omega) u
    have hbs3 := hx3.lt
    have q1 := hx3.cell 1
    have f1 := hx3.frozen 1
    simp at q1
    have Hr3 := Lib.hid hr3
    have Hx3 := Lib.hid hx3
    have Hb3 := Lib.hid hb3
    have Hkx := Lib.hid kx
    have Hby := Lib.hid hby
    have Hb1 := Lib.hid hb1
    have Hbb1 := Lib.hid hbb1
    clear hr3 hx3 hb3 kx kA hbv hby hb1 hlt Hr Hr2 Hx2 hbb1
    go_upto_region 7 with fail
    have hr4 : RD ((w3.setCell ⟨b, 1, none⟩ (.slice (some ⟨w3.heap.size, 0, none⟩) bo.length bo.length)).alloc (.cells (Array.replicate bo.length (.int .u8 0)) 5)) base g (.slice A buf.length c) ⟨st, lim, buf, len, fr⟩ :=
      RD.alloc ⟨Hr3.out.blk.far (by simp; omega) _, Hr3.out.own.kp (S := fun j => j = b) (Kp.set_ (fun j => j = b) w3 (p := ⟨b, 1, none⟩) rfl _) (fun j hj e => Hr3.out.own.ne_blk Hx3.out (by decide) (by rw [hj, e]))⟩ _
    have hx4 : Blk ((w3.setCell ⟨b, 1, none⟩ (.slice (some ⟨w3.heap.size, 0, none⟩) bo.length bo.length)).alloc (.cells (Array.replicate bo.length (.int .u8 0)) 5)) b 57 #[.int .i64 0, .slice (some ⟨w3.heap.size, 0, none⟩) bo.length bo.length, .int .i64 fr, .int .i64 0] :=
      Blk.alloc (by simpa using Hx3.out.set_ 1 (.slice (some ⟨w3.heap.size, 0, none⟩) bo.length bo.length)) _
    have hz4 : Blk ((w3.setCell ⟨b, 1, none⟩ (.slice (some ⟨w3.heap.size, 0, none⟩) bo.length bo.length)).alloc (.cells (Array.replicate bo.length (.int .u8 0)) 5)) w3.heap.size 5 (Array.replicate bo.length (.int .u8 0)) := by
      have := Blk.new (w3.setCell ⟨b, 1, none⟩ (.slice (some ⟨w3.heap.size, 0, none⟩) bo.length bo.length)) 5 (Array.replicate bo.length (.int .u8 0))
      simpa using this
    have hk4 : Kp (fun j => j = b) w3 ((w3.setCell ⟨b, 1, none⟩ (.slice (some ⟨w3.heap.size, 0, none⟩) bo.length bo.length)).alloc (.cells (Array.replicate bo.length (.int .u8 0)) 5)) :=
      (Kp.set_ (fun j => j = b) w3 (p := ⟨b, 1, none⟩) rfl _).trans (Kp.alloc (fun j => j = b) _ _) (fun j hj => .inl hj)
    have hkx4 := Hkx.out.kp hk4 (fun a e h => by have := Hbb1.out; injection e with e; subst e; simp only at h; omega)
    generalize hW4 : World.alloc (World.setCell w3 _ _) _ = w4 at *
    clear hW4
    generalize hB5 : w3.heap.size = b5 at *
    have hcp := fun ty => copy_bytes hz4 (c := bo.length) (c' := cb) rfl hkx4 ty
    have q1 := hx4.cell 1
    simp at q1
    have Hr4 := Lib.hid hr4
    have Hx4 := Lib.hid hx4
    have Hz4 := Lib.hid hz4
    have Hk4 := Lib.hid hk4
    clear hr4 hx4 hz4 hk4 f1 hmk hkx4
    go_upto_region 9 with fail
    have hr5 : RD (w4.setRow b5 (bo.map (Value.int .u8)).toArray) base g (.slice A buf.length c) ⟨st, lim, buf, len, fr⟩ :=
      Hr4.out.kp (Kp.row (fun j => j = b5) w4 rfl _) (by have := Hr3.out.blk.lt; omega) (fun j hj e => by have := (Hr3.out.own.lt hj).2; omega)
    have hx5 := Hx4.out.kp (Kp.row (fun j => j = b5) w4 rfl (bo.map (Value.int .u8)).toArray) (by omega)
    have hz5 := Hz4.out.row (bo.map (Value.int .u8)).toArray
    have hk5 : Kp (fun j => j = b) w3 (w4.setRow b5 (bo.map (Value.int .u8)).toArray) := Hk4.out.trans (Kp.row (fun j => j = b5) w4 rfl _) (fun j hj => .inr (by omega))
    generalize World.setRow w4 _ _ = w5 at *
    have z3 := hr5.blk.cell 3
    have z4 := hr5.blk.cell 4
    have f4 := hr5.blk.frozen 4
    simp at z3 z4
    have Hr5 := Lib.hid hr5
    have Hx5 := Lib.hid hx5
    have Hz5 := Lib.hid hz5
    have Hk5 := Lib.hid hk5
    clear hr5 hx5 hz5 hk5 hcp q1
    go_region
    have hr6 := (Hr5.out.putFr (wrap64 (fr + len))).drew
    have hx6 : Blk ((w5.setCell ⟨g, 4, none⟩ (.int .i64 (wrap64 (fr + len)))).drew) b 57 #[.int .i64 0, .slice (some ⟨b5, 0, none⟩) bo.length bo.length, .int .i64 fr, .int .i64 0] := (Hx5.out.far (by simp; omega) _).drew
    have hz6 : Blk ((w5.setCell ⟨g, 4, none⟩ (.int .i64 (wrap64 (fr + len)))).drew) b5 5 (bo.map (Value.int .u8)).toArray := (Hz5.out.far (by have := Hr3.out.blk.lt; simp; omega) _).drew
    have hk6 : Kp (fun j => j = b ∨ j = g) w3 ((w5.setCell ⟨g, 4, none⟩ (.int .i64 (wrap64 (fr + len)))).drew) :=
      ((Hk5.out.mono (S' := fun j => j = b ∨ j = g) (fun j hj => .inl (.inl hj))).trans (Kp.set_ (fun j => j = g) w5 (p := ⟨g, 4, none⟩) rfl _) (fun j hj => .inl (.inr hj))).trans (Kp.drew (fun _ => False) _) (fun j hj => hj.elim)
    generalize World.drew _ = w6 at *
    clear z3 z4 f4
    have z2 := hr6.blk.cell 2
    have z0 := hr6.blk.cell 0
    have f2 := hr6.blk.frozen 2
    have f0 := hr6.blk.frozen 0
    simp at z2 z0
    have Hr6 := Lib.hid hr6
    have Hx6 := Lib.hid hx6
    have Hz6 := Lib.hid hz6
    have Hk6 := Lib.hid hk6
    clear hr6 hx6 hz6 hk6
    go_wp2
    go_upto_region 10 with fail
    go_region
    have hr6 := Hr6.out.putSt 1
    have hr7 := (hr6.putBuf hr6.own.empty).drew
    have hx7 : Blk (((w6.setCell ⟨g, 0, none⟩ (.int .i64 1)).setCell ⟨g, 2, none⟩ (.slice A 0 c)).drew) b 57 #[.int .i64 0, .slice (some ⟨b5, 0, none⟩) bo.length bo.length, .int .i64 fr, .int .i64 0] := ((Hx6.out.far (by simp; omega) _).far (by simp; omega) _).drew
    have hz7 : Blk (((w6.setCell ⟨g, 0, none⟩ (.int .i64 1)).setCell ⟨g, 2, none⟩ (.slice A 0 c)).drew) b5 5 (bo.map (Value.int .u8)).toArray := ((Hz6.out.far (by have := Hr3.out.blk.lt; simp; omega) _).far (by have := Hr3.out.blk.lt; simp; omega) _).drew
    have hk7 : Kp (fun j => j = b ∨ j = g) w3 (((w6.setCell ⟨g, 0, none⟩ (.int .i64 1)).setCell ⟨g, 2, none⟩ (.slice A 0 c)).drew) :=
      ((Hk6.out.trans (Kp.set_ (fun j => j = g) w6 (p := ⟨g, 0, none⟩) rfl _) (fun j hj => .inl (.inr hj))).trans (Kp.set_ (fun j => j = g) _ (p := ⟨g, 2, none⟩) rfl _) (fun j hj => .inl (.inr hj))).trans (Kp.drew (fun _ => False) _) (fun j hj => hj.elim)
    generalize World.drew _ = w7 at *
    clear z2 z0 f2 f0 hr6
    have y0 := hx7.cell 0
    have y1 := hx7.cell 1
    have y2 := hx7.cell 2
    have y3 := hx7.cell 3
    simp at y0 y1 y2 y3
    have Hr7 := Lib.hid hr7
    have Hx7 := Lib.hid hx7
    have Hz7 := Lib.hid hz7
    have Hk7 := Lib.hid hk7
    clear hr7 hx7 hz7 hk7
    go_wp2
    go_ret
    have eb := Hs1.out
    have hw1 := Hw1.out
    have ek3 : Kp (fun j => j = g ∨ (Value.slice A buf.length c).ownBlock = some j) w w3 :=
      (((Kp.of_below (S := fun _ => False) hw1).trans (Kp.of_below (S := fun _ => False) (by rw [hB]; exact Hb2.out)) (fun j hj => hj.elim)).trans (Kp.of_below (S := fun _ => False) Hb3.out) (fun j hj => hj.elim)).mono (fun j hj => hj.elim)
    have ek := (ek3.trans Hk7.out (fun j hj => hj.elim (fun h => .inr (by omega)) (fun h => .inl (.inl h)))).trans (Kp.alloc (fun _ => False) w7 (.cells #[.int .i64 0, .slice (some ⟨b5, 0, none⟩) bo.length bo.length, .int .i64 fr, .int .i64 0] 57)) (fun j hj => hj.elim)
    have s7 := Hk7.out.size
    have s3 := ek3.size
    have hlen := Hb1.out
    have hA : ∀ j, (Value.slice A 0 c).ownBlock = some j → j < w.heap.size := fun j hj => by
      have := (Hr1.out.own.lt (b := j) (by rw [← hj]; exact own_same A _ _ c)).2
      omega
    refine ⟨_, rfl, _, [(⟨0, bo, fr, 0⟩, .slice (some ⟨b5, 0, none⟩) bo.length bo.length)], ⟨Hr7.out.alloc _, ek, .inl (own_same A _ _ c), PL.one (Blk.new w7 57 _) (by omega) (OwnB.of_blk (Hz7.out.alloc _) (by omega) rfl (by unfold maxLen; omega)), rfl, ?_⟩, own_same A _ _ c, rfl⟩
    intro j hj e
    have := hA j e
    rcases hj with hj | ⟨i, p, hp, hj⟩
    · injection hj with hj
      simp only at hj
      omega
    · cases i with
      | zero =>
        simp at hp
        subst hp
        injection hj with hj
        simp only at hj
        omega
      | succ i => simp at hp
set_option maxRecDepth 100000 in
set_option maxHeartbeats 4000000 in
theorem whole_bad (base g : Nat) (v : Value) (r : R) (w : World) (hr : RD w base g v r) (hlt : ¬ (r.buf.length : Int) < r.len) (hby : Byt r.buf) (hok : bodyP r.buf = ([], 160)) :
    Calls Try.prog 62 #[.pointer (some ⟨g, 0, none⟩)] w fun e w' => ∃ tv, e = .returned tv ∧ ∃ v' l, Told w base g v w' v' ⟨1, r.lim, [], r.len, wrap64 (r.fr + r.len)⟩ tv l [⟨1, [], r.fr, 160⟩] ∧ v'.ownBlock = v.ownBlock ∧ l.length = 1 := by
  obtain ⟨st, lim, buf, len, fr⟩ := r
  simp only at hlt hby hok ⊢
  obtain ⟨A, c, rfl, hc1, hc2⟩ := hr.own.shape
  unfold maxLen at hc2
  simp only at hc1
  have q2 := hr.blk.cell 2
  have q3 := hr.blk.cell 3
  simp at q2 q3
  have Hr := Lib.hid hr
  have Hok := Lib.hid hok
  clear hr hok
  go_enter Try.func62, Try.ntmps62
  go_upto_region 1 with fail
  go_cut [15] (fun x wx => x = .bool false ∧ RD wx base g (.slice A buf.length c) ⟨st, lim, buf, len, fr⟩ ∧ Below w.heap.size w wx ∧ wx.heap.size = w.heap.size)
  case first =>
    go_quiet (fail)
    go_wp2
    go_meet
    case rel => exact ⟨rfl, Hr.out.drewN _, ⟨rfl, rfl, rfl, Nat.le_refl _, fun _ _ => rfl⟩, rfl⟩
  case rest =>
    obtain ⟨rfl, hr1, hw1, hs1⟩ := hcut
    generalize wc = w1 at *
    clear q2 q3
    have Hs1 := Lib.hid hs1
    have Hw1 := Lib.hid hw1
    clear hs1 hw1
    have q4 := hr1.blk.cell 4
    simp at q4
    go_upto_region 4 with fail
    have hr2 := hr1.alloc (.cells #[.int .i64 0, .slice none 0 0, .int .i64 fr, .int .i64 0] 57)
    have hx2 := Blk.new w1 57 #[.int .i64 0, .slice none 0 0, .int .i64 fr, .int .i64 0]
    have hb2 := (Below.refl w1.heap.size w1).alloc (Nat.le_refl _) (.cells #[.int .i64 0, .slice none 0 0, .int .i64 fr, .int .i64 0] 57)
    generalize hW2 : World.alloc w1 _ = w2 at *
    clear hW2
    generalize hB : w1.heap.size = b at *
    have hg : g < b := hB ▸ hr1.blk.lt
    have q2 := hr2.blk.cell 2
    simp at q2
    obtain ⟨A', c', e1, h1, h2, hx, hA⟩ := hr2.own.read
    injection e1 with e1 _ e3
    subst e1 e3
    have hbody := body_any A buf c w2 ⟨h1, h2⟩ hx hby
    rw [Hok.out] at hbody
    have Hr1 := Lib.hid hr1
    have Hr2 := Lib.hid hr2
    have Hx2 := Lib.hid hx2
    have Hb2 := Lib.hid hb2
    clear hr1 hr2 hx2 hb2 q4 hx hA
    go_upto_region 5 with (go_at_call 79; refine hbody.mono ?_; clear hbody; rintro e w3 ⟨hb3, bv, rfl, hbv⟩)
    have hbs := Hx2.out.lt
    have hr3 := Hr2.out.below hb3
    have hx3 := Hx2.out.below hb3 hbs
    obtain ⟨Ab, cb', e1, k1, k2, kx, kA⟩ := hbv.read
    subst e1
    have q0 := hx3.cell 0
    have q3 := hx3.cell 3
    have f0 := hx3.frozen 0
    have f3 := hx3.frozen 3
    simp at q0 q3
    have Hr3 := Lib.hid hr3
    have Hx3 := Lib.hid hx3
    have Hb3 := Lib.hid hb3
    clear hr3 hx3 hb3 kx kA hbv hby hlt Hr Hr2 Hx2
    go_upto_region 9 with fail
    have hr5 : RD ((w3.setCell ⟨b, 0, none⟩ (.int .i64 1)).setCell ⟨b, 3, none⟩ (.int .i64 160)) base g (.slice A buf.length c) ⟨st, lim, buf, len, fr⟩ :=
      Hr3.out.kp ((Kp.set_ (fun j => j = b) w3 (p := ⟨b, 0, none⟩) rfl _).trans (Kp.set_ (fun j => j = b) _ (p := ⟨b, 3, none⟩) rfl _) (fun j hj => .inl hj)) (by omega) (fun j hj e => Hr3.out.own.ne_blk Hx3.out (by decide) (by rw [hj, e]))
    have hx5 : Blk ((w3.setCell ⟨b, 0, none⟩ (.int .i64 1)).setCell ⟨b, 3, none⟩ (.int .i64 160)) b 57 #[.int .i64 1, .slice none 0 0, .int .i64 fr, .int .i64 160] := by simpa using (Hx3.out.set_ 0 (.int .i64 1)).set_ 3 (.int .i64 160)
    have hk5 : Kp (fun j => j = b) w3 ((w3.setCell ⟨b, 0, none⟩ (.int .i64 1)).setCell ⟨b, 3, none⟩ (.int .i64 160)) := (Kp.set_ (fun j => j = b) w3 (p := ⟨b, 0, none⟩) rfl _).trans (Kp.set_ (fun j => j = b) _ (p := ⟨b, 3, none⟩) rfl _) (fun j hj => .inl hj)
    generalize World.setCell (World.setCell w3 _ _) _ _ = w5 at *
    have z3 := hr5.blk.cell 3
    have z4 := hr5.blk.cell 4
    have f4 := hr5.blk.frozen 4
    simp at z3 z4
    have Hr5 := Lib.hid hr5
    have Hx5 := Lib.hid hx5
    have Hk5 := Lib.hid hk5
    clear hr5 hx5 hk5 q0 q3 f0 f3
    go_region
    have hr6 := (Hr5.out.putFr (wrap64 (fr + len))).drew
    have hx6 : Blk ((w5.setCell ⟨g, 4, none⟩ (.int .i64 (wrap64 (fr + len)))).drew) b 57 #[.int .i64 1, .slice none 0 0, .int .i64 fr, .int .i64 160] := (Hx5.out.far (by simp; omega) _).drew
    have hk6 : Kp (fun j => j = b ∨ j = g) w3 ((w5.setCell ⟨g, 4, none⟩ (.int .i64 (wrap64 (fr + len)))).drew) :=
      ((Hk5.out.mono (S' := fun j => j = b ∨ j = g) (fun j hj => .inl (.inl hj))).trans (Kp.set_ (fun j => j = g) w5 (p := ⟨g, 4, none⟩) rfl _) (fun j hj => .inl (.inr hj))).trans (Kp.drew (fun _ => False) _) (fun j hj => hj.elim)
    generalize World.drew _ = w6 at *
    clear z3 z4 f4
    have z2 := hr6.blk.cell 2
    have z0 := hr6.blk.cell 0
    have f2 := hr6.blk.frozen 2
    have f0 := hr6.blk.frozen 0
    simp at z2 z0
    have Hr6 := Lib.hid hr6
    have Hx6 := Lib.hid hx6
    have Hk6 := Lib.hid hk6
    clear hr6 hx6 hk6
    go_wp2
    go_upto_region 10 with fail
    go_region
    have hr6 := Hr6.out.putSt 1
    have hr7 := (hr6.putBuf hr6.own.empty).drew
    have hx7 : Blk (((w6.setCell ⟨g, 0, none⟩ (.int .i64 1)).setCell ⟨g, 2, none⟩ (.slice A 0 c)).drew) b 57 #[.int .i64 1, .slice none 0 0, .int .i64 fr, .int .i64 160] := ((Hx6.out.far (by simp; omega) _).far (by simp; omega) _).drew
    have hk7 : Kp (fun j => j = b ∨ j = g) w3 (((w6.setCell ⟨g, 0, none⟩ (.int .i64 1)).setCell ⟨g, 2, none⟩ (.slice A 0 c)).drew) :=
      ((Hk6.out.trans (Kp.set_ (fun j => j = g) w6 (p := ⟨g, 0, none⟩) rfl _) (fun j hj => .inl (.inr hj))).trans (Kp.set_ (fun j => j = g) _ (p := ⟨g, 2, none⟩) rfl _) (fun j hj => .inl (.inr hj))).trans (Kp.drew (fun _ => False) _) (fun j hj => hj.elim)
    generalize World.drew _ = w7 at *
    clear z2 z0 f2 f0 hr6
    have y0 := hx7.cell 0
    have y1 := hx7.cell 1
    have y2 := hx7.cell 2
    have y3 := hx7.cell 3
    simp at y0 y1 y2 y3
    have Hr7 := Lib.hid hr7
    have Hx7 := Lib.hid hx7
    have Hk7 := Lib.hid hk7
    clear hr7 hx7 hk7
    go_wp2
    go_ret
    have eb := Hs1.out
    have hw1 := Hw1.out
    have ek3 : Kp (fun j => j = g ∨ (Value.slice A buf.length c).ownBlock = some j) w w3 :=
      (((Kp.of_below (S := fun _ => False) hw1).trans (Kp.of_below (S := fun _ => False) (by rw [hB]; exact Hb2.out)) (fun j hj => hj.elim)).trans (Kp.of_below (S := fun _ => False) Hb3.out) (fun j hj => hj.elim)).mono (fun j hj => hj.elim)
    have ek := (ek3.trans Hk7.out (fun j hj => hj.elim (fun h => .inr (by omega)) (fun h => .inl (.inl h)))).trans (Kp.alloc (fun _ => False) w7 (.cells #[.int .i64 1, .slice none 0 0, .int .i64 fr, .int .i64 160] 57)) (fun j hj => hj.elim)
    have s7 := Hk7.out.size
    have s3 := ek3.size
    have hA : ∀ j, (Value.slice A 0 c).ownBlock = some j → j < w.heap.size := fun j hj => by
      have := (Hr1.out.own.lt (b := j) (by rw [← hj]; exact own_same A _ _ c)).2
      omega
    refine ⟨_, rfl, _, [(⟨1, [], fr, 160⟩, .slice none 0 0)], ⟨Hr7.out.alloc _, ek, .inl (own_same A _ _ c), PL.one (Blk.new w7 57 _) (by omega) (OwnB.nil _ _), rfl, ?_⟩, own_same A _ _ c, rfl⟩
    intro j hj e
    have := hA j e
    rcases hj with hj | ⟨i, p, hp, hj⟩
    · injection hj with hj
      simp only at hj
      omega
    · cases i with
      | zero =>
        simp at hp
        subst hp
        cases hj
      | succ i => simp at hp
theorem whole_any (base g : Nat) (v : Value) (r : R) (w : World) (hr : RD w base g v r) (hby : Byt r.buf) :
    Calls Try.prog 62 #[.pointer (some ⟨g, 0, none⟩)] w fun e w' => ∃ tv, e = .returned tv ∧ ∃ v' l, Told w base g v w' v' (whole r).1 tv l (whole r).2 ∧ v'.ownBlock = v.ownBlock ∧ l.length ≤ 1 ∧ (l = [] → tv = .slice none 0 0) := by
  unfold whole
  by_cases hlt : (r.buf.length : Int) < r.len
  · rw [if_pos hlt]
    refine (whole_small base g v r w hr hlt).mono ?_
    rintro e w' ⟨rfl, n, rfl⟩
    exact ⟨_, rfl, v, [], ⟨hr.drewN n, Kp.drewN _ _ _, .inl rfl, PL.nil _ _, rfl, (by
      intro b hb
      rcases hb with hb | ⟨i, p, hp, _⟩
      · cases hb
      · cases hp)⟩, rfl, Nat.zero_le _, fun _ => rfl⟩
  · rw [if_neg hlt]
    rcases bodyP_err r.buf with h | h
    · rw [if_pos (by rw [h])]
      refine (whole_good base g v r w hr hlt hby _ h).mono ?_
      rintro e w' ⟨tv, rfl, v', l, h1, h2, h3⟩
      exact ⟨tv, rfl, v', l, (by rw [wrapI]; exact h1), h2, by omega, fun e => by rw [e] at h3; cases h3⟩
    · rw [if_neg (by rw [h]; decide)]
      refine (whole_bad base g v r w hr hlt hby h).mono ?_
      rintro e w' ⟨tv, rfl, v', l, h1, h2, h3⟩
      exact ⟨tv, rfl, v', l, (by rw [wrapI]; exact h1), h2, by omega, fun e => by rw [e] at h3; cases h3⟩
end Go.Proofs.Ytkllgmhfjibajaa
