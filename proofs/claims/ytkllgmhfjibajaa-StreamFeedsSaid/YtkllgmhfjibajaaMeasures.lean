/- The walk of a stream's reader's measures. Conditions: none. -/
import Derived.Test.YtkllgmhfjibajaaGathers
namespace Go.Proofs.Ytkllgmhfjibajaa
open Go.RowKit St
theorem bytes_single {w : World} {b : Nat} {t : TypeId} {x : Int} (h : Blk w b t #[.int .u8 x]) : BytesAt w (some ⟨b, 0, none⟩) [x] := fun _ => ⟨b, 0, rfl, h.lt, fun i y hy => by
  rw [h.cell]
  cases i with
  | zero => simp at hy ⊢; exact hy
  | succ i => simp at hy⟩
/-- Nothing is told. -/
theorem Told.nothing {w w' : World} {base g : Nat} {v v' : Value} {r : R} (hr : RD w' base g v' r) (hk : Kp (fun j => j = g ∨ v.ownBlock = some j) w w') (hv : v'.ownBlock = v.ownBlock ∨ ∀ b, v'.ownBlock = some b → w.heap.size ≤ b) :
    Told w base g v w' v' r (.slice none 0 0) [] [] :=
  ⟨hr, hk, hv, PL.nil _ _, rfl, by
    intro b hb
    rcases hb with hb | ⟨i, p, hp, _⟩
    · cases hb
    · cases hp⟩
/-- One piece without a body is told. -/
theorem Told.one {w w' : World} {base g tb : Nat} {v v' : Value} {r : R} {p : Pc} (hr : RD w' base g v' r) (hk : Kp (fun j => j = g ∨ v.ownBlock = some j) w w') (hv : v'.ownBlock = v.ownBlock ∨ ∀ b, v'.ownBlock = some b → w.heap.size ≤ b)
    (ht : Blk w' tb 57 (pcCells (p, .slice none 0 0)).toArray) (htb : w.heap.size ≤ tb) (hp : p.body = []) : Told w base g v w' v' r (.slice (some ⟨tb, 0, none⟩) 1 1) [(p, .slice none 0 0)] [p] :=
  ⟨hr, hk, hv, PL.one ht htb (by rw [hp]; exact OwnB.nil _ _), rfl, by
    intro b hb e
    rcases hb with hb | ⟨i, q, hq, hb⟩
    · injection hb with hb
      exact hr.own.ne_blk ht (by decide) (by rw [e, ← hb])
    · cases i with
      | zero => simp at hq; subst hq; cases hb
      | succ i => simp at hq⟩
set_option maxRecDepth 100000 in
set_option maxHeartbeats 4000000 in
theorem measures_any (base g : Nat) (v : Value) (r : R) (w : World) (A : Option Addr) (cs : List Int) (c : Nat) (x : Int) (hr : RD w base g v r) (hbase : base ≤ w.heap.size) (hby : Byt r.buf) (hc : cs.length ≤ c ∧ c ≤ maxLen) (hx : BytesAt w A cs) (hx0 : cs[0]? = some x) (hcb : 0 ≤ x ∧ x < 256) (hl : r.buf.length ≤ 4) :
    Calls Try.prog 52 #[.pointer (some ⟨g, 0, none⟩), .slice A cs.length c] w fun e w' => ∃ tv, e = .returned (.tuple #[.int .i64 1, tv]) ∧
      ∃ v' l, Told w base g v w' v' (measure r x).1 tv l (measure r x).2 ∧ l.length ≤ 1 ∧ (l = [] → tv = .slice none 0 0) := by
  have h0 : 0 < cs.length := (List.getElem?_eq_some_iff.1 hx0).1
  obtain ⟨b, o, rfl, hbl, hcell⟩ := hx h0
  have hc0 := hcell 0 x hx0
  rw [Nat.add_zero] at hc0
  obtain ⟨st, lim, buf, len, fr⟩ := r
  simp only at hl hby ⊢
  obtain ⟨Av, cv, rfl, hc1, hc2⟩ := hr.own.shape
  unfold maxLen at hc2
  simp only at hc1
  have hcm := hc.2
  unfold maxLen at hcm
  have q2 := hr.blk.cell 2
  have f2 := hr.blk.frozen 2
  simp at q2
  have hbig : buf.length + 1 ≤ 140737488355328 := by omega
  have hr0 := (hr.alloc (.cells #[.int .u8 x] 5)).drew
  have q2a := hr0.blk.cell 2
  simp at q2a
  have hx1 : BytesAt ((w.alloc (.cells #[.int .u8 x] 5)).drew) (some ⟨w.heap.size, 0, none⟩) [x] := bytes_single (Blk.new w 5 #[.int .u8 x]).drew
  have hb1 : base ≤ ((w.alloc (.cells #[.int .u8 x] 5)).drew).heap.size := by have := World.size_alloc w (.cells #[.int .u8 x] 5); have e : ((w.alloc (.cells #[.int .u8 x] 5)).drew).heap.size = (w.alloc (.cells #[.int .u8 x] 5)).heap.size := rfl; omega
  have hbx : Byt (buf ++ [x]) := byt_app hby (fun y hy => by simp at hy; subst hy; exact hcb)
  generalize hM : St.measure ⟨st, lim, buf, len, fr⟩ x = M
  unfold St.measure at hM
  simp only at hM
  generalize hbxe : buf ++ [x] = bx at *
  have HM := Lib.hid hM
  clear hM
  have hbxl : bx.length = buf.length + 1 := by rw [← hbxe]; simp
  have Hr := Lib.hid hr
  have Hr0 := Lib.hid hr0
  have Hx1 := Lib.hid hx1
  have Hb1 := Lib.hid hb1
  clear hr hx hr0 hx1 hb1
  go_enter Try.func52, Try.ntmps52
  go_upto_region 1 with fail
  go_cut [] (fun wx => ∃ v2, RD wx base g v2 ⟨st, lim, bx, len, fr⟩ ∧ Kp (fun j => j = g ∨ (Value.slice Av buf.length cv).ownBlock = some j) w wx ∧ (v2.ownBlock = (Value.slice Av buf.length cv).ownBlock ∨ ∀ b, v2.ownBlock = some b → w.heap.size ≤ b))
  case first =>
    go_region_law (refine step_app5 rfl (.tmp 13) (.tmp 17) rfl (v := .slice Av buf.length cv) (xs := buf) (by simp [Act.eval]) Hr0.out.own ⟨w.heap.size, 0, none⟩ 1 1 [x] (by simp [Act.eval]) rfl Hx1.out (by decide) hbig Hb1.out ?_; rintro g2 cap w2 hown hgr hat hlt; have z2 := (hgr.cell_far ⟨g, 2, none⟩ (Hr0.out.blk.lt) (fun e => Hr0.out.ne e.symm)).trans ((Hr0.out.blk.cell 2).trans rfl); have f2' := (hgr.frozen_far ⟨g, 2, none⟩ (Hr0.out.blk.lt) (fun e => Hr0.out.ne e.symm)).trans (Hr0.out.blk.frozen 2))
    all_goals
      go_wp2
      go_meet
      case rel =>
        refine ⟨.slice (some ⟨g2, 0, none⟩) (buf.length + 1) cap, Hr0.out.grow (Kp.of_grown' hgr) (hbxe ▸ hown), (((Kp.alloc (fun _ => False) w (.cells #[.int .u8 x] 5)).trans (Kp.drew (fun _ => False) _) (fun j hj => hj.elim)).mono (fun j hj => hj.elim) |>.trans (Kp.of_grown' hgr) (fun j hj => .inl (.inr hj))).trans (Kp.set_ (fun j => j = g) w2 (p := ⟨g, 2, none⟩) rfl _) (fun j hj => .inl (.inl hj)), ?_⟩
        rcases hat with h | h
        · exact .inl h.symm
        · refine .inr fun b hb => ?_
          injection hb with hb
          have e : ((w.alloc (.cells #[.int .u8 x] 5)).drew).heap.size = (w.alloc (.cells #[.int .u8 x] 5)).heap.size := rfl
          have := World.size_alloc w (.cells #[.int .u8 x] 5)
          simp only at hb
          omega
  case rest =>
    obtain ⟨v2, hr1, hk1, hv1⟩ := hcut
    generalize wc = w1 at *
    have hs := hk1.size
    obtain ⟨A1, c1, rfl, h1, h2, hx1, hA1⟩ := hr1.own.read
    have hhead := head_any A1 bx c1 w1 ⟨h1, h2⟩ hx1 hbx
    have q2 := hr1.blk.cell 2
    simp at q2
    have Hr1 := Lib.hid hr1
    have Hk1 := Lib.hid hk1
    have Hv1 := Lib.hid hv1
    clear hr1 hk1 hv1 hx1 hA1 hc0 hcell q2a f2
    simp only at h1
    unfold maxLen at h2
    have Hbxl := Lib.hid hbxl
    have Hbxe := Lib.hid hbxe
    clear hbxl hbxe
    go_upto_region 3 with (go_at_call 61; refine hhead.mono ?_; clear hhead; rintro e w3 ⟨hb3, rfl⟩)
    have hr3 := Hr1.out.below hb3
    have hk3 := Hk1.out.trans (Kp.of_below (S := fun _ => False) hb3) (fun j hj => hj.elim)
    have q0 := hr3.blk.cell 0
    have q1 := hr3.blk.cell 1
    have q3 := hr3.blk.cell 3
    have q4 := hr3.blk.cell 4
    have f0 := hr3.blk.frozen 0
    have f2 := hr3.blk.frozen 2
    have f3 := hr3.blk.frozen 3
    have f4 := hr3.blk.frozen 4
    clear q2
    have q2 := hr3.blk.cell 2
    simp at q0 q1 q2 q3 q4
    have Hr3 := Lib.hid hr3
    have Hk3 := Lib.hid hk3
    have hHl := headP_len bx
    have hHe := headP_err bx
    have hH5 := Lib.hid (head_five (xs := bx))
    generalize hHb : headP bx = H at *
    obtain ⟨H1, H2⟩ := H
    simp only at hHl hHe
    clear hr3 hk3 Hr1 Hk1 hb3 hHb
    rcases hHe with rfl | rfl | rfl | rfl
    · have h5 := hH5.out (by simp) (by simp)
      have E := HM.out.symm.trans ((if_neg (by simp)).trans (if_neg (by simp)))
      simp only at E h5
      by_cases hgt : H1 > lim
      · have e2 : H1 - ((buf.length : Int) + 1) = H1 - (bx.length : Int) := by have := Hbxl.out; omega
        have E1 := E.trans (if_pos hgt)
        rw [e2, wrapI] at E1
        have E2 := Lib.hid E1
        clear HM E E1 e2
        have hrange : 0 ≤ H1 - (bx.length : Int) ∧ H1 - (bx.length : Int) ≤ 4294967305 := by have := Hbxl.out; omega
        go_upto_region 13 with fail
        have hr5 := ((Hr3.out.putSt 3).putLen (H1 - bx.length)).putFr (wrap64 (fr + H1))
        have hr6 := hr5.putBuf hr5.own.empty
        have hk6 := (((Hk3.out.trans (Kp.set_ (fun j => j = g) w3 (p := ⟨g, 0, none⟩) rfl (.int .i64 3)) (fun j hj => .inl (.inl hj))).trans (Kp.set_ (fun j => j = g) _ (p := ⟨g, 3, none⟩) rfl (.int .i64 (H1 - bx.length))) (fun j hj => .inl (.inl hj))).trans (Kp.set_ (fun j => j = g) _ (p := ⟨g, 4, none⟩) rfl (.int .i64 (wrap64 (fr + H1)))) (fun j hj => .inl (.inl hj))).trans (Kp.set_ (fun j => j = g) _ (p := ⟨g, 2, none⟩) rfl (.slice A1 0 c1)) (fun j hj => .inl (.inl hj))
        generalize World.setCell (World.setCell (World.setCell (World.setCell w3 _ _) _ _) _ _) _ _ = w6 at *
        clear q0 q1 q2 q3 q4 f0 f2 f3 f4 hr5
        have Hr6 := Lib.hid hr6
        have Hk6 := Lib.hid hk6
        clear hr6 hk6
        go_wp2
        go_ret2
        obtain rfl := E2.out
        have hk7 := Hk6.out.trans (Kp.alloc (fun _ => False) w6 (.cells #[.int .i64 1, .slice none 0 0, .int .i64 fr, .int .i64 163] 57)) (fun j hj => hj.elim)
        exact ⟨_, rfl, _, _, Told.one (Hr6.out.alloc _) hk7 (by rw [own_same A1 0 bx.length c1]; exact Hv1.out) (Blk.new w6 57 _) Hk6.out.size rfl, Nat.le_refl _, fun e => by cases e⟩
      · have E2 := Lib.hid (E.trans (if_neg hgt))
        clear HM E
        go_upto_region 15 with fail
        have hr5 := (Hr3.out.putSt 2).putLen H1
        have hk5 := (Hk3.out.trans (Kp.set_ (fun j => j = g) w3 (p := ⟨g, 0, none⟩) rfl (.int .i64 2)) (fun j hj => .inl (.inl hj))).trans (Kp.set_ (fun j => j = g) _ (p := ⟨g, 3, none⟩) rfl (.int .i64 H1)) (fun j hj => .inl (.inl hj))
        generalize World.setCell (World.setCell w3 _ _) _ _ = w5 at *
        clear q0 q1 q2 q3 q4 f0 f2 f3 f4
        have hcall := whole_any base g _ _ w5 hr5 hbx
        have Hk5 := Lib.hid hk5
        clear hr5 hk5
        go_wp2_with (go_at_call 62; refine hcall.mono ?_; clear hcall; rintro e w6 ⟨tv, rfl, v', l, ht, ho, hl1, hl2⟩)
        go_ret2
        obtain rfl := E2.out
        exact ⟨tv, rfl, v', l, Told.after Hk5.out Hv1.out ht, hl1, hl2⟩
    · have E := Lib.hid (HM.out.symm.trans (if_pos rfl))
      clear HM
      go_wp2
      go_ret2
      obtain rfl := E.out
      exact ⟨_, rfl, _, [], Told.nothing Hr3.out Hk3.out Hv1.out, Nat.zero_le _, fun _ => rfl⟩
    · have E := Lib.hid (HM.out.symm.trans ((if_neg (by simp)).trans (if_pos rfl)))
      clear HM
      go_upto_region 7 with fail
      have hr6 := (Hr3.out.putSt 0).putBuf (OwnB.nil _ base)
      have hk6 := (Hk3.out.trans (Kp.set_ (fun j => j = g) w3 (p := ⟨g, 0, none⟩) rfl (.int .i64 0)) (fun j hj => .inl (.inl hj))).trans (Kp.set_ (fun j => j = g) _ (p := ⟨g, 2, none⟩) rfl (.slice none 0 0)) (fun j hj => .inl (.inl hj))
      generalize World.setCell (World.setCell w3 _ _) _ _ = w6 at *
      clear q0 q1 q2 q3 q4 f0 f2 f3 f4
      have q4 := hr6.blk.cell 4
      simp at q4
      have Hr6 := Lib.hid hr6
      have Hk6 := Lib.hid hk6
      clear hr6 hk6
      go_region
      go_wp2
      go_ret2
      obtain rfl := E.out
      have hk7 := (Hk6.out.trans (Kp.alloc (fun _ => False) w6 (.cells #[.int .i64 2, .slice none 0 0, .int .i64 fr, .int .i64 160] 57)) (fun j hj => hj.elim)).trans (Kp.drew (fun _ => False) _) (fun j hj => hj.elim)
      exact ⟨_, rfl, _, _, Told.one (Hr6.out.alloc _).drew hk7 (.inr fun b hb => by cases hb) (Blk.new w6 57 _).drew Hk6.out.size rfl, Nat.le_refl _, fun e => by cases e⟩
    · have h5 := hH5.out (by simp) (by simp)
      have E := HM.out.symm.trans ((if_neg (by simp)).trans (if_neg (by simp)))
      simp only at E h5
      by_cases hgt : H1 > lim
      · have e2 : H1 - ((buf.length : Int) + 1) = H1 - (bx.length : Int) := by have := Hbxl.out; omega
        have E1 := E.trans (if_pos hgt)
        rw [e2, wrapI] at E1
        have E2 := Lib.hid E1
        clear HM E E1 e2
        have hrange : 0 ≤ H1 - (bx.length : Int) ∧ H1 - (bx.length : Int) ≤ 4294967305 := by have := Hbxl.out; omega
        go_upto_region 13 with fail
        have hr5 := ((Hr3.out.putSt 3).putLen (H1 - bx.length)).putFr (wrap64 (fr + H1))
        have hr6 := hr5.putBuf hr5.own.empty
        have hk6 := (((Hk3.out.trans (Kp.set_ (fun j => j = g) w3 (p := ⟨g, 0, none⟩) rfl (.int .i64 3)) (fun j hj => .inl (.inl hj))).trans (Kp.set_ (fun j => j = g) _ (p := ⟨g, 3, none⟩) rfl (.int .i64 (H1 - bx.length))) (fun j hj => .inl (.inl hj))).trans (Kp.set_ (fun j => j = g) _ (p := ⟨g, 4, none⟩) rfl (.int .i64 (wrap64 (fr + H1)))) (fun j hj => .inl (.inl hj))).trans (Kp.set_ (fun j => j = g) _ (p := ⟨g, 2, none⟩) rfl (.slice A1 0 c1)) (fun j hj => .inl (.inl hj))
        generalize World.setCell (World.setCell (World.setCell (World.setCell w3 _ _) _ _) _ _) _ _ = w6 at *
        clear q0 q1 q2 q3 q4 f0 f2 f3 f4 hr5
        have Hr6 := Lib.hid hr6
        have Hk6 := Lib.hid hk6
        clear hr6 hk6
        go_wp2
        go_ret2
        obtain rfl := E2.out
        have hk7 := Hk6.out.trans (Kp.alloc (fun _ => False) w6 (.cells #[.int .i64 1, .slice none 0 0, .int .i64 fr, .int .i64 163] 57)) (fun j hj => hj.elim)
        exact ⟨_, rfl, _, _, Told.one (Hr6.out.alloc _) hk7 (by rw [own_same A1 0 bx.length c1]; exact Hv1.out) (Blk.new w6 57 _) Hk6.out.size rfl, Nat.le_refl _, fun e => by cases e⟩
      · have E2 := Lib.hid (E.trans (if_neg hgt))
        clear HM E
        go_upto_region 15 with fail
        have hr5 := (Hr3.out.putSt 2).putLen H1
        have hk5 := (Hk3.out.trans (Kp.set_ (fun j => j = g) w3 (p := ⟨g, 0, none⟩) rfl (.int .i64 2)) (fun j hj => .inl (.inl hj))).trans (Kp.set_ (fun j => j = g) _ (p := ⟨g, 3, none⟩) rfl (.int .i64 H1)) (fun j hj => .inl (.inl hj))
        generalize World.setCell (World.setCell w3 _ _) _ _ = w5 at *
        clear q0 q1 q2 q3 q4 f0 f2 f3 f4
        have hcall := whole_any base g _ _ w5 hr5 hbx
        have Hk5 := Lib.hid hk5
        clear hr5 hk5
        go_wp2_with (go_at_call 62; refine hcall.mono ?_; clear hcall; rintro e w6 ⟨tv, rfl, v', l, ht, ho, hl1, hl2⟩)
        go_ret2
        obtain rfl := E2.out
        exact ⟨tv, rfl, v', l, Told.after Hk5.out Hv1.out ht, hl1, hl2⟩
end Go.Proofs.Ytkllgmhfjibajaa
