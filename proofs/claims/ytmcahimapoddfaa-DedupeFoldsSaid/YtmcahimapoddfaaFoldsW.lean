/- The walk of 'DedupeFolds'. Conditions: the arguments are readable, a little less than a slice bears. -/
import Derived.Test.YtmcahimapoddfaaFoldsMem
namespace Go.Proofs.Ytmcahimapoddfaa
open Go.RowKit Go.Maps

theorem OwnP.kp {S : Nat → Prop} {w w' : World} {base : Nat} {v : Value} {rs : List Pr} (h : OwnP w base v rs) (hk : Kp S w w') (hS : ∀ b, v.ownBlock = some b → ¬ S b) : OwnP w' base v rs :=
  h.keep fun b hb => hk.block b (h.lt hb).2 (hS b hb)
theorem OwnR.kp {S : Nat → Prop} {w w' : World} {base : Nat} {v : Value} {rs : List Rc} (h : OwnR w base v rs) (hk : Kp S w w') (hS : ∀ b, v.ownBlock = some b → ¬ S b) : OwnR w' base v rs :=
  h.keep fun b hb => hk.block b (h.lt hb).2 (hS b hb)
/-- What the law holds on to: the producers with their room, the copy of the records. -/
structure FW (w W : World) (g cap B : Nat) (vl : Value) (ps : List Pr) (rs : List Rc) : Prop where
  room : Room W w.heap.size g cap ps
  recs : OwnR W B vl rs
  below : Below w.heap.size w W
  lt : g < B
  hB : B ≤ W.heap.size
section
variable {w W W' : World} {g cap B : Nat} {vl : Value} {ps : List Pr} {rs : List Rc}
theorem FW.more (h : FW w W g cap B vl ps rs) (hb : Below W.heap.size W W') : FW w W' g cap B vl ps rs :=
  ⟨h.room.keep (hb.block g (Nat.lt_of_lt_of_le h.lt h.hB)), h.recs.below hb (Nat.le_refl _), h.below.trans (hb.mono h.below.size), h.lt, Nat.le_trans h.hB hb.size⟩
theorem FW.lo (h : FW w W g cap B vl ps rs) : w.heap.size ≤ B := by have := h.room.lt.1; have := h.lt; omega
end

/-- .. and the answers: the first one, the document's own, the second one. -/
structure FA (w W : World) (g cap B : Nat) (vl : Value) (ps : List Pr) (rs : List Rc) (L : List Pr) (va vb vt : Value) : Prop where
  fw : FW w W g cap B vl ps rs
  a : OwnP W B va L
  b : OwnP W B vb L
  t : OwnP W B vt L
  al : ∀ j, va.ownBlock = some j → vl.ownBlock ≠ some j ∧ vb.ownBlock ≠ some j ∧ vt.ownBlock ≠ some j
/-- .. without the first one. -/
structure FB (w W : World) (g cap B : Nat) (vl : Value) (ps : List Pr) (rs : List Rc) (L : List Pr) (vb vt : Value) : Prop where
  fw : FW w W g cap B vl ps rs
  b : OwnP W B vb L
  t : OwnP W B vt L
section
variable {w W W' : World} {g cap B : Nat} {vl va vb vt : Value} {ps L : List Pr} {rs : List Rc}
theorem FA.more (h : FA w W g cap B vl ps rs L va vb vt) (hb : Below W.heap.size W W') : FA w W' g cap B vl ps rs L va vb vt :=
  ⟨h.fw.more hb, h.a.below hb (Nat.le_refl _), h.b.below hb (Nat.le_refl _), h.t.below hb (Nat.le_refl _), h.al⟩
theorem FB.more (h : FB w W g cap B vl ps rs L vb vt) (hb : Below W.heap.size W W') : FB w W' g cap B vl ps rs L vb vt :=
  ⟨h.fw.more hb, h.b.below hb (Nat.le_refl _), h.t.below hb (Nat.le_refl _)⟩
theorem FA.spoil (h : FA w W g cap B vl ps rs L va vb vt) (hk : Kp (fun j => va.ownBlock = some j) W W') : FB w W' g cap B vl ps rs L vb vt := by
  have hlo := h.fw.lo
  refine ⟨⟨h.fw.room.keep (hk.block g (Nat.lt_of_lt_of_le h.fw.lt h.fw.hB) (fun e => ?_)), h.fw.recs.kp hk (fun j hj e => (h.al j e).1 hj), hk.to_below h.fw.below h.fw.below.size (fun j e => ?_), h.fw.lt, Nat.le_trans h.fw.hB hk.size⟩,
    h.b.kp hk (fun j hj e => (h.al j e).2.1 hj), h.t.kp hk (fun j hj e => (h.al j e).2.2 hj)⟩
  · have := (h.a.lt e).1; have := h.fw.lt; omega
  · have := (h.a.lt e).1; omega
end

set_option maxRecDepth 100000 in
set_option maxHeartbeats 8000000 in
theorem folds_any (v0 v1 : Value) (ps : List Pr) (rs : List Rc) (w : World) (h0 : PS w v0 ps) (h1 : RS w v1 rs) (hb1 : (ps.length + 2) * 24 ≤ 140737488355328) (hb2 : (rs.length + 1) * 72 ≤ 140737488355328) :
    Calls Try.prog 3 #[v0, v1] w fun e w' => e = .returned (.bool true) ∧ Below w.heap.size w w' := by
  obtain ⟨code, L, hf⟩ : ∃ c L, foldR ps rs = (c, L) := ⟨_, _, rfl⟩
  obtain ⟨code0, L0, hf0⟩ : ∃ c L, foldR [] rs = (c, L) := ⟨_, _, rfl⟩
  have hL64 : L.length ≤ 64 := by have := foldR_len (ps := ps) (rs := rs); rw [hf] at this; exact this
  have cR := roomy_any v0 ps w h0 hb1
  obtain ⟨i0, hi, hz0, hz1, hz2⟩ := info_parts info32
  have HV := Lib.hid h1
  obtain ⟨A1, c1, rfl, x1, x2, xn, x3⟩ := h1
  have x2' := x2
  unfold maxLen at x2'
  have HF := Lib.hid hf
  have HF0 := Lib.hid hf0
  have H0 := Lib.hid h0
  have X3 := Lib.hid x3
  have Xn := Lib.hid xn
  clear hf hf0 h0 x3 xn
  have hcc : (code != code) = false := by simp
  go_enter Try.func3, Try.ntmps3
  go_upto_region 2 with (go_at_call 9; refine cR.mono ?_; rintro e w1 ⟨⟨g, cap, rfl, hR⟩, hbw1⟩)
  have hb0 := hbw1.alloc hbw1.size (.cells #[] 32)
  have hx' : RecsAt (w1.alloc (.cells #[] 32)) w.heap.size A1 rs := X3.out.below hb0
  have hem : (w1.alloc (.cells #[] 32)).ownsRow w1.heap.size 32 7 (.slice (some ⟨w1.heap.size, 0, none⟩) 0 0) 0 [] := World.ownsRow_lit w1 #[] 0 (Nat.le_refl _) (by unfold maxLen; omega) (by simp)
  have hsz : w1.heap.size ≤ (w1.alloc (.cells #[] 32)).heap.size := by simp
  have HR := Lib.hid hR
  have Hbw1 := Lib.hid hbw1
  clear hb0 cR hR hbw1
  go_upto_region 3 with (first
    | (at_builtin; refine wpList_append_any _ rfl _ _ 23 rfl w1.heap.size 32 i0 _ 7 72 Try.underlying23 hi hz0 hz1 hz2 rfl (by decide) _ 0 [] rfl hem A1 rs.length c1 rfl Xn.out (rs.flatMap rcCells) (flat_lenR rs) (recs_news hx') recs_one (by unfold maxLen; omega) (by omega) hsz ?_; intro vl w2 hown1 hgr1 hat1))
  rw [Nat.zero_add, List.nil_append] at hown1
  have hb12 : Below w1.heap.size w1 w2 := ((Below.refl w1.heap.size w1).alloc (Nat.le_refl _) (.cells #[] 32)).grown hgr1 hsz (fun j hj => by have e : some w1.heap.size = some j := hj; injection e with e; omega)
  have hF : FW w w2 g cap w1.heap.size vl ps rs := ⟨HR.out.keep (hb12.block g HR.out.lt.2), hown1, Hbw1.out.trans (hb12.mono Hbw1.out.size), HR.out.lt.2, hb12.size⟩
  have F := Lib.hid hF
  clear hown1 hgr1 hat1 hem hx' hsz HR Hbw1 hb12 hF
  generalize w1.heap.size = B1 at *
  have c3 := foldS F.out.room.toS F.out.recs.toS HF.out
  go_upto_region 4 with (go_at_call 10; refine c3.mono ?_; rintro e w3 ⟨va, rfl, ha, hb3⟩)
  have F3 := Lib.hid (F.out.more hb3)
  have c4 := foldRef_any v0 _ ps rs w3 code L (H0.out.below F3.out.below) (HV.out.below F3.out.below) HF.out
  go_upto_region 5 with (go_at_call 11; refine c4.mono ?_; rintro e w4 ⟨vb, rfl, hb, hb4⟩)
  have h4 : FA w w4 g cap B1 vl ps rs L va vb vb := ⟨F3.out.more hb4, (ha.mono F.out.hB).below hb4 (Nat.le_refl _), hb.mono F3.out.hB, hb.mono F3.out.hB, fun j hj =>
    ⟨fun e => by have h1 := (ha.lt hj).1; have h2 := (F.out.recs.lt e).2; omega, fun e => by have h1 := (ha.lt hj).2; have h2 := (hb.lt e).1; omega, fun e => by have h1 := (ha.lt hj).2; have h2 := (hb.lt e).1; omega⟩⟩
  have F4 := Lib.hid h4
  clear c3 c4 ha hb hb3 hb4 F F3 h4
  have c5 := sameS F4.out.a.toS F4.out.b.toS
  rw [decide_eq_true rfl] at c5
  go_upto_region 7 with (first
    | (go_at_call 12; refine c5.mono ?_; clear c5; rintro e w5 ⟨rfl, hb5⟩; have F5 := Lib.hid (F4.out.more hb5); clear hb5 F4)
    | (go_at_call 13; refine (kept_any g cap w.heap.size v0 ps w5 F5.out.fw.room (H0.out.below F5.out.fw.below)).mono ?_; rintro e w6 ⟨rfl, hb6⟩; have F6 := Lib.hid (F5.out.more hb6); clear hb6 F5)
    | (go_at_call 14; refine (sameRecs_any vl _ rs w6 F6.out.fw.recs.toS (HV.out.below F6.out.fw.below)).mono ?_; rintro e w7 ⟨rfl, hb7⟩; have F7 := Lib.hid (F6.out.more hb7); clear hb7 F6))
  have c8 := foldS F7.out.fw.room.toS F7.out.fw.recs.toS HF.out
  go_upto_region 8 with (go_at_call 10; refine c8.mono ?_; rintro e w8 ⟨vt, rfl, ht, hb8⟩)
  have h8 : FA w w8 g cap B1 vl ps rs L va vb vt := ⟨F7.out.fw.more hb8, F7.out.a.below hb8 (Nat.le_refl _), F7.out.b.below hb8 (Nat.le_refl _), ht.mono F7.out.fw.hB, fun j hj =>
    ⟨(F7.out.al j hj).1, (F7.out.al j hj).2.1, fun e => by have h1 := (F7.out.a.lt hj).2; have h2 := (ht.lt e).1; omega⟩⟩
  have F8 := Lib.hid h8
  clear c8 ht hb8 F7 h8
  have c9 := foldS (PS.nil w8) F8.out.fw.recs.toS HF0.out
  go_upto_region 9 with (go_at_call 10; refine c9.mono ?_; rintro e w9 ⟨vx, rfl, hx, hb9⟩)
  have F9 := Lib.hid (F8.out.more hb9)
  clear c9 hx hb9 F8
  have c10 := sameS F9.out.a.toS F9.out.b.toS
  rw [decide_eq_true rfl] at c10
  go_upto_region 11 with (first
    | (go_at_call 12; refine c10.mono ?_; clear c10; rintro e w10 ⟨rfl, hb10⟩; have F10 := Lib.hid (F9.out.more hb10); clear hb10 F9)
    | (go_at_call 12; refine (sameS F10.out.t.toS F10.out.b.toS).mono ?_; rintro e w11 ⟨he, hb11⟩; rw [decide_eq_true rfl] at he; subst he; have F11 := Lib.hid (F10.out.more hb11); clear hb11 F10))
  have c12 := spoil_any va B1 _ _ w11 F11.out.a hL64 F11.out.fw.hB
  go_upto_region 12 with (go_at_call 15; refine c12.mono ?_; rintro e w12 ⟨rfl, hk12⟩)
  have F12 := Lib.hid (F11.out.spoil hk12)
  clear c12 hk12 F11
  have c13 := foldS F12.out.fw.room.toS F12.out.fw.recs.toS HF.out
  go_upto_region 13 with (go_at_call 10; refine c13.mono ?_; rintro e w13 ⟨vg, rfl, hg, hb13⟩)
  have F13 := Lib.hid (F12.out.more hb13)
  have Hg := Lib.hid hg
  have c14 := sameS hg.toS F13.out.b.toS
  rw [decide_eq_true rfl] at c14
  clear c13 hg hb13 F12
  go_upto_region 15 with (first
    | (go_at_call 12; refine c14.mono ?_; clear c14; rintro e w14 ⟨rfl, hb14⟩; have F14 := Lib.hid (F13.out.more hb14); clear hb14 F13)
    | (go_at_call 12; refine (sameS F14.out.t.toS F14.out.b.toS).mono ?_; rintro e w15 ⟨he, hb15⟩; rw [decide_eq_true rfl] at he; subst he; have F15 := Lib.hid (F14.out.more hb15); clear hb15 F14)
    | (go_at_call 13; refine (kept_any g cap w.heap.size v0 ps w15 F15.out.fw.room (H0.out.below F15.out.fw.below)).mono ?_; rintro e w16 ⟨rfl, hb16⟩; have F16 := Lib.hid (F15.out.fw.more hb16); clear hb16 F15))
  have hb0 := F16.out.below.alloc F16.out.below.size (.cells #[] 32)
  have hx' : RecsAt (w16.alloc (.cells #[] 32)) w.heap.size A1 rs := X3.out.below hb0
  have hem : (w16.alloc (.cells #[] 32)).ownsRow w16.heap.size 32 7 (.slice (some ⟨w16.heap.size, 0, none⟩) 0 0) 0 [] := World.ownsRow_lit w16 #[] 0 (Nat.le_refl _) (by unfold maxLen; omega) (by simp)
  have hsz : w16.heap.size ≤ (w16.alloc (.cells #[] 32)).heap.size := by simp
  clear hb0
  go_upto_region 16 with (first
    | (at_builtin; refine wpList_append_any _ rfl _ _ 23 rfl w16.heap.size 32 i0 _ 7 72 Try.underlying23 hi hz0 hz1 hz2 rfl (by decide) _ 0 [] rfl hem A1 rs.length c1 rfl Xn.out (rs.flatMap rcCells) (flat_lenR rs) (recs_news hx') recs_one (by unfold maxLen; omega) (by omega) hsz ?_; intro vm w17 hown1 hgr1 hat1; clear hem; rw [Nat.zero_add, List.nil_append] at hown1)
    | (at_builtin; refine wpList_append_lies _ rfl _ _ 23 rfl w16.heap.size 32 i0 (.agg #[.int .i64 0, .int .i64 0, .int .i64 0, .int .i64 0, .int .i64 0, .string ByteArray.empty, .string ByteArray.empty]) 7 72 Try.underlying23 hi hz0 hz1 hz2 rfl (by decide) _ rs.length (rs.flatMap rcCells) rfl (World.ownsRow.alloc hown1 _) ⟨w17.heap.size, 0, none⟩ 1 1 (rcCells ⟨-78, 0, 0, 0, 0, ByteArray.empty, ByteArray.empty⟩) rfl rfl (World.news_of_block (heap_alloc_new _ _)) rc_one (by decide) (by unfold maxLen; omega) (by omega) (by have := hgr1.size; simp at this ⊢; omega) _ rfl ?_; intro gm capm w18 hown2 hgr2 hat2 hlt2))
  have hb18 : Below w16.heap.size w16 w18 := ((((Below.refl w16.heap.size w16).alloc (Nat.le_refl _) (.cells #[] 32)).grown hgr1 hsz (fun j hj => by have e : some w16.heap.size = some j := hj; injection e with e; omega)).alloc (by have := hgr1.size; simp at this ⊢; omega) (.cells #[.int .i64 (-78), .int .i64 0, .int .i64 0, .int .i64 0, .int .i64 0, .string ByteArray.empty, .string ByteArray.empty] 32)).grown hgr2 (by have := hgr1.size; simp at this ⊢; omega) (fun j hj => (World.ownsRow.lt hown1 j hj).1)
  have hR2 : OwnR w18 w16.heap.size (.slice (some ⟨gm, 0, none⟩) (rs.length + 1) capm) (rs ++ [⟨-78, 0, 0, 0, 0, ByteArray.empty, ByteArray.empty⟩]) := by
    unfold OwnR
    rw [List.length_append, List.flatMap_append]
    simpa using hown2
  obtain ⟨hms, hmc⟩ := hR2.less
  obtain ⟨_, _, e, hcm1, hcm2⟩ := row_shape hown2
  injection e with e0 e1 e2
  subst e0 e2
  clear e1
  have hgml := World.ownsRow.lt hown2 gm rfl
  have F18 := Lib.hid (F16.out.more hb18)
  unfold maxLen at hcm2
  obtain ⟨n1, hn1⟩ : ∃ n1, n1 = rs.length + 1 := ⟨_, rfl⟩
  rw [← hn1]
  have hx1 : (rs.length : Int) < n1 := by omega
  have hx2 : (rs.length : Int) ≤ capm := by omega
  have hx3 : rs.length ≤ capm := by omega
  have hgm2 := hgml.2
  have c19 := foldS F18.out.room.toS hms HF.out
  clear hown1 hgr1 hat1 hown2 hgr2 hat2 hlt2 hb18 hR2 F16 hx' hsz hgml hn1 hms
  go_upto_region 17 with (go_at_call 10; refine c19.mono ?_; rintro e w19 ⟨vy, rfl, hy, hb19⟩)
  have hmc9 := (hb19.cell (p := ⟨gm, rs.length * 7, none⟩) hgm2).trans hmc
  have F19 := Lib.hid (F18.out.more hb19)
  clear c19 hy hb19 F18 hmc
  go_upto_region 19 with fail
  obtain ⟨Al, cl, hvl, hl1, hl2⟩ := row_shape F19.out.recs
  subst hvl
  unfold maxLen at hl2
  obtain ⟨n, hn⟩ : ∃ n, n = rs.length := ⟨_, rfl⟩
  have hn63 : n ≤ 9223372036854775807 := by omega
  have Hn := Lib.hid hn
  have Hcode := Lib.hid trivial
  clear hmc9 hgm2 hcm1 hcm2 hx1 hx2 hx3
  rw [← hn] at hl1
  obtain ⟨hf, hhf⟩ : ∃ h, h = n / 2 := ⟨_, rfl⟩
  have hq0 : (n : Int).tdiv 2 = (hf : Int) := by rw [Int.tdiv_eq_ediv_of_nonneg (by omega)]; omega
  have hq1 : IntKind.i64.wrap (hf : Int) = (hf : Int) := by rw [IntKind.wrap_i64]; omega
  have Hhf := Lib.hid hhf
  clear hhf Hcode
  go_wp2
  rw [← hn]
  clear hn
  go_loopg [17] hf (fun g' i wr => ∃ (k : Nat) (ys : List Rc), g' + k = hf ∧ i = .int .i64 (k : Nat) ∧ ys.length = n ∧ FW w wr g cap B1 (.slice Al n cl) ps ys)
  case atStart => exact ⟨0, rs, by omega, rfl, Hn.out.symm, by rw [Hn.out]; exact F19.out⟩
  case round =>
    obtain ⟨k, ys, hk, rfl, hyl, hFW⟩ := hrel
    have Hk := Lib.hid hk
    have hkn : k ≤ hf := by omega
    have Hyl := Lib.hid hyl
    have FL := Lib.hid hFW
    by_cases hkl : k < hf
    · have hki : (k : Int) < hf := by omega
      have hhf := Hhf.out
      obtain ⟨j, hj⟩ : ∃ j, n = j + 1 + k := ⟨n - 1 - k, by omega⟩
      have hkj : k < j := by omega
      have hw1 : IntKind.i64.wrap ((n : Int) - 1) = (n : Int) - 1 := by rw [IntKind.wrap_i64]; omega
      have hw2 : IntKind.i64.wrap ((n : Int) - 1 - k) = (j : Int) := by rw [IntKind.wrap_i64]; omega
      have hkx : (k : Int) < n := by omega
      have hjx : (j : Int) < n := by omega
      have hjl : j < ys.length := by omega
      have hkl2 : k < ys.length := by omega
      have hrec := hFW.recs
      rw [← hyl] at hrec
      obtain ⟨gl, cap2, e, hg1, hg2⟩ := World.ownsRow.form hrec (by omega)
      injection e with e eln e2
      clear eln
      subst e e2
      obtain ⟨r1, hr1⟩ : ∃ r, ys[k]? = some r := ⟨_, List.getElem?_eq_getElem hkl2⟩
      obtain ⟨r2, hr2⟩ : ∃ r, ys[j]? = some r := ⟨_, List.getElem?_eq_getElem hjl⟩
      obtain ⟨a0, a1, a2, a3, a4, a5, a6⟩ := hrec.at7 hr1
      have Hr1 := Lib.hid hr1
      have Hr2 := Lib.hid hr2
      have Hkj := Lib.hid hkj
      have Hjl := Lib.hid hjl
      have Hkl2 := Lib.hid hkl2
      have Hrec := Lib.hid hrec
      clear hj hkj hhf hr1 hr2 hrec hjl hkl2 hyl hFW hk hkl hkn hg1
      go_upto_region 23 with fail
      have hrecA := Hrec.out.below ((Below.refl wr.heap.size wr).alloc (Nat.le_refl _) (.cells #[.int .i64 r1.kind, .int .i64 r1.off, .int .i64 r1.tim, .int .i64 r1.pid, .int .i64 r1.seq, .string r1.key, .string r1.val] 32)) (Nat.le_refl _)
      have hblkA := Blk.new wr 32 #[.int .i64 r1.kind, .int .i64 r1.off, .int .i64 r1.tim, .int .i64 r1.pid, .int .i64 r1.seq, .string r1.key, .string r1.val]
      have hFA := FL.out.more ((Below.refl wr.heap.size wr).alloc (Nat.le_refl _) (.cells #[.int .i64 r1.kind, .int .i64 r1.off, .int .i64 r1.tim, .int .i64 r1.pid, .int .i64 r1.seq, .string r1.key, .string r1.val] 32))
      clear a0 a1 a2 a3 a4 a5 a6
      generalize hWa : wr.alloc (.cells #[.int .i64 r1.kind, .int .i64 r1.off, .int .i64 r1.tim, .int .i64 r1.pid, .int .i64 r1.seq, .string r1.key, .string r1.val] 32) = wa at *
      clear hWa
      have HrecA := Lib.hid hrecA
      have HblkA := Lib.hid hblkA
      have FLA := Lib.hid hFA
      obtain ⟨a0, a1, a2, a3, a4, a5, a6⟩ := hrecA.at7 Hr1.out
      obtain ⟨b0, b1, b2, b3, b4, b5, b6⟩ := hrecA.at7 Hr2.out
      have fz : ∀ i, wa.frozen? ⟨gl, i, none⟩ = false := fun i => World.ownsRow.frozenAt hrecA i
      clear hrecA hblkA hFA
      go_cut [] (fun wx => OwnR wx B1 (.slice (some ⟨gl, 0, none⟩) ys.length cl) (ys.set k r2) ∧ Kp (fun i => i = gl) wa wx)
      case first =>
        go_wp2
        go_meet
        case rel => exact HrecA.out.set7 Hkl2.out r2
      case rest =>
        obtain ⟨hrecB, hkB⟩ := hcut
        rename World => wb
        have hne : ¬ wr.heap.size = gl := by omega
        have hblkB : Blk wb wr.heap.size 32 #[.int .i64 r1.kind, .int .i64 r1.off, .int .i64 r1.tim, .int .i64 r1.pid, .int .i64 r1.seq, .string r1.key, .string r1.val] := (hkB.block _ HblkA.out.lt hne).trans HblkA.out
        have c0 := hblkB.cell 0
        have c1 := hblkB.cell 1
        have c2 := hblkB.cell 2
        have c3 := hblkB.cell 3
        have c4 := hblkB.cell 4
        have c5 := hblkB.cell 5
        have c6 := hblkB.cell 6
        simp only [List.getElem?_toArray, List.getElem?_cons_zero, List.getElem?_cons_succ] at c0 c1 c2 c3 c4 c5 c6
        have hr3 : (ys.set k r2)[j]? = some r2 := by rw [List.getElem?_set_ne (by have := Hkj.out; omega)]; exact Hr2.out
        have hrecB' : OwnR wb B1 (.slice (some ⟨gl, 0, none⟩) (ys.set k r2).length cl) (ys.set k r2) := by rw [List.length_set]; exact hrecB
        clear a0 a1 a2 a3 a4 a5 a6 b0 b1 b2 b3 b4 b5 b6 fz
        obtain ⟨b0, b1, b2, b3, b4, b5, b6⟩ := hrecB'.at7 hr3
        have fz : ∀ i, wb.frozen? ⟨gl, i, none⟩ = false := fun i => World.ownsRow.frozenAt hrecB' i
        have HkB := Lib.hid hkB
        have HrecB := Lib.hid hrecB'
        clear hrecB hrecB' hkB hr3 hblkB
        go_upto_region 21 with fail
        obtain ⟨h7, hk7⟩ := HrecB.out.set7 (by rw [List.length_set]; exact Hjl.out) r1
        rw [List.length_set] at h7
        rw [Hyl.out] at h7
        have hkC := HkB.out.trans hk7 (fun i e => .inl e)
        have hFN : FW w _ g cap B1 (.slice (some ⟨gl, 0, none⟩) n cl) ps ((ys.set k r2).set j r1) :=
          ⟨FLA.out.room.keep (hkC.block g (by have := FLA.out.lt; have := FLA.out.hB; omega) (fun e => by have := (World.ownsRow.lt HrecA.out gl rfl).1; have := FLA.out.lt; omega)), h7, hkC.to_below FLA.out.below FLA.out.below.size (fun i e => by have := (World.ownsRow.lt HrecA.out gl rfl).1; have := FLA.out.lo; omega), FLA.out.lt, Nat.le_trans FLA.out.hB hkC.size⟩
        have HFN := Lib.hid hFN
        clear h7 hk7 hkC hFN b0 b1 b2 b3 b4 b5 b6 c0 c1 c2 c3 c4 c5 c6 fz
        go_wp2
        have hk := Hk.out
        go_roundg (gk - 1)
        case measure => omega
        case rel => exact ⟨k + 1, _, by omega, by go_num, by simp; exact Hyl.out, HFN.out⟩
    · have hki : ¬ (k : Int) < hf := by omega
      obtain ⟨codeY, LY, hfy⟩ : ∃ c L, foldR ps ys = (c, L) := ⟨_, _, rfl⟩
      have Hfy := Lib.hid hfy
      have c25 := foldS hFW.room.toS hFW.recs.toS hfy
      clear hfy hk hyl hFW hkl hkn
      go_upto_region 26 with (go_at_call 10; refine c25.mono ?_; rintro e w25 ⟨vc, rfl, hc, hb25⟩)
      have F25 := Lib.hid (FL.out.more hb25)
      have Hc := Lib.hid hc
      clear c25 hc hb25
      have c26 := foldRef_any v0 _ ps ys w25 codeY LY (H0.out.below F25.out.below) F25.out.recs.toS Hfy.out
      go_upto_region 27 with (go_at_call 11; refine c26.mono ?_; rintro e w26 ⟨vd, rfl, hd, hb26⟩)
      have F26 := Lib.hid (F25.out.more hb26)
      have c27 := sameS (Hc.out.below hb26 (Nat.le_refl _)).toS hd.toS
      rw [decide_eq_true rfl] at c27
      have hcy : (codeY == codeY) = true := by simp
      clear c26 hd hb26
      go_wp2_with (go_at_call 12; refine c27.mono ?_; rintro e w27 ⟨rfl, hb27⟩; have F27 := Lib.hid (F26.out.more hb27); clear hb27)
      go_ret
      exact ⟨rfl, F27.out.below⟩

end Go.Proofs.Ytmcahimapoddfaa
