/- The walk of sched.Enter once more: its answer lies in memory of its own. Conditions: the turns are readable, their lists and numbers within reach. -/
import Derived.Test.YtgbjhkgbjnobcaaAskOwn
namespace Go.Proofs.Ytgbjhkgbjnobcaa
open Go.RowKit Trn Go.Lib

/-- Insert, wherever. -/
theorem insert_own (b n i vb : Nat) (l : List R4) (r : R4) (w : World) (hi : i ≤ n) (hn : n ≤ 31) (hl : l.length = n) (hb : QBlk w b l) (h1c : ∀ v ∈ flat l, v.oneCell' = true) (h1v : ∀ v ∈ flat [r], v.oneCell' = true)
    (hvs : ∀ j v, (flat [r])[j]? = some v → w.cell? ⟨vb, 0 + j, none⟩ = some v) :
    Calls Try.prog 40 #[.slice (some ⟨b, 0, none⟩) n n, .int .i64 i, .slice (some ⟨vb, 0, none⟩) 1 1] w fun e w' =>
      ∃ cap, e = .returned (.slice (some ⟨w.heap.size, 0, none⟩) (n + 1) cap) ∧ n + 1 ≤ cap ∧ cap ≤ maxLen ∧ Below w.heap.size w w' ∧ ∃ k, cap = n + 1 + k ∧ QBlk w' w.heap.size (l.take i ++ r :: (l.drop i ++ List.replicate k zrow)) := by
  have hcl : (flat l).length = n * 4 := by rw [flat_len, hl]
  have hcs : ∀ j v, (flat l)[j]? = some v → w.cell? ⟨b, 0 + j, none⟩ = some v := fun j v h => by
    rw [Nat.zero_add, Blk.cell hb]
    simpa using h
  have hge := grownCap_ge w (n + 1) n 51
  have hle := grownCap_le_maxLen w (n + 1) n 51 (by unfold maxLen; omega)
  by_cases hin : i = n
  · subst hin
    refine Calls.mono (insert_last b i vb (flat l) (flat [r]) w hn hcl rfl hcs hvs) ?_
    rintro e w' ⟨rfl, rfl⟩
    refine ⟨_, rfl, hge, hle, ((Below.refl _ _).drew).alloc (Nat.le_refl _) _, grownCap w (i + 1) i 51 - (i + 1), by omega, ?_⟩
    have := Blk.new w.drew 51 ((flat l).toArray ++ (flat [r]).toArray ++ Builtin.zeroCells (Value.agg #[.int .i64 0, .int .i64 0, .int .i64 0, .slice none 0 0]).cells (grownCap w (i + 1) i 51 - (i + 1)))
    rw [zero_rows, List.append_toArray, List.append_toArray, ← flat_append, ← flat_append] at this
    rw [zero_rows, List.append_toArray, List.append_toArray, ← flat_append, ← flat_append]
    rw [← hl, List.take_length, List.drop_length]
    simpa [QBlk, hl] using this
  · refine Calls.mono (insert_grow b n i vb (flat l) (flat [r]) w (by omega) hn hcl rfl hcs hvs h1c h1v) ?_
    rintro e w' ⟨rfl, rfl⟩
    have hb0 := ((Below.refl w.heap.size w).alloc (Nat.le_refl _) (.cells (((flat l).take (i * 4)).toArray ++ Builtin.zeroCells (Value.agg #[.int .i64 0, .int .i64 0, .int .i64 0, .slice none 0 0]).cells (n + 1 - i) ++ Builtin.zeroCells (Value.agg #[.int .i64 0, .int .i64 0, .int .i64 0, .slice none 0 0]).cells (grownCap w (n + 1) n 51 - (n + 1))) 51)).drew
    have hb1 := (below_cells (Nat.le_refl _) (flat [r]) (i * 4) _ hb0).drew
    have hb2 := below_cells (Nat.le_refl _) ((flat l).drop (i * 4)) (i * 4 + 4) _ hb1
    refine ⟨_, rfl, hge, hle, hb2, grownCap w (n + 1) n 51 - (n + 1), by omega, ?_⟩
    have h0 := Blk.new w 51 (((flat l).take (i * 4)).toArray ++ Builtin.zeroCells (Value.agg #[.int .i64 0, .int .i64 0, .int .i64 0, .slice none 0 0]).cells (n + 1 - i) ++ Builtin.zeroCells (Value.agg #[.int .i64 0, .int .i64 0, .int .i64 0, .slice none 0 0]).cells (grownCap w (n + 1) n 51 - (n + 1)))
    generalize grownCap w (n + 1) n 51 - (n + 1) = k at h0 ⊢
    have hlt : (l.take i).length = i := by rw [List.length_take]; omega
    rw [zero_rows, zero_rows, List.append_toArray, List.append_toArray, flat_take, take_rep (n + 1 - i) 1 (by omega), flat_append] at h0
    rw [zero_rows, zero_rows, List.append_toArray, List.append_toArray, flat_take, take_rep (n + 1 - i) 1 (by omega), flat_append, flat_drop]
    have e1 : flat (l.take i) ++ (flat (List.replicate 1 zrow) ++ flat (List.replicate (n + 1 - i - 1) zrow)) ++ flat (List.replicate k zrow) = flat (l.take i) ++ flat [zrow] ++ (flat (List.replicate (n + 1 - i - 1) zrow) ++ flat (List.replicate k zrow)) := by
      simp [List.replicate]
    rw [e1] at h0 ⊢
    have h2 := Blk.splice (flat [r]) (flat (l.take i)) (flat [zrow]) _ _ rfl (Blk.drew h0)
    have e2 : flat (l.take i) ++ flat [r] ++ (flat (List.replicate (n + 1 - i - 1) zrow) ++ flat (List.replicate k zrow)) = (flat (l.take i) ++ flat [r]) ++ flat (List.replicate (n + 1 - i - 1) zrow) ++ flat (List.replicate k zrow) := by simp
    rw [e2] at h2
    have h3 := Blk.splice (flat (l.drop i)) (flat (l.take i) ++ flat [r]) (flat (List.replicate (n + 1 - i - 1) zrow)) _ _ (by rw [flat_len, flat_len, List.length_replicate, List.length_drop, hl]; omega) (Blk.drew h2)
    have e3 : (flat (l.take i) ++ flat [r]).length = i * 4 + 4 := by rw [List.length_append, flat_len, hlt]; rfl
    have e4 : (flat (l.take i)).length = i * 4 := by rw [flat_len, hlt]
    rw [e3, e4] at h3
    have e5 : flat (l.take i) ++ flat [r] ++ flat (l.drop i) ++ flat (List.replicate k zrow) = flat (l.take i ++ r :: (l.drop i ++ List.replicate k zrow)) := by
      simp [flat_append, flat]
    rw [e5] at h3
    exact h3
set_option maxRecDepth 100000 in
set_option maxHeartbeats 4000000 in
theorem enter_own (v : Value) (t : Tu) (id quantum : Int) (w : World) (B : Nat) (hB : B ≤ w.heap.size) (hv : TuAt w B v t) (hr : Reach t) (hids : Ids t) (hid : id ≤ 9223372036854775807) :
    Calls Try.prog 21 #[v, .int .i64 id, .int .i64 quantum] w fun e w' => (∃ v' t' n, e = .returned (.tuple #[v', .int .i64 n]) ∧ TuOwn w' w.heap.size v' t' ∧ EnterIs t id quantum t' n) ∧ Below w.heap.size w w' := by
  have Hv := Lib.hid hv
  obtain ⟨A, c, rfl, hlc, hcm, hq⟩ := hv
  clear hq
  have hbx : ∀ w1, Below w.heap.size w w1 → Calls Try.prog 20 #[.agg #[.slice A t.qs.length c, .int .i64 t.at_, .bool t.fr]] w1 fun e w' => e = .returned (.int .i64 (chk t)) ∧ Below w1.heap.size w1 w' := fun w1 hb =>
    check_any _ t w1 B (by have := hb.size; omega) (Hv.out.below (hb.mono hB))
  by_cases hck : chk t = 0
  · have hval := chk_zero.1 hck
    rw [hck] at hbx
    have hasc := asc_of hval hids
    by_cases h0 : id < 0
    · have hno : ¬ comes t id quantum := fun h => by have := h.1; omega
      have Hval := Lib.hid hval
      have Hno := Lib.hid hno
      clear hval hno hasc hck
      go_enter Try.func21, Try.ntmps21
      go_upto_region 1 with fail
      have hx := (Boxed.start w A t.qs.length c t.at_ t.fr).alloc (.cells #[.slice none 0 0, .int .i64 0, .bool false] 34)
      have hres := Blk.new (w.alloc (.cells #[.slice A t.qs.length c, .int .i64 t.at_, .bool t.fr] 34)) 34 #[.slice none 0 0, .int .i64 0, .bool false]
      rw [World.size_alloc] at hres
      generalize hW0 : World.alloc (World.alloc _ _) _ = W0
      rw [hW0] at hx hres
      clear hW0
      obtain ⟨x0, x1, x2⟩ := hx.cells
      have HR := Lib.hid hres
      have HXB := Lib.hid hx.below
      clear hx hres
      go_wp2_with (first
        | (go_at_call 20; refine Calls.mono (hbx _ HXB.out) ?_; rintro e w1 ⟨rfl, hb1⟩; have hr1 := HR.out.below hb1 HR.out.lt; have r0 := hr1.cell 0; have r1 := hr1.cell 1; have r2 := hr1.cell 2; simp at r0 r1 r2; have f0 := hr1.frozen 0; have f1 := hr1.frozen 1; have f2 := hr1.frozen 2; have Hb1 := Lib.hid hb1; clear hr1 hb1))
      obtain ⟨hfin, hbel⟩ := none_ret HXB.out HR.out Hb1.out
      have s0 := hfin.cell 0
      have s1 := hfin.cell 1
      have s2 := hfin.cell 2
      simp at s0 s1 s2
      exact bodyPost_ret (v := .tuple #[.agg #[.slice none 0 0, .int .i64 0, .bool false], .int .i64 190]) (by simp [results, Try.results21, go_sem, s0, s1, s2]) rfl
        ⟨⟨_, none_, 190, rfl, none_own _ _, .inr (.inl ⟨Hval.out, Hno.out, rfl, rfl⟩)⟩, hbel⟩
    · have hfd : ∀ w1, Below w.heap.size w w1 → Calls Try.prog 39 #[.agg #[.slice A t.qs.length c, .int .i64 t.at_, .bool t.fr], .int .i64 id] w1 fun e w' => (∃ p b, e = .returned (.tuple #[.int .i64 (p : Nat), .bool b]) ∧ Spot t.qs id p b) ∧ Below w1.heap.size w1 w' := fun w1 hb =>
        find_any _ t id w1 B (by have := hb.size; omega) (Hv.out.below (hb.mono hB)) hval.len hasc ⟨by omega, hid⟩
      by_cases hcm : comes t id quantum
      · have hno := hcm.2.1
        have hfd1 : ∀ w1, Below w.heap.size w w1 → Calls Try.prog 39 #[.agg #[.slice A t.qs.length c, .int .i64 t.at_, .bool t.fr], .int .i64 id] w1 fun e w' => (∃ p : Nat, e = .returned (.tuple #[.int .i64 (p : Nat), .bool false]) ∧ Spot t.qs id p false) ∧ Below w1.heap.size w1 w' := fun w1 hb => by
          refine Calls.mono (hfd w1 hb) ?_
          rintro e w' ⟨⟨p, b, rfl, hs⟩, hb'⟩
          have hbf := spot_no hs hno
          subst hbf
          exact ⟨⟨p, rfl, hs⟩, hb'⟩
        have hcp : ∀ w1, Below w.heap.size w w1 → Calls Try.prog 32 #[.agg #[.slice A t.qs.length c, .int .i64 t.at_, .bool t.fr]] w1 fun e w' => (∃ g l, e = .returned (.agg #[.slice (some ⟨g, 0, none⟩) t.qs.length t.qs.length, .int .i64 t.at_, .bool t.fr]) ∧ OwnQs w' w1.heap.size g l ∧ l.map (·.1) = t.qs) ∧ Below w1.heap.size w1 w' := fun w1 hb =>
          copied_any _ t w1 B (by have := hb.size; omega) (Hv.out.below (hb.mono hB)) hval.len hr
        have h32 := hcm.2.2.1
        have h32i : ((t.qs.length : Int) == 32) = false := by simp; omega
        have hwt := fun u => within_any quantum 1 65536 u
        simp only [inB_yes hcm.2.2.2] at hwt
        have hat := hval.at_
        have Hval := Lib.hid hval
        have Hcm := Lib.hid hcm
        clear hfd hval hasc hck hcm hno
        go_enter Try.func21, Try.ntmps21
        go_upto_region 1 with fail
        have hx := (Boxed.start w A t.qs.length c t.at_ t.fr).alloc (.cells #[.slice none 0 0, .int .i64 0, .bool false] 34)
        have hres := Blk.new (w.alloc (.cells #[.slice A t.qs.length c, .int .i64 t.at_, .bool t.fr] 34)) 34 #[.slice none 0 0, .int .i64 0, .bool false]
        rw [World.size_alloc] at hres
        generalize hW0 : World.alloc (World.alloc _ _) _ = W0
        rw [hW0] at hx hres
        clear hW0
        obtain ⟨x0, x1, x2⟩ := hx.cells
        have HX := Lib.hid hx
        have HR := Lib.hid hres
        have HXB := Lib.hid hx.below
        clear hx hres
        go_upto_region 10 with (first
          | (go_at_call 20; refine Calls.mono (hbx _ HXB.out) ?_; rintro e w1 ⟨rfl, hb1⟩; have hx1 := HX.out.more hb1; obtain ⟨y0, y1, y2⟩ := hx1.cells; have hxb1 := hx1.below; have HXB1 := Lib.hid hxb1; have HX1 := Lib.hid hx1; have Hb1 := Lib.hid hb1; clear hx1 hxb1 hb1)
          | (go_at_call 39; refine Calls.mono (hfd1 _ HXB1.out) ?_; rintro e w2 ⟨⟨p, rfl, hsp⟩, hb2⟩; have Hsp := Lib.hid hsp; have hx2 := HX1.out.more hb2; obtain ⟨z0, z1, z2⟩ := hx2.cells; have hb3 := Hb1.out.trans (hb2.mono Hb1.out.size); have Hb3 := Lib.hid hb3; have HX2 := Lib.hid hx2; have HXB2 := Lib.hid hx2.below; clear hb3 hb2 hx2 hsp)
          | (go_at_call 38; refine Calls.mono (hwt _) ?_; rintro e w3 ⟨rfl, rfl⟩)
          | (go_at_call 32; refine Calls.mono (hcp _ HXB2.out) ?_; rintro e w4 ⟨⟨g, l, rfl, ho, hl⟩, hb4⟩))
        have hnm := NM.start (t := t) HXB.out HR.out Hb3.out hb4 ho hl
        have hbx5 := (HX2.out.more hb4).alloc (.cells #[.slice (some ⟨g, 0, none⟩) t.qs.length t.qs.length, .int .i64 t.at_, .bool t.fr] 34)
        clear hl ho HR HX HXB HXB1 HXB2 HX1 HX2 x0 x1 x2 y0 y1 y2 z0 z1 z2 hcp hbx hfd1 hwt Hb1 Hb3 hb4
        generalize hW5 : World.alloc _ _ = w5
        rw [hW5] at hnm hbx5
        clear hW5
        generalize w4.heap.size = cb at *
        obtain ⟨x0, x1, x2⟩ := hbx5.cells
        have k0 := hnm.cblk.cell 0
        have k1 := hnm.cblk.cell 1
        have k2 := hnm.cblk.cell 2
        simp at k0 k1 k2
        have kf := hnm.cblk.frozen 1
        have hcl : cb < w5.heap.size := hnm.cblk.lt
        have hcb := hnm.gc
        obtain ⟨hat0, hat1, _⟩ := hat
        have hpn := Hsp.out.le
        by_cases hge : 0 < t.qs.length ∧ (p : Int) ≤ t.at_
        · have e1 : (0 : Int) < t.qs.length := by omega
          have e2 : (p : Int) ≤ t.at_ := hge.2
          have e3 : IntKind.i64.wrap (t.at_ + 1) = t.at_ + 1 := by rw [IntKind.wrap_i64]; omega
          have Hnm := Lib.hid hnm
          have Hge := Lib.hid hge
          clear hnm hge hbx5
          go_upto_region 12 with fail
          have hnm2 := Hnm.out.touch ((Touch.refl cb w5).set_ 1 (.int .i64 (t.at_ + 1))) (at_ := t.at_ + 1) (fr := t.fr) (by have := Hnm.out.cblk.set_ 1 (.int .i64 (t.at_ + 1)); simpa using this)
          have hEn : entered t p id quantum = ⟨t.qs.take p ++ ⟨id, quantum, 0, []⟩ :: t.qs.drop p, t.at_ + 1, t.fr⟩ := by rw [entered, if_pos Hge.out]
          clear Hge e2 e1 e3 x0 x1 x2 k0 k1 k2 kf hcl Hnm
          generalize hW6 : World.setCell _ _ _ = w6
          rw [hW6] at hnm2
          clear hW6
          generalize t.at_ + 1 = at6 at *
          obtain ⟨l6, ho6, hl6⟩ := hnm2.own
          have hl6 : l6.map (·.1) = t.qs := hl6
          have hlen6 : l6.length = t.qs.length := by rw [← hl6, List.length_map]
          have k0 := hnm2.cblk.cell 0
          simp at k0
          have hgl : g < w6.heap.size := Blk.lt ho6.blk
          have hcl : cb < w6.heap.size := hnm2.cblk.lt
          have hgc := hnm2.gc
          have hgg := hnm2.gg
          have hb6 := hnm2.below
          have hcb6 := hnm2.cblk
          have hres6 := hnm2.res
          have hrl := hres6.lt
          have hbn := Blk.new w6 51 #[.int .i64 id, .int .i64 quantum, .int .i64 0, .slice none 0 0]
          have hins := insert_own g t.qs.length p w6.heap.size (rows l6) (row ⟨id, quantum, 0, []⟩ (.slice none 0 0)) (w6.alloc (.cells #[.int .i64 id, .int .i64 quantum, .int .i64 0, .slice none 0 0] 51)) hpn (by omega) (by rw [rows, List.length_map, hlen6]) (Blk.alloc ho6.blk _) (rows_one fun p hp => by obtain ⟨i, hi⟩ := List.getElem?_of_mem hp; obtain ⟨A, c, e, _⟩ := (ho6.own i p hi).read (Nat.le_refl _); rw [e]; rfl) (fun v hv => by simp [flat, row] at hv; rcases hv with rfl | rfl | rfl | rfl <;> rfl) (fun j v hj => by rw [Nat.zero_add, Blk.cell hbn]; rw [← List.getElem?_toArray] at hj; exact hj)
          have Hb6 := Lib.hid hb6
          have Hcb6 := Lib.hid hcb6
          have Hres6 := Lib.hid hres6
          have Ho6 := Lib.hid ho6
          have HEn := Lib.hid hEn
          clear hnm2 hb6 hcb6 hres6 ho6 hbn hEn
          go_wp2_with (first
            | (go_at_call 40; refine Calls.mono hins ?_; rintro e w7 ⟨cap, rfl, hcap, hcapm, hb7, kz, hkz, hq7⟩; have Hkz := Lib.hid hkz; clear hkz; rw [World.size_alloc] at hb7 hq7; have hb67 : Below w6.heap.size w6 w7 := ((Below.refl _ _).alloc (Nat.le_refl _) _).trans (hb7.mono (Nat.le_succ _)); have hc7 := Hcb6.out.below hb67 hcl; have hr7 := Hres6.out.below hb67 hrl; have k0 := hc7.cell 0; have k1 := hc7.cell 1; have k2 := hc7.cell 2; simp at k0 k1 k2; have kf := hc7.frozen 0; have r0 := hr7.cell 0; have r1 := hr7.cell 1; have r2 := hr7.cell 2; simp at r0 r1 r2; have f0 := hr7.frozen 0; have f1 := hr7.frozen 1; have f2 := hr7.frozen 2; have Hb67 := Lib.hid hb67; have Hq7 := Lib.hid hq7; have Hr7 := Lib.hid hr7; clear hb67 hb7 hq7 hr7 hc7))
          have hc7 := Hcb6.out.below Hb67.out hcl
          have hl7 : rows (l6.take p ++ (⟨id, quantum, 0, []⟩, .slice none 0 0) :: l6.drop p) ++ List.replicate kz zrow = List.take p (rows l6) ++ row ⟨id, quantum, 0, []⟩ (.slice none 0 0) :: (List.drop p (rows l6) ++ List.replicate kz zrow) := by simp [rows]
          have hq8 : QBlk (w7.setCell ⟨cb, 0, none⟩ (.slice (some ⟨w6.heap.size + 1, 0, none⟩) (t.qs.length + 1) cap)) (w6.heap.size + 1) (rows (l6.take p ++ (⟨id, quantum, 0, []⟩, .slice none 0 0) :: l6.drop p) ++ List.replicate kz zrow) := by
            rw [hl7]
            exact Blk.far Hq7.out (by show w6.heap.size + 1 ≠ cb; omega) _
          have ho8 : ∀ (i : Nat) (x : Qu × Value), (l6.take p ++ (⟨id, quantum, 0, []⟩, .slice none 0 0) :: l6.drop p)[i]? = some x → OwnInts (w7.setCell ⟨cb, 0, none⟩ (.slice (some ⟨w6.heap.size + 1, 0, none⟩) (t.qs.length + 1) cap)) (w.heap.size + 2) x.2 x.1.cs := fun i x hx => by
            have hm := List.mem_of_getElem? hx
            have hx6 : x ∈ l6 ∨ x = (⟨id, quantum, 0, []⟩, .slice none 0 0) := by
              rcases List.mem_append.1 hm with h | h
              · exact .inl (List.mem_of_mem_take h)
              · rcases List.mem_cons.1 h with h | h
                · exact .inr h
                · exact .inl (List.mem_of_mem_drop h)
            rcases hx6 with h | rfl
            · obtain ⟨j, hj⟩ := List.getElem?_of_mem h
              have h1 := (Ho6.out.own j x hj).below Hb67.out (Nat.le_refl _)
              exact h1.setCell (h1.ne_blk hc7 (by decide)) _
            · exact World.ownsRow_nil _ _ 3 1
          have hb8 := (Hb6.out.trans (Hb67.out.mono Hb6.out.size)).setCell (p := ⟨cb, 0, none⟩) (by show w.heap.size ≤ cb; omega) (.slice (some ⟨w6.heap.size + 1, 0, none⟩) (t.qs.length + 1) cap)
          obtain ⟨hq, hbl', hfin⟩ := out_own hb8 (Hr7.out.far (by show w.heap.size + 1 ≠ cb; omega) _) (by omega) hq8 ho8 (Apart.ins Ho6.out.apart p _) (t.qs.length + 1) cap (by simp; omega) (by have := Hkz.out; rw [List.length_replicate]; omega) hcapm (.slice (some ⟨w6.heap.size + 1, 0, none⟩) (t.qs.length + 1) cap) (.int .i64 at6) (.bool t.fr)
          have s0 := hfin.cell 0
          have s1 := hfin.cell 1
          have s2 := hfin.cell 2
          simp at s0 s1 s2
          have hqs : (l6.take p ++ ((⟨id, quantum, 0, []⟩ : Qu), Value.slice none 0 0) :: l6.drop p).map (·.1) = (entered t p id quantum).qs := by
            rw [HEn.out]
            simp only [List.map_append, List.map_cons, List.map_take, List.map_drop, hl6]
          exact bodyPost_ret (v := .tuple #[.agg #[.slice (some ⟨w6.heap.size + 1, 0, none⟩) (t.qs.length + 1) cap, .int .i64 at6, .bool t.fr], .int .i64 0]) (by simp [results, Try.results21, go_sem, s0, s1, s2]) rfl
            ⟨⟨_, entered t p id quantum, 0, rfl, ⟨_, _, by rw [HEn.out], hq, by rw [map_own, hqs]⟩, .inr (.inr ⟨Hval.out, Hcm.out, rfl, p, Hsp.out, rfl⟩)⟩, hbl'⟩
        · by_cases e1 : 0 < t.qs.length
          · have e1i : (0 : Int) < t.qs.length := by omega
            have e2 : ¬ (p : Int) ≤ t.at_ := fun h => hge ⟨e1, h⟩
            have Hnm := Lib.hid hnm
            have Hge := Lib.hid hge
            clear hnm hge hbx5
            go_upto_region 12 with fail
            have hEn : entered t p id quantum = ⟨t.qs.take p ++ ⟨id, quantum, 0, []⟩ :: t.qs.drop p, t.at_, t.fr⟩ := by rw [entered, if_neg Hge.out]
            have hnm2 := Hnm.out
            clear Hge e2 e1 e1i x0 x1 x2 k0 k1 k2 kf hcl Hnm
            generalize hW6 : w5 = w6 at *
            clear hW6
            generalize hA6 : t.at_ = at6 at *
            rw [show t = { t with at_ := at6, fr := t.fr } by rw [← hA6]] at hnm2
            obtain ⟨l6, ho6, hl6⟩ := hnm2.own
            have hl6 : l6.map (·.1) = t.qs := hl6
            have hlen6 : l6.length = t.qs.length := by rw [← hl6, List.length_map]
            have k0 := hnm2.cblk.cell 0
            simp at k0
            have hgl : g < w6.heap.size := Blk.lt ho6.blk
            have hcl : cb < w6.heap.size := hnm2.cblk.lt
            have hgc := hnm2.gc
            have hgg := hnm2.gg
            have hb6 := hnm2.below
            have hcb6 := hnm2.cblk
            have hres6 := hnm2.res
            have hrl := hres6.lt
            have hbn := Blk.new w6 51 #[.int .i64 id, .int .i64 quantum, .int .i64 0, .slice none 0 0]
            have hins := insert_own g t.qs.length p w6.heap.size (rows l6) (row ⟨id, quantum, 0, []⟩ (.slice none 0 0)) (w6.alloc (.cells #[.int .i64 id, .int .i64 quantum, .int .i64 0, .slice none 0 0] 51)) hpn (by omega) (by rw [rows, List.length_map, hlen6]) (Blk.alloc ho6.blk _) (rows_one fun p hp => by obtain ⟨i, hi⟩ := List.getElem?_of_mem hp; obtain ⟨A, c, e, _⟩ := (ho6.own i p hi).read (Nat.le_refl _); rw [e]; rfl) (fun v hv => by simp [flat, row] at hv; rcases hv with rfl | rfl | rfl | rfl <;> rfl) (fun j v hj => by rw [Nat.zero_add, Blk.cell hbn]; rw [← List.getElem?_toArray] at hj; exact hj)
            have Hb6 := Lib.hid hb6
            have Hcb6 := Lib.hid hcb6
            have Hres6 := Lib.hid hres6
            have Ho6 := Lib.hid ho6
            have HEn := Lib.hid hEn
            clear hnm2 hb6 hcb6 hres6 ho6 hbn hEn
            go_wp2_with (first
              | (go_at_call 40; refine Calls.mono hins ?_; rintro e w7 ⟨cap, rfl, hcap, hcapm, hb7, kz, hkz, hq7⟩; have Hkz := Lib.hid hkz; clear hkz; rw [World.size_alloc] at hb7 hq7; have hb67 : Below w6.heap.size w6 w7 := ((Below.refl _ _).alloc (Nat.le_refl _) _).trans (hb7.mono (Nat.le_succ _)); have hc7 := Hcb6.out.below hb67 hcl; have hr7 := Hres6.out.below hb67 hrl; have k0 := hc7.cell 0; have k1 := hc7.cell 1; have k2 := hc7.cell 2; simp at k0 k1 k2; have kf := hc7.frozen 0; have r0 := hr7.cell 0; have r1 := hr7.cell 1; have r2 := hr7.cell 2; simp at r0 r1 r2; have f0 := hr7.frozen 0; have f1 := hr7.frozen 1; have f2 := hr7.frozen 2; have Hb67 := Lib.hid hb67; have Hq7 := Lib.hid hq7; have Hr7 := Lib.hid hr7; clear hb67 hb7 hq7 hr7 hc7))
            have hc7 := Hcb6.out.below Hb67.out hcl
            have hl7 : rows (l6.take p ++ (⟨id, quantum, 0, []⟩, .slice none 0 0) :: l6.drop p) ++ List.replicate kz zrow = List.take p (rows l6) ++ row ⟨id, quantum, 0, []⟩ (.slice none 0 0) :: (List.drop p (rows l6) ++ List.replicate kz zrow) := by simp [rows]
            have hq8 : QBlk (w7.setCell ⟨cb, 0, none⟩ (.slice (some ⟨w6.heap.size + 1, 0, none⟩) (t.qs.length + 1) cap)) (w6.heap.size + 1) (rows (l6.take p ++ (⟨id, quantum, 0, []⟩, .slice none 0 0) :: l6.drop p) ++ List.replicate kz zrow) := by
              rw [hl7]
              exact Blk.far Hq7.out (by show w6.heap.size + 1 ≠ cb; omega) _
            have ho8 : ∀ (i : Nat) (x : Qu × Value), (l6.take p ++ (⟨id, quantum, 0, []⟩, .slice none 0 0) :: l6.drop p)[i]? = some x → OwnInts (w7.setCell ⟨cb, 0, none⟩ (.slice (some ⟨w6.heap.size + 1, 0, none⟩) (t.qs.length + 1) cap)) (w.heap.size + 2) x.2 x.1.cs := fun i x hx => by
              have hm := List.mem_of_getElem? hx
              have hx6 : x ∈ l6 ∨ x = (⟨id, quantum, 0, []⟩, .slice none 0 0) := by
                rcases List.mem_append.1 hm with h | h
                · exact .inl (List.mem_of_mem_take h)
                · rcases List.mem_cons.1 h with h | h
                  · exact .inr h
                  · exact .inl (List.mem_of_mem_drop h)
              rcases hx6 with h | rfl
              · obtain ⟨j, hj⟩ := List.getElem?_of_mem h
                have h1 := (Ho6.out.own j x hj).below Hb67.out (Nat.le_refl _)
                exact h1.setCell (h1.ne_blk hc7 (by decide)) _
              · exact World.ownsRow_nil _ _ 3 1
            have hb8 := (Hb6.out.trans (Hb67.out.mono Hb6.out.size)).setCell (p := ⟨cb, 0, none⟩) (by show w.heap.size ≤ cb; omega) (.slice (some ⟨w6.heap.size + 1, 0, none⟩) (t.qs.length + 1) cap)
            obtain ⟨hq, hbl', hfin⟩ := out_own hb8 (Hr7.out.far (by show w.heap.size + 1 ≠ cb; omega) _) (by omega) hq8 ho8 (Apart.ins Ho6.out.apart p _) (t.qs.length + 1) cap (by simp; omega) (by have := Hkz.out; rw [List.length_replicate]; omega) hcapm (.slice (some ⟨w6.heap.size + 1, 0, none⟩) (t.qs.length + 1) cap) (.int .i64 at6) (.bool t.fr)
            have s0 := hfin.cell 0
            have s1 := hfin.cell 1
            have s2 := hfin.cell 2
            simp at s0 s1 s2
            have hqs : (l6.take p ++ ((⟨id, quantum, 0, []⟩ : Qu), Value.slice none 0 0) :: l6.drop p).map (·.1) = (entered t p id quantum).qs := by
              rw [HEn.out]
              simp only [List.map_append, List.map_cons, List.map_take, List.map_drop, hl6]
            exact bodyPost_ret (v := .tuple #[.agg #[.slice (some ⟨w6.heap.size + 1, 0, none⟩) (t.qs.length + 1) cap, .int .i64 at6, .bool t.fr], .int .i64 0]) (by simp [results, Try.results21, go_sem, s0, s1, s2]) rfl
              ⟨⟨_, entered t p id quantum, 0, rfl, ⟨_, _, by rw [HEn.out], hq, by rw [map_own, hqs]⟩, .inr (.inr ⟨Hval.out, Hcm.out, rfl, p, Hsp.out, rfl⟩)⟩, hbl'⟩
          · have e1i : ¬ (0 : Int) < t.qs.length := by omega
            have Hnm := Lib.hid hnm
            have Hge := Lib.hid hge
            clear hnm hge hbx5
            go_upto_region 12 with fail
            have hEn : entered t p id quantum = ⟨t.qs.take p ++ ⟨id, quantum, 0, []⟩ :: t.qs.drop p, t.at_, t.fr⟩ := by rw [entered, if_neg Hge.out]
            have hnm2 := Hnm.out
            clear Hge e1 e1i x0 x1 x2 k0 k1 k2 kf hcl Hnm
            generalize hW6 : w5 = w6 at *
            clear hW6
            generalize hA6 : t.at_ = at6 at *
            rw [show t = { t with at_ := at6, fr := t.fr } by rw [← hA6]] at hnm2
            obtain ⟨l6, ho6, hl6⟩ := hnm2.own
            have hl6 : l6.map (·.1) = t.qs := hl6
            have hlen6 : l6.length = t.qs.length := by rw [← hl6, List.length_map]
            have k0 := hnm2.cblk.cell 0
            simp at k0
            have hgl : g < w6.heap.size := Blk.lt ho6.blk
            have hcl : cb < w6.heap.size := hnm2.cblk.lt
            have hgc := hnm2.gc
            have hgg := hnm2.gg
            have hb6 := hnm2.below
            have hcb6 := hnm2.cblk
            have hres6 := hnm2.res
            have hrl := hres6.lt
            have hbn := Blk.new w6 51 #[.int .i64 id, .int .i64 quantum, .int .i64 0, .slice none 0 0]
            have hins := insert_own g t.qs.length p w6.heap.size (rows l6) (row ⟨id, quantum, 0, []⟩ (.slice none 0 0)) (w6.alloc (.cells #[.int .i64 id, .int .i64 quantum, .int .i64 0, .slice none 0 0] 51)) hpn (by omega) (by rw [rows, List.length_map, hlen6]) (Blk.alloc ho6.blk _) (rows_one fun p hp => by obtain ⟨i, hi⟩ := List.getElem?_of_mem hp; obtain ⟨A, c, e, _⟩ := (ho6.own i p hi).read (Nat.le_refl _); rw [e]; rfl) (fun v hv => by simp [flat, row] at hv; rcases hv with rfl | rfl | rfl | rfl <;> rfl) (fun j v hj => by rw [Nat.zero_add, Blk.cell hbn]; rw [← List.getElem?_toArray] at hj; exact hj)
            have Hb6 := Lib.hid hb6
            have Hcb6 := Lib.hid hcb6
            have Hres6 := Lib.hid hres6
            have Ho6 := Lib.hid ho6
            have HEn := Lib.hid hEn
            clear hnm2 hb6 hcb6 hres6 ho6 hbn hEn
            go_wp2_with (first
              | (go_at_call 40; refine Calls.mono hins ?_; rintro e w7 ⟨cap, rfl, hcap, hcapm, hb7, kz, hkz, hq7⟩; have Hkz := Lib.hid hkz; clear hkz; rw [World.size_alloc] at hb7 hq7; have hb67 : Below w6.heap.size w6 w7 := ((Below.refl _ _).alloc (Nat.le_refl _) _).trans (hb7.mono (Nat.le_succ _)); have hc7 := Hcb6.out.below hb67 hcl; have hr7 := Hres6.out.below hb67 hrl; have k0 := hc7.cell 0; have k1 := hc7.cell 1; have k2 := hc7.cell 2; simp at k0 k1 k2; have kf := hc7.frozen 0; have r0 := hr7.cell 0; have r1 := hr7.cell 1; have r2 := hr7.cell 2; simp at r0 r1 r2; have f0 := hr7.frozen 0; have f1 := hr7.frozen 1; have f2 := hr7.frozen 2; have Hb67 := Lib.hid hb67; have Hq7 := Lib.hid hq7; have Hr7 := Lib.hid hr7; clear hb67 hb7 hq7 hr7 hc7))
            have hc7 := Hcb6.out.below Hb67.out hcl
            have hl7 : rows (l6.take p ++ (⟨id, quantum, 0, []⟩, .slice none 0 0) :: l6.drop p) ++ List.replicate kz zrow = List.take p (rows l6) ++ row ⟨id, quantum, 0, []⟩ (.slice none 0 0) :: (List.drop p (rows l6) ++ List.replicate kz zrow) := by simp [rows]
            have hq8 : QBlk (w7.setCell ⟨cb, 0, none⟩ (.slice (some ⟨w6.heap.size + 1, 0, none⟩) (t.qs.length + 1) cap)) (w6.heap.size + 1) (rows (l6.take p ++ (⟨id, quantum, 0, []⟩, .slice none 0 0) :: l6.drop p) ++ List.replicate kz zrow) := by
              rw [hl7]
              exact Blk.far Hq7.out (by show w6.heap.size + 1 ≠ cb; omega) _
            have ho8 : ∀ (i : Nat) (x : Qu × Value), (l6.take p ++ (⟨id, quantum, 0, []⟩, .slice none 0 0) :: l6.drop p)[i]? = some x → OwnInts (w7.setCell ⟨cb, 0, none⟩ (.slice (some ⟨w6.heap.size + 1, 0, none⟩) (t.qs.length + 1) cap)) (w.heap.size + 2) x.2 x.1.cs := fun i x hx => by
              have hm := List.mem_of_getElem? hx
              have hx6 : x ∈ l6 ∨ x = (⟨id, quantum, 0, []⟩, .slice none 0 0) := by
                rcases List.mem_append.1 hm with h | h
                · exact .inl (List.mem_of_mem_take h)
                · rcases List.mem_cons.1 h with h | h
                  · exact .inr h
                  · exact .inl (List.mem_of_mem_drop h)
              rcases hx6 with h | rfl
              · obtain ⟨j, hj⟩ := List.getElem?_of_mem h
                have h1 := (Ho6.out.own j x hj).below Hb67.out (Nat.le_refl _)
                exact h1.setCell (h1.ne_blk hc7 (by decide)) _
              · exact World.ownsRow_nil _ _ 3 1
            have hb8 := (Hb6.out.trans (Hb67.out.mono Hb6.out.size)).setCell (p := ⟨cb, 0, none⟩) (by show w.heap.size ≤ cb; omega) (.slice (some ⟨w6.heap.size + 1, 0, none⟩) (t.qs.length + 1) cap)
            obtain ⟨hq, hbl', hfin⟩ := out_own hb8 (Hr7.out.far (by show w.heap.size + 1 ≠ cb; omega) _) (by omega) hq8 ho8 (Apart.ins Ho6.out.apart p _) (t.qs.length + 1) cap (by simp; omega) (by have := Hkz.out; rw [List.length_replicate]; omega) hcapm (.slice (some ⟨w6.heap.size + 1, 0, none⟩) (t.qs.length + 1) cap) (.int .i64 at6) (.bool t.fr)
            have s0 := hfin.cell 0
            have s1 := hfin.cell 1
            have s2 := hfin.cell 2
            simp at s0 s1 s2
            have hqs : (l6.take p ++ ((⟨id, quantum, 0, []⟩ : Qu), Value.slice none 0 0) :: l6.drop p).map (·.1) = (entered t p id quantum).qs := by
              rw [HEn.out]
              simp only [List.map_append, List.map_cons, List.map_take, List.map_drop, hl6]
            exact bodyPost_ret (v := .tuple #[.agg #[.slice (some ⟨w6.heap.size + 1, 0, none⟩) (t.qs.length + 1) cap, .int .i64 at6, .bool t.fr], .int .i64 0]) (by simp [results, Try.results21, go_sem, s0, s1, s2]) rfl
              ⟨⟨_, entered t p id quantum, 0, rfl, ⟨_, _, by rw [HEn.out], hq, by rw [map_own, hqs]⟩, .inr (.inr ⟨Hval.out, Hcm.out, rfl, p, Hsp.out, rfl⟩)⟩, hbl'⟩
      · have Hval := Lib.hid hval
        have Hno := Lib.hid hcm
        have hlen := hval.len
        by_cases hex : ∃ (a : Nat) (q : Qu), t.qs[a]? = some q ∧ q.id = id
        · obtain ⟨a, q, hq, hqi⟩ := hex
          have hfd1 : ∀ w1, Below w.heap.size w w1 → Calls Try.prog 39 #[.agg #[.slice A t.qs.length c, .int .i64 t.at_, .bool t.fr], .int .i64 id] w1 fun e w' => (∃ p : Nat, e = .returned (.tuple #[.int .i64 (p : Nat), .bool true])) ∧ Below w1.heap.size w1 w' := fun w1 hb => by
            refine Calls.mono (hfd w1 hb) ?_
            rintro e w' ⟨⟨p, b, rfl, hs⟩, hb'⟩
            obtain ⟨rfl, rfl⟩ := spot_yes hs hasc hq hqi
            exact ⟨⟨p, rfl⟩, hb'⟩
          clear hval hasc hck hq hqi hcm hfd
          go_enter Try.func21, Try.ntmps21
          go_upto_region 1 with fail
          have hx := (Boxed.start w A t.qs.length c t.at_ t.fr).alloc (.cells #[.slice none 0 0, .int .i64 0, .bool false] 34)
          have hres := Blk.new (w.alloc (.cells #[.slice A t.qs.length c, .int .i64 t.at_, .bool t.fr] 34)) 34 #[.slice none 0 0, .int .i64 0, .bool false]
          rw [World.size_alloc] at hres
          generalize hW0 : World.alloc (World.alloc _ _) _ = W0
          rw [hW0] at hx hres
          clear hW0
          obtain ⟨x0, x1, x2⟩ := hx.cells
          have HX := Lib.hid hx
          have HR := Lib.hid hres
          have HXB := Lib.hid hx.below
          clear hx hres
          go_wp2_with (first
            | (go_at_call 20; refine Calls.mono (hbx _ HXB.out) ?_; rintro e w1 ⟨rfl, hb1⟩; have hx1 := HX.out.more hb1; obtain ⟨y0, y1, y2⟩ := hx1.cells; have hxb1 := hx1.below; have HXB1 := Lib.hid hxb1; have HX1 := Lib.hid hx1; have Hb1 := Lib.hid hb1; clear hx1 hxb1 hb1)
            | (go_at_call 39; refine Calls.mono (hfd1 _ HXB1.out) ?_; rintro e w2 ⟨⟨p, rfl⟩, hb2⟩; have hx2 := HX1.out.more hb2; obtain ⟨z0, z1, z2⟩ := hx2.cells; have hb3 := Hb1.out.trans (hb2.mono Hb1.out.size); have hr1 := HR.out.below hb3 HR.out.lt; have r0 := hr1.cell 0; have r1 := hr1.cell 1; have r2 := hr1.cell 2; simp at r0 r1 r2; have f0 := hr1.frozen 0; have f1 := hr1.frozen 1; have f2 := hr1.frozen 2; have Hb3 := Lib.hid hb3; clear hr1 hb3 hb2 hx2)
            | (go_at_call 38; refine Calls.mono (hwt _) ?_; rintro e w3 ⟨rfl, rfl⟩))
          obtain ⟨hfin, hbel⟩ := none_ret HXB.out HR.out Hb3.out
          have s0 := hfin.cell 0
          have s1 := hfin.cell 1
          have s2 := hfin.cell 2
          simp at s0 s1 s2
          exact bodyPost_ret (v := .tuple #[.agg #[.slice none 0 0, .int .i64 0, .bool false], .int .i64 190]) (by simp [results, Try.results21, go_sem, s0, s1, s2]) rfl
            ⟨⟨_, none_, 190, rfl, none_own _ _, .inr (.inl ⟨Hval.out, Hno.out, rfl, rfl⟩)⟩, hbel⟩
        · have hno : ∀ (i : Nat) (q : Qu), t.qs[i]? = some q → q.id ≠ id := fun i q hq he => hex ⟨i, q, hq, he⟩
          have hfd1 : ∀ w1, Below w.heap.size w w1 → Calls Try.prog 39 #[.agg #[.slice A t.qs.length c, .int .i64 t.at_, .bool t.fr], .int .i64 id] w1 fun e w' => (∃ p : Nat, e = .returned (.tuple #[.int .i64 (p : Nat), .bool false])) ∧ Below w1.heap.size w1 w' := fun w1 hb => by
            refine Calls.mono (hfd w1 hb) ?_
            rintro e w' ⟨⟨p, b, rfl, hs⟩, hb'⟩
            rw [spot_no hs hno]
            exact ⟨⟨p, rfl⟩, hb'⟩
          clear hfd
          by_cases h32 : t.qs.length = 32
          · have h32i : ((t.qs.length : Int) == 32) = true := by simp [h32]
            clear hval hasc hck hcm hno hex h32
            go_enter Try.func21, Try.ntmps21
            go_upto_region 1 with fail
            have hx := (Boxed.start w A t.qs.length c t.at_ t.fr).alloc (.cells #[.slice none 0 0, .int .i64 0, .bool false] 34)
            have hres := Blk.new (w.alloc (.cells #[.slice A t.qs.length c, .int .i64 t.at_, .bool t.fr] 34)) 34 #[.slice none 0 0, .int .i64 0, .bool false]
            rw [World.size_alloc] at hres
            generalize hW0 : World.alloc (World.alloc _ _) _ = W0
            rw [hW0] at hx hres
            clear hW0
            obtain ⟨x0, x1, x2⟩ := hx.cells
            have HX := Lib.hid hx
            have HR := Lib.hid hres
            have HXB := Lib.hid hx.below
            clear hx hres
            go_wp2_with (first
              | (go_at_call 20; refine Calls.mono (hbx _ HXB.out) ?_; rintro e w1 ⟨rfl, hb1⟩; have hx1 := HX.out.more hb1; obtain ⟨y0, y1, y2⟩ := hx1.cells; have hxb1 := hx1.below; have HXB1 := Lib.hid hxb1; have HX1 := Lib.hid hx1; have Hb1 := Lib.hid hb1; clear hx1 hxb1 hb1)
              | (go_at_call 39; refine Calls.mono (hfd1 _ HXB1.out) ?_; rintro e w2 ⟨⟨p, rfl⟩, hb2⟩; have hx2 := HX1.out.more hb2; obtain ⟨z0, z1, z2⟩ := hx2.cells; have hb3 := Hb1.out.trans (hb2.mono Hb1.out.size); have hr1 := HR.out.below hb3 HR.out.lt; have r0 := hr1.cell 0; have r1 := hr1.cell 1; have r2 := hr1.cell 2; simp at r0 r1 r2; have f0 := hr1.frozen 0; have f1 := hr1.frozen 1; have f2 := hr1.frozen 2; have Hb3 := Lib.hid hb3; clear hr1 hb3 hb2 hx2)
              | (go_at_call 38; refine Calls.mono (hwt _) ?_; rintro e w3 ⟨rfl, rfl⟩))
            obtain ⟨hfin, hbel⟩ := none_ret HXB.out HR.out Hb3.out
            have s0 := hfin.cell 0
            have s1 := hfin.cell 1
            have s2 := hfin.cell 2
            simp at s0 s1 s2
            exact bodyPost_ret (v := .tuple #[.agg #[.slice none 0 0, .int .i64 0, .bool false], .int .i64 190]) (by simp [results, Try.results21, go_sem, s0, s1, s2]) rfl
              ⟨⟨_, none_, 190, rfl, none_own _ _, .inr (.inl ⟨Hval.out, Hno.out, rfl, rfl⟩)⟩, hbel⟩
          · have h32i : ((t.qs.length : Int) == 32) = false := by simp; omega
            have hnq : ¬ (1 ≤ quantum ∧ quantum ≤ 65536) := fun h => hcm ⟨by omega, hno, by omega, h⟩
            have hwt := fun u => within_any quantum 1 65536 u
            simp only [inB_no hnq] at hwt
            clear hval hasc hck hcm hno hex h32 hnq
            go_enter Try.func21, Try.ntmps21
            go_upto_region 1 with fail
            have hx := (Boxed.start w A t.qs.length c t.at_ t.fr).alloc (.cells #[.slice none 0 0, .int .i64 0, .bool false] 34)
            have hres := Blk.new (w.alloc (.cells #[.slice A t.qs.length c, .int .i64 t.at_, .bool t.fr] 34)) 34 #[.slice none 0 0, .int .i64 0, .bool false]
            rw [World.size_alloc] at hres
            generalize hW0 : World.alloc (World.alloc _ _) _ = W0
            rw [hW0] at hx hres
            clear hW0
            obtain ⟨x0, x1, x2⟩ := hx.cells
            have HX := Lib.hid hx
            have HR := Lib.hid hres
            have HXB := Lib.hid hx.below
            clear hx hres
            go_wp2_with (first
              | (go_at_call 20; refine Calls.mono (hbx _ HXB.out) ?_; rintro e w1 ⟨rfl, hb1⟩; have hx1 := HX.out.more hb1; obtain ⟨y0, y1, y2⟩ := hx1.cells; have hxb1 := hx1.below; have HXB1 := Lib.hid hxb1; have HX1 := Lib.hid hx1; have Hb1 := Lib.hid hb1; clear hx1 hxb1 hb1)
              | (go_at_call 39; refine Calls.mono (hfd1 _ HXB1.out) ?_; rintro e w2 ⟨⟨p, rfl⟩, hb2⟩; have hx2 := HX1.out.more hb2; obtain ⟨z0, z1, z2⟩ := hx2.cells; have hb3 := Hb1.out.trans (hb2.mono Hb1.out.size); have hr1 := HR.out.below hb3 HR.out.lt; have r0 := hr1.cell 0; have r1 := hr1.cell 1; have r2 := hr1.cell 2; simp at r0 r1 r2; have f0 := hr1.frozen 0; have f1 := hr1.frozen 1; have f2 := hr1.frozen 2; have Hb3 := Lib.hid hb3; clear hr1 hb3 hb2 hx2)
              | (go_at_call 38; refine Calls.mono (hwt _) ?_; rintro e w3 ⟨rfl, rfl⟩))
            obtain ⟨hfin, hbel⟩ := none_ret HXB.out HR.out Hb3.out
            have s0 := hfin.cell 0
            have s1 := hfin.cell 1
            have s2 := hfin.cell 2
            simp at s0 s1 s2
            exact bodyPost_ret (v := .tuple #[.agg #[.slice none 0 0, .int .i64 0, .bool false], .int .i64 190]) (by simp [results, Try.results21, go_sem, s0, s1, s2]) rfl
              ⟨⟨_, none_, 190, rfl, none_own _ _, .inr (.inl ⟨Hval.out, Hno.out, rfl, rfl⟩)⟩, hbel⟩
  · have hval : ¬ Valid t := fun h => hck (chk_zero.2 h)
    have hck2 : (chk t != 0) = true := by simp [hck]
    go_enter Try.func21, Try.ntmps21
    go_upto_region 1 with fail
    have hx := (Boxed.start w A t.qs.length c t.at_ t.fr).alloc (.cells #[.slice none 0 0, .int .i64 0, .bool false] 34)
    have hres := Blk.new (w.alloc (.cells #[.slice A t.qs.length c, .int .i64 t.at_, .bool t.fr] 34)) 34 #[.slice none 0 0, .int .i64 0, .bool false]
    rw [World.size_alloc] at hres
    generalize hW0 : World.alloc (World.alloc _ _) _ = W0
    rw [hW0] at hx hres
    clear hW0
    obtain ⟨x0, x1, x2⟩ := hx.cells
    have HR := Lib.hid hres
    have HXB := Lib.hid hx.below
    clear hx hres
    go_wp2_with (first
      | (go_at_call 20; refine Calls.mono (hbx _ HXB.out) ?_; rintro e w1 ⟨rfl, hb1⟩; have hr1 := HR.out.below hb1 HR.out.lt; have r0 := hr1.cell 0; have r1 := hr1.cell 1; have r2 := hr1.cell 2; simp at r0 r1 r2; have f0 := hr1.frozen 0; have f1 := hr1.frozen 1; have f2 := hr1.frozen 2; have Hr1 := Lib.hid hr1; clear hr1))
    obtain ⟨hfin, hbel⟩ := none_ret HXB.out HR.out hb1
    have s0 := hfin.cell 0
    have s1 := hfin.cell 1
    have s2 := hfin.cell 2
    simp at s0 s1 s2
    exact bodyPost_ret (v := .tuple #[.agg #[.slice none 0 0, .int .i64 0, .bool false], .int .i64 (chk t)]) (by simp [results, Try.results21, go_sem, s0, s1, s2]) rfl
      ⟨⟨_, none_, chk t, rfl, none_own _ _, .inl ⟨hval, rfl, rfl⟩⟩, hbel⟩
end Go.Proofs.Ytgbjhkgbjnobcaa
