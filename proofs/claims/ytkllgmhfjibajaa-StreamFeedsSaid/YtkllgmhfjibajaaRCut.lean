/- The walk of the reference's cut. Conditions: the bytes are readable, and fit. -/
import Derived.Test.YtkllgmhfjibajaaCutPlain
import Derived.Test.YtkllgmhfjibajaaFeed
import Derived.Deep.CutBlock
namespace Go.Proofs.Ytkllgmhfjibajaa
open Go.RowKit St
/-- An append of a piece. -/
theorem wpList_appP {w : World} {ops : Array Oper} {rest : List Oper} {o : Oper} {a : Act} {Q : Exit → Act → World → Prop} (hgd : o.guard = none) (s x : Operand)
    (ho : o.op = .call { callee := .builtin .append, args := #[s, x], argTypes := #[24, 24] })
    {base : Nat} {v : Value} {l : List PV} (hs : a.eval s = v) (hpl : PL w base v l) (g0 : Nat) (p : PV) (hb0 : Blk w g0 57 (pcCells p).toArray) (hx : a.eval x = .slice (some ⟨g0, 0, none⟩) 1 1) (hp : OwnB w base p.2 p.1.body)
    (hg0 : base ≤ g0) (hf0 : ¬ FP v l g0) (hd : ∀ b, p.2.ownBlock = some b → ¬ FP v l b) (hlen : l.length + 1 ≤ 2147483648) (hbase : base ≤ w.heap.size)
    (h : ∀ g cap w', PL w' base (.slice (some ⟨g, 0, none⟩) (l.length + 1) cap) (l ++ [p]) → w.grownBy w' v.ownBlock → (v.ownBlock = some g ∨ g = w.heap.size) →
      wpList Try.prog ops Q rest (a.put o.dst (.slice (some ⟨g, 0, none⟩) (l.length + 1) cap)) w') : wpList Try.prog ops Q (o :: rest) a w := by
  obtain ⟨i0, hi, hz0, hz1, hz2⟩ : ∃ i, Try.prog.info? 57 = some i ∧ i.zero = some (.agg #[.int .i64 0, .slice none 0 0, .int .i64 0, .int .i64 0]) ∧ i.size = 4 ∧ i.bytes = 48 := by
    have h := info57
    cases hh : Try.prog.info? 57 with
    | none => rw [hh] at h; cases h
    | some i => rw [hh] at h; simp at h; exact ⟨i, rfl, h⟩
  have h1 := PL.one hb0 hg0 hp
  have hone := pc_one h1
  simp only [List.flatMap_cons, List.flatMap_nil, List.append_nil] at hone
  refine wpList_append_lies w hgd s x 24 ho base 57 i0 _ 4 48 Try.underlying24 hi hz0 hz1 hz2 rfl (by decide) v l.length (l.flatMap pcCells) hs hpl.row ⟨g0, 0, none⟩ 1 1 (pcCells p) hx rfl (fun j u hu => ?_) hone (by decide) (by unfold maxLen; omega) (by omega) hbase w.heap.size rfl fun g cap w' h2 h3 h4 h5 => h g cap w' ?_ h3 h4
  · rw [Go.WideShapes.add_plain, Nat.zero_add, hb0.cell]
    simpa using hu
  · refine hpl.app h1 (fun b hb hb2 => ?_) (by simpa using h2) rfl h3
    rcases hb2 with hb2 | ⟨i, q, hq, hb2⟩
    · injection hb2 with hb2
      simp only at hb2
      subst hb2
      exact hf0 hb
    · cases i with
      | zero =>
        simp at hq
        subst hq
        exact hd b hb2 hb
      | succ i => simp at hq
/-- What the cut has so far. -/
structure CK (w wx : World) (l : List PV) (pv : Value) (at_ : Nat) (d : Bool) : Prop where
  res : Blk wx w.heap.size 71 #[.slice none 0 0, .int .i64 0, .bool false]
  box : Blk wx (w.heap.size + 1) 71 #[pv, .int .i64 (at_ : Int), .bool d]
  pl : PL wx (w.heap.size + 2) pv l
  be : Below w.heap.size w wx
section
variable {w wx wy : World} {l : List PV} {pv pv' : Value} {at_ at' : Nat} {d d' : Bool}
theorem CK.below (h : CK w wx l pv at_ d) (hb : Below wx.heap.size wx wy) : CK w wy l pv at_ d := ⟨h.res.below hb h.res.lt, h.box.below hb h.box.lt, h.pl.below hb, h.be.trans (hb.mono h.be.size)⟩
theorem CK.size (h : CK w wx l pv at_ d) : w.heap.size + 2 ≤ wx.heap.size := h.box.lt
theorem CK.far (h : CK w wx l pv at_ d) {b : Nat} (hb : FP pv l b) : w.heap.size + 2 ≤ b ∧ b < wx.heap.size := h.pl.lt hb
theorem CK.grown {l' : List PV} (h : CK w wx l pv at_ d) (hg : wx.grownBy wy pv.ownBlock) (hpl : PL wy (w.heap.size + 2) pv' l') : CK w (wy.setCell ⟨w.heap.size + 1, 0, none⟩ pv') l' pv' at_ d := by
  have hne : ∀ b, pv.ownBlock = some b → w.heap.size + 2 ≤ b := fun b hb => (h.far (.inl hb)).1
  refine ⟨(h.res.grown hg (fun e => by have := hne _ e.symm; omega)).far (by simp) _, ?_, hpl.keep (fun b hb => Below.heap_setCell _ _ _ b (fun e => by have := (hpl.lt hb).1; simp only at e; omega)), (h.be.grown hg h.be.size (fun j hj => by have := hne j hj; omega)).setCell (by simp only; omega) _⟩
  have := (h.box.grown hg (fun e => by have := hne _ e.symm; omega)).set_ 0 pv'
  simpa using this
theorem CK.setAt (h : CK w wx l pv at_ d) (n : Nat) : CK w (wx.setCell ⟨w.heap.size + 1, 1, none⟩ (.int .i64 (n : Int))) l pv n d := by
  refine ⟨h.res.far (by simp) _, ?_, h.pl.keep (fun b hb => Below.heap_setCell _ _ _ b (fun e => by have := (h.pl.lt hb).1; simp only at e; omega)), h.be.setCell (by simp only; omega) _⟩
  have := h.box.set_ 1 (.int .i64 (n : Int))
  simpa using this
theorem CK.setDead (h : CK w wx l pv at_ d) (b : Bool) : CK w (wx.setCell ⟨w.heap.size + 1, 2, none⟩ (.bool b)) l pv at_ b := by
  refine ⟨h.res.far (by simp) _, ?_, h.pl.keep (fun b hb => Below.heap_setCell _ _ _ b (fun e => by have := (h.pl.lt hb).1; simp only at e; omega)), h.be.setCell (by simp only; omega) _⟩
  have := h.box.set_ 2 (.bool b)
  simpa using this
end
theorem res40 (g : Nat) (tmps : Array Value) (W : World) (v0 v1 v2 : Value) (h0 : tmps[4]?.getD undef = .pointer (some ⟨g, 0, none⟩)) (hB : Blk W g 71 #[v0, v1, v2]) : (results Try.f40 tmps).run Try.prog W = .ok (.agg #[v0, v1, v2]) W := by
  have s0 : W.cell? ⟨g, 0, none⟩ = some v0 := (hB.cell 0).trans rfl
  have s1 : W.cell? ⟨g, 1, none⟩ = some v1 := (hB.cell 1).trans rfl
  have s2 : W.cell? ⟨g, 2, none⟩ = some v2 := (hB.cell 2).trans rfl
  clear hB
  simp [results, Try.results40, go_sem, h0, s0, s1, s2]
theorem cutP_succ {lim : Int} {f at_ : Nat} {xs : List Int} (h : xs ≠ []) : cutP lim (f + 1) at_ xs = if (headP xs).2 = 10 then ⟨[], at_, false⟩ else if (headP xs).1 = 0 then ⟨[⟨2, [], at_, 160⟩], at_, true⟩
    else if (headP xs).1 > lim then CT.more ⟨1, [], at_, 163⟩ (cutP lim f (at_ + (headP xs).1.toNat) (xs.drop (headP xs).1.toNat))
    else if xs.length < (headP xs).1.toNat then ⟨[], at_, false⟩
    else CT.more (pcR at_ (xs.take (headP xs).1.toNat)) (cutP lim f (at_ + (headP xs).1.toNat) (xs.drop (headP xs).1.toNat)) := by
  rw [cutP, if_neg h]
theorem headP_ten {xs : List Int} (h1 : (headP xs).2 ≠ 10) (h2 : (headP xs).1 ≠ 0) : 10 ≤ (headP xs).1 := by
  refine (head_five h1 (fun e => h2 ?_)).2
  unfold headP at e ⊢
  split
  · rfl
  · rename_i a
    rw [if_neg a] at e
    split
    · rfl
    · rename_i b
      rw [if_neg b] at e
      split
      · rfl
      · rename_i d
        rw [if_neg d] at e
        split at e <;> cases e
set_option maxRecDepth 100000 in
set_option maxHeartbeats 4000000 in
theorem rcut_any (lim : Int) (A : Option Addr) (bs : List Int) (c : Nat) (w : World) (hlim : 64 ≤ lim ∧ lim ≤ 4096) (hc : bs.length ≤ c ∧ c ≤ maxLen) (hx : BytesAt w A bs) (hby : Byt bs) (hbig : bs.length ≤ 2147483647) :
    Calls Try.prog 40 #[.slice A bs.length c, .int .i64 lim] w fun e w' => Below w.heap.size w w' ∧ ∃ pv l, e = .returned (.agg #[pv, .int .i64 ((cutA lim bs).at_ : Int), .bool (cutA lim bs).dead]) ∧ PL w' w.heap.size pv l ∧ l.map (·.1) = (cutA lim bs).ps := by
  have hcm := hc.2
  unfold maxLen at hcm
  have Hx := Lib.hid hx
  clear hx
  go_enter Try.func40, Try.ntmps40
  go_upto_block 0 with fail
  go_cut [] (fun wx => ∃ l pv, CK w wx l pv (cutA lim bs).at_ (cutA lim bs).dead ∧ l.map (·.1) = (cutA lim bs).ps)
  case first =>
    go_wp2_with fail
    go_loopg [] bs.length (fun gg wx => ∃ l pv at_, CK w wx l pv at_ false ∧ (bs.drop at_).length ≤ gg ∧ cutA lim bs = ⟨l.map (·.1) ++ (cutP lim gg at_ (bs.drop at_)).ps, (cutP lim gg at_ (bs.drop at_)).at_, (cutP lim gg at_ (bs.drop at_)).dead⟩)
    case atStart =>
      have hb1 := (Below.refl w.heap.size w).alloc (Nat.le_refl _) (.cells #[.slice none 0 0, .int .i64 0, .bool false] 71)
      refine ⟨[], _, 0, ⟨(Blk.new w 71 _).alloc _, ?_, PL.nil _ _, hb1.alloc hb1.size _⟩, by simp, by simp [cutA]⟩
      have := Blk.new (w.alloc (.cells #[.slice none 0 0, .int .i64 0, .bool false] 71)) 71 #[.slice none 0 0, .int .i64 0, .bool false]
      rw [World.size_alloc] at this
      exact this
    case round =>
      obtain ⟨l, pv, at_, hS, hlen, hcut⟩ := hrel
      obtain ⟨Av, cv, rfl, hv1, hv2⟩ := hS.pl.shape
      have q0 := hS.box.cell 0
      have q1 := hS.box.cell 1
      have q2 := hS.box.cell 2
      simp at q0 q1 q2
      have f0 := hS.box.frozen 0
      have f1 := hS.box.frozen 1
      have f2 := hS.box.frozen 2
      have hxr := Hx.out.below (Below.mono hS.be (Nat.le_refl _))
      have HS := Lib.hid hS
      have Hlen := Lib.hid hlen
      have Hcut := Lib.hid hcut
      clear hS hlen hcut
      by_cases hlt : at_ < bs.length
      · have hli : (at_ : Int) < bs.length := by omega
        have hai : ¬ (at_ : Int) < 0 := by omega
        obtain ⟨b, o, rfl, hbl, _⟩ := hxr (by omega)
        have hsub := hxr.sub at_ (bs.length - at_)
        have hsl : (bs.drop at_).take (bs.length - at_) = bs.drop at_ := List.take_of_length_le (by rw [List.length_drop]; exact Nat.le_refl _)
        rw [hsl] at hsub
        have hxl : (bs.drop at_).length = bs.length - at_ := List.length_drop
        have hyb : Byt (bs.drop at_) := fun x hx => hby x (List.mem_of_mem_drop hx)
        have hhd := (rhead_any (some ⟨b, o + at_, none⟩) (bs.drop at_) (c - at_) wr (by rw [hxl]; unfold maxLen; omega) hsub hyb).mono (R' := fun e w' => e = .returned (.tuple #[.int .i64 (headP (bs.drop at_)).1, .int .i64 (headP (bs.drop at_)).2]) ∧ wr = w') fun _ _ h => ⟨h.1, h.2.symm⟩
        rw [hxl] at hhd
        obtain ⟨f, rfl⟩ : ∃ f, gk = f + 1 := ⟨gk - 1, by have := Hlen.out; omega⟩
        have hne : bs.drop at_ ≠ [] := fun e => by rw [e] at hxl; simp at hxl; omega
        have hrange := headP_len (bs.drop at_)
        have hten := headP_ten (xs := bs.drop at_)
        have hcs := Hcut.out
        rw [cutP_succ hne] at hcs
        have hll : l.length ≤ 2147483647 := by
          have h1 := (cutA_feed hlim hby (by omega)).1
          have h2 := congrArg CT.ps Hcut.out
          have h3 := feed_len bs (fresh lim)
          rw [← h1, h2] at h3
          simp only [List.length_append, List.length_map] at h3
          omega
        generalize hhh : headP (bs.drop at_) = h at *
        obtain ⟨n, e⟩ := h
        simp only at hrange hten hhd hcs
        have hca : ¬ c = at_ := by omega
        obtain ⟨m, rfl⟩ : ∃ m : Nat, n = (m : Int) := ⟨n.toNat, by omega⟩
        rw [Int.toNat_natCast] at hcs
        have Hsub := Lib.hid hsub
        have Hyb := Lib.hid hyb
        have Hxl := Lib.hid hxl
        have Hten := Lib.hid hten
        have Hhh := Lib.hid hhh
        have hrm := hrange.2
        clear hsub hyb hxl hten hhh hrange hxr hsl hne Hcut
        by_cases he : e = 10
        · rw [if_pos he, List.append_nil] at hcs
          subst he
          have Hcs := Lib.hid hcs
          clear hcs
          go_wp2_with (go_at_call 56; refine hhd.mono ?_; clear hhd; rintro e w' ⟨rfl, rfl⟩)
          go_meet
          case rel => exact ⟨l, _, by rw [Hcs.out]; exact HS.out, by rw [Hcs.out]⟩
        · rw [if_neg he] at hcs
          have heb : (e == 10) = false := by simp [he]
          by_cases hn0 : (m : Int) = 0
          · rw [if_pos hn0] at hcs
            obtain rfl : m = 0 := by omega
            have Hcs := Lib.hid hcs
            clear hcs
            have hb1 := (Below.refl wr.heap.size wr).alloc (Nat.le_refl _) (.cells #[.int .i64 2, .slice none 0 0, .int .i64 (at_ : Int), .int .i64 160] 57)
            have hS1 := HS.out.below hb1
            have hnew := Blk.new wr 57 #[.int .i64 2, .slice none 0 0, .int .i64 (at_ : Int), .int .i64 160]
            have hs2 := HS.out.size
            have HS1 := Lib.hid hS1
            have Hnew := Lib.hid hnew
            have Hb1 := Lib.hid hb1
            clear hS1 hnew hb1
            go_upto_region 8 with (first
              | (go_at_call 56; refine hhd.mono ?_; clear hhd; rintro e w' ⟨rfl, rfl⟩)
              | (at_builtin; refine wpList_appP rfl (.tmp 36) (.tmp 39) rfl (v := .slice Av l.length cv) (l := l) (by simp [Act.eval]) HS1.out.pl wr.heap.size (⟨2, [], (at_ : Int), 160⟩, .slice none 0 0) Hnew.out (by simp [Act.eval]) (OwnB.nil _ _) hs2 (fun h => by have := (HS.out.far h).2; omega) (fun b hb => by cases hb) (by omega) (Nat.le_trans hs2 Hb1.out.size) ?_; rintro g2 cap2 w2 hpl2 hgr2 hat2; have z2 := HS1.out.box.grown hgr2 (fun e => by have := (HS1.out.far (.inl e.symm)).1; omega); have z0 := z2.cell 0; have z1 := z2.cell 1; have z3 := z2.cell 2; simp at z0 z1 z3; have y0 := z2.frozen 0; have y1 := z2.frozen 1; have y2 := z2.frozen 2; have HZ := Lib.hid z2; clear z2))
            have hS3 := HS1.out.grown hgr2 hpl2
            have HS3 := Lib.hid (hS3.setDead true)
            clear hS3 hpl2 hgr2 hat2 HZ HS1 Hnew Hb1
            go_wp2
            go_meet
            case rel => exact ⟨l ++ [(⟨2, [], (at_ : Int), 160⟩, .slice none 0 0)], _, by rw [Hcs.out]; exact HS3.out, by rw [Hcs.out, List.map_append]; rfl⟩
          · rw [if_neg hn0] at hcs
            have hn0b : ((m : Int) == 0) = false := by simp only [beq_eq_false_iff_ne, ne_eq]; omega
            by_cases hnl : (m : Int) > lim
            · rw [if_pos hnl] at hcs
              have Hcs := Lib.hid hcs
              clear hcs
              have hm10 := Hten.out he hn0
              have hb1 := (Below.refl wr.heap.size wr).alloc (Nat.le_refl _) (.cells #[.int .i64 1, .slice none 0 0, .int .i64 (at_ : Int), .int .i64 163] 57)
              have hS1 := HS.out.below hb1
              have hnew := Blk.new wr 57 #[.int .i64 1, .slice none 0 0, .int .i64 (at_ : Int), .int .i64 163]
              have hs2 := HS.out.size
              have HS1 := Lib.hid hS1
              have Hnew := Lib.hid hnew
              have Hb1 := Lib.hid hb1
              clear hS1 hnew hb1
              go_upto_region 11 with (first
                | (go_at_call 56; refine hhd.mono ?_; clear hhd; rintro e w' ⟨rfl, rfl⟩)
                | (at_builtin; refine wpList_appP rfl (.tmp 47) (.tmp 50) rfl (v := .slice Av l.length cv) (l := l) (by simp [Act.eval]) HS1.out.pl wr.heap.size (⟨1, [], (at_ : Int), 163⟩, .slice none 0 0) Hnew.out (by simp [Act.eval]) (OwnB.nil _ _) hs2 (fun h => by have := (HS.out.far h).2; omega) (fun b hb => by cases hb) (by omega) (Nat.le_trans hs2 Hb1.out.size) ?_; rintro g2 cap2 w2 hpl2 hgr2 hat2; have z2 := HS1.out.box.grown hgr2 (fun e => by have := (HS1.out.far (.inl e.symm)).1; omega); have z0 := z2.cell 0; have z1 := z2.cell 1; have z3 := z2.cell 2; simp at z0 z1 z3; have y0 := z2.frozen 0; have y1 := z2.frozen 1; have y2 := z2.frozen 2; have HZ := Lib.hid z2; clear z2))
              have hS3 := HS1.out.grown hgr2 hpl2
              have HS3 := Lib.hid (hS3.setAt (at_ + m))
              have hmi : (at_ : Int) + (m : Int) = ((at_ + m : Nat) : Int) := by omega
              have Hmi := Lib.hid hmi
              clear hS3 hpl2 hgr2 hat2 HZ HS1 Hnew Hb1 hmi
              go_wp2
              go_roundg f
              case measure => omega
              case rel =>
                refine ⟨l ++ [(⟨1, [], (at_ : Int), 163⟩, .slice none 0 0)], _, at_ + m, by first | exact HS3.out | (rw [← Hmi.out] at HS3; exact HS3.out) | (have h := HS3.out; rw [← Hmi.out] at h; exact h), ?_, ?_⟩
                · have := Hlen.out
                  rw [List.length_drop] at this ⊢
                  omega
                · rw [Hcs.out, List.drop_drop, List.map_append, List.append_assoc]
                  rfl
            · rw [if_neg hnl] at hcs
              have hnd : decide (lim < (m : Int)) = false := by simp only [decide_eq_false_iff_not]; omega
              have Hnl := Lib.hid hnl
              clear hnl
              by_cases hsh : (bs.drop at_).length < m
              · rw [if_pos hsh, List.append_nil] at hcs
                have Hcs := Lib.hid hcs
                clear hcs
                have hgt : (at_ : Int) + (m : Int) > bs.length := by have := Hxl.out; omega
                have Hgt := Lib.hid hgt
                clear hsh hgt
                go_upto_region 9 with (go_at_call 56; refine hhd.mono ?_; clear hhd; rintro e w' ⟨rfl, rfl⟩)
                go_upto_region 12 with fail
                have hgt := Hgt.out
                go_wp2
                go_meet
                case rel => exact ⟨l, _, by rw [Hcs.out]; exact HS.out, by rw [Hcs.out]⟩
              · rw [if_neg hsh] at hcs
                have hle : ¬ (at_ : Int) + (m : Int) > bs.length := by have := Hxl.out; omega
                have hm10 := Hten.out he hn0
                have hml : m ≤ 4096 := by have := Hnl.out; omega
                have hty : ((bs.drop at_).take m).length = m := by rw [List.length_take]; omega
                have hsub2 : BytesAt wr (some ⟨b, o + at_, none⟩) ((bs.drop at_).take m) := by
                  have := Hsub.out.sub 0 m
                  rw [List.drop_zero, Nat.add_zero] at this
                  exact this
                have hbd := rbody_any (some ⟨b, o + at_, none⟩) ((bs.drop at_).take m) (c - at_) wr (by rw [hty]; have := Hxl.out; unfold maxLen; omega) hsub2 (fun x hx => Hyb.out x (List.mem_of_mem_take hx)) (by rw [hty]; omega)
                rw [hty] at hbd
                have hpc : pcR at_ ((bs.drop at_).take m) = if (bodyR ((bs.drop at_).take m)).2 = 0 then ⟨0, (bodyR ((bs.drop at_).take m)).1, at_, 0⟩ else ⟨1, [], at_, 160⟩ := rfl
                generalize hbr : bodyR ((bs.drop at_).take m) = r at *
                obtain ⟨rb, re⟩ := r
                rw [hpc] at hcs
                simp only at hcs hbd
                have Hcs := Lib.hid hcs
                have Hhd := Lib.hid hhd
                clear hhd hcs hsub2 hty hsh hpc hbr


                have Hyb2 := Hyb
                have hled : decide ((bs.length : Int) < (at_ : Int) + (m : Int)) = false := by simp only [decide_eq_false_iff_not]; exact hle
                have Hle := Lib.hid hle
                have Hm10 := Lib.hid hm10
                clear hle hm10
                go_upto_region 13 with (go_at_call 56; refine Hhd.out.mono ?_; clear Hhd; rintro e w' ⟨rfl, rfl⟩)
                have hmc : at_ + m ≤ c := by have := Hle.out; omega
                have hat64 : at_ ≤ 2147483647 := by omega
                go_upto_region 14 with (go_at_call 57; refine hbd.mono ?_; clear hbd; rintro e w1 ⟨hbw, bv, rfl, hob⟩)
                have hSw := HS.out.below hbw
                have q0 := hSw.box.cell 0
                have q1 := hSw.box.cell 1
                have q2 := hSw.box.cell 2
                simp at q0 q1 q2
                have f0 := hSw.box.frozen 0
                have f1 := hSw.box.frozen 1
                have f2 := hSw.box.frozen 2
                obtain ⟨Ab, cb, rfl, hb1', hb2'⟩ := hob.shape
                have Hob := Lib.hid hob
                have HSw := Lib.hid hSw
                have hss := HS.out.size
                have hsw := hbw.size
                have hcs := Hcs.out
                clear hob hSw Hcs
                by_cases hre : re = 0
                · have hreb : (re == 0) = true := by simp [hre]
                  rw [if_pos hre] at hcs
                  have Hcs := Lib.hid hcs
                  clear hcs hre
                  have hb1 := (Below.refl w1.heap.size w1).alloc (Nat.le_refl _) (.cells #[.int .i64 0, .slice Ab rb.length cb, .int .i64 (at_ : Int), .int .i64 0] 57)
                  have hS1 := HSw.out.below hb1
                  have hnew := Blk.new w1 57 #[.int .i64 0, .slice Ab rb.length cb, .int .i64 (at_ : Int), .int .i64 0]
                  have hs2 := HSw.out.size
                  have HS1 := Lib.hid hS1
                  have Hnew := Lib.hid hnew
                  have Hb1 := Lib.hid hb1
                  clear hS1 hnew hb1
                  go_upto_region 17 with (first
                    | (at_builtin; refine wpList_appP rfl (.tmp 80) (.tmp 84) rfl (v := .slice Av l.length cv) (l := l) (by simp [Act.eval]) HS1.out.pl w1.heap.size (⟨0, rb, (at_ : Int), 0⟩, .slice Ab rb.length cb) Hnew.out (by simp [Act.eval]) ((Hob.out.below Hb1.out).mono hss) hs2 (fun h => by have := (HSw.out.far h).2; omega) (fun b hb h => by have := (HS.out.far h).2; have := (Hob.out.lt hb).1; omega) (by omega) (Nat.le_trans hs2 Hb1.out.size) ?_; rintro g2 cap2 w2 hpl2 hgr2 hat2; have z2 := HS1.out.box.grown hgr2 (fun e => by have := (HS1.out.far (.inl e.symm)).1; omega); have z0 := z2.cell 0; have z1 := z2.cell 1; have z3 := z2.cell 2; simp at z0 z1 z3; have y0 := z2.frozen 0; have y1 := z2.frozen 1; have y2 := z2.frozen 2; have HZ := Lib.hid z2; clear z2))
                  have hS3 := HS1.out.grown hgr2 hpl2
                  have HS3 := Lib.hid (hS3.setAt (at_ + m))
                  have hmi : (at_ : Int) + (m : Int) = ((at_ + m : Nat) : Int) := by omega
                  have Hmi := Lib.hid hmi
                  clear hS3 hpl2 hgr2 hat2 HZ HS1 Hnew Hb1 hmi
                  go_wp2
                  go_roundg f
                  case measure => omega
                  case rel =>
                    refine ⟨l ++ [(⟨0, rb, (at_ : Int), 0⟩, .slice Ab rb.length cb)], _, at_ + m, by first | exact HS3.out | (have h := HS3.out; rw [← Hmi.out] at h; exact h), ?_, ?_⟩
                    · have h10 := Hm10.out
                      have h := Hlen.out
                      rw [List.length_drop] at h ⊢
                      omega
                    · rw [Hcs.out, List.drop_drop, List.map_append, List.append_assoc]
                      rfl

                · have hreb : (re == 0) = false := by simp [hre]
                  rw [if_neg hre] at hcs
                  have Hcs := Lib.hid hcs
                  clear hcs hre
                  have hb1 := (Below.refl w1.heap.size w1).alloc (Nat.le_refl _) (.cells #[.int .i64 1, .slice none 0 0, .int .i64 (at_ : Int), .int .i64 160] 57)
                  have hS1 := HSw.out.below hb1
                  have hnew := Blk.new w1 57 #[.int .i64 1, .slice none 0 0, .int .i64 (at_ : Int), .int .i64 160]
                  have hs2 := HSw.out.size
                  have HS1 := Lib.hid hS1
                  have Hnew := Lib.hid hnew
                  have Hb1 := Lib.hid hb1
                  clear hS1 hnew hb1
                  go_upto_region 17 with (first
                    | (at_builtin; refine wpList_appP rfl (.tmp 88) (.tmp 91) rfl (v := .slice Av l.length cv) (l := l) (by simp [Act.eval]) HS1.out.pl w1.heap.size (⟨1, [], (at_ : Int), 160⟩, .slice none 0 0) Hnew.out (by simp [Act.eval]) (OwnB.nil _ _) hs2 (fun h => by have := (HSw.out.far h).2; omega) (fun b hb => by cases hb) (by omega) (Nat.le_trans hs2 Hb1.out.size) ?_; rintro g2 cap2 w2 hpl2 hgr2 hat2; have z2 := HS1.out.box.grown hgr2 (fun e => by have := (HS1.out.far (.inl e.symm)).1; omega); have z0 := z2.cell 0; have z1 := z2.cell 1; have z3 := z2.cell 2; simp at z0 z1 z3; have y0 := z2.frozen 0; have y1 := z2.frozen 1; have y2 := z2.frozen 2; have HZ := Lib.hid z2; clear z2))
                  have hS3 := HS1.out.grown hgr2 hpl2
                  have HS3 := Lib.hid (hS3.setAt (at_ + m))
                  have hmi : (at_ : Int) + (m : Int) = ((at_ + m : Nat) : Int) := by omega
                  have Hmi := Lib.hid hmi
                  clear hS3 hpl2 hgr2 hat2 HZ HS1 Hnew Hb1 hmi
                  go_wp2
                  go_roundg f
                  case measure => omega
                  case rel =>
                    refine ⟨l ++ [(⟨1, [], (at_ : Int), 160⟩, .slice none 0 0)], _, at_ + m, by first | exact HS3.out | (have h := HS3.out; rw [← Hmi.out] at h; exact h), ?_, ?_⟩
                    · have h10 := Hm10.out
                      have h := Hlen.out
                      rw [List.length_drop] at h ⊢
                      omega
                    · rw [Hcs.out, List.drop_drop, List.map_append, List.append_assoc]
                      rfl
      · have hli : ¬ (at_ : Int) < bs.length := by omega
        have hd : bs.drop at_ = [] := List.drop_of_length_le (by omega)
        have hc2 : cutA lim bs = ⟨l.map (·.1), at_, false⟩ := by
          rw [Hcut.out, hd, cutP_nil, List.append_nil]
        have Hc2 := Lib.hid hc2
        clear hxr hd hc2
        go_wp2
        go_meet
        case rel => exact ⟨l, _, by rw [Hc2.out]; exact HS.out, by rw [Hc2.out]⟩
  case rest =>
    obtain ⟨l, pv, hS, hl⟩ := hcut
    obtain ⟨Av, cv, rfl, hv1, hv2⟩ := hS.pl.shape
    have q0 := hS.box.cell 0
    have q1 := hS.box.cell 1
    have q2 := hS.box.cell 2
    simp at q0 q1 q2
    have r0 := hS.res.cell 0
    have r1 := hS.res.cell 1
    have r2 := hS.res.cell 2
    simp at r0 r1 r2
    have f0 := hS.res.frozen 0
    have f1 := hS.res.frozen 1
    have f2 := hS.res.frozen 2
    generalize hcc : cutA lim bs = cc at *
    have Hcc := Lib.hid hcc
    clear hcc
    have HS := Lib.hid hS
    have Hl := Lib.hid hl
    clear hS hl Hx
    go_wp2
    refine bodyPost_ret (res40 w.heap.size _ _ (.slice Av l.length cv) (.int .i64 (cc.at_ : Int)) (.bool cc.dead) rfl ?_) rfl ?_
    rotate_left
    · rw [Hcc.out]
      refine ⟨?_, _, l, rfl, ?_, Hl.out⟩
      · exact ((HS.out.be.setCell (by simp) _).setCell (by simp) _).setCell (by simp) _
      · refine PL.mono (base := w.heap.size + 2) ?_ (by omega)
        refine HS.out.pl.keep (fun b hb => ?_)
        have := (HS.out.far hb).1
        rw [Below.heap_setCell _ _ _ b (fun e => by simp only at e; omega), Below.heap_setCell _ _ _ b (fun e => by simp only at e; omega), Below.heap_setCell _ _ _ b (fun e => by simp only at e; omega)]
    · have h1 := HS.out.res.set_ 0 (.slice Av l.length cv)
      have h2 := h1.set_ 1 (.int .i64 (cc.at_ : Int))
      have h3 := h2.set_ 2 (.bool cc.dead)
      simpa using h3
end Go.Proofs.Ytkllgmhfjibajaa
