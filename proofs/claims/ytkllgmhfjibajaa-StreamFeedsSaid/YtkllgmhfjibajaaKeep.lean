/- The walk of the law's keep. Conditions: all fits. -/
import Derived.Test.YtkllgmhfjibajaaKeepMem
namespace Go.Proofs.Ytkllgmhfjibajaa
open Go.RowKit St
/-- The row of pieces while one of them is taken. -/
structure KR (w : World) (base : Nat) (tv : Value) (ps : List PV) (i : Nat) : Prop where
  row : w.ownsRow base 57 4 tv ps.length ((left_ ps i).flatMap pcCells)
  own : ∀ (j : Nat) (q : PV), i < j → ps[j]? = some q → OwnB w base q.2 q.1.body
section
variable {w w' : World} {base i : Nat} {tv : Value} {ps : List PV}
theorem KR.kp {S : Nat → Prop} (h : KR w base tv ps i) (hk : Kp S w w') (ht : ∀ b, tv.ownBlock = some b → ¬ S b) (hq : ∀ (j : Nat) (q : PV), i < j → ps[j]? = some q → ∀ b, q.2.ownBlock = some b → ¬ S b) : KR w' base tv ps i :=
  ⟨row_keep h.row fun b hb => hk.block b (h.row.lt b hb).2 (ht b hb), fun j q hj hp => (h.own j q hj hp).kp hk (hq j q hj hp)⟩
theorem KR.below (h : KR w base tv ps i) (hb : Below w.heap.size w w') : KR w' base tv ps i :=
  ⟨own_below h.row hb, fun j q hj hp => (h.own j q hj hp).below hb⟩
theorem PL.kr (h : PL w base tv (left_ ps i)) (hi : i ≤ ps.length) : KR w base tv ps i := by
  refine ⟨by have := h.row; rwa [left_len ps hi] at this, fun j q hj hp => h.own j q ?_⟩
  rw [left_at ps (by omega)]
  exact hp
/-- The piece is written over. -/
theorem KR.blanked {tb cap : Nat} (h : KR w base (.slice (some ⟨tb, 0, none⟩) ps.length cap) ps i) (hi : i < ps.length) (hap : ∀ (j k : Nat) (p q : PV), j ≠ k → ps[j]? = some p → ps[k]? = some q → ∀ b, p.2.ownBlock = some b → q.2.ownBlock ≠ some b) (hfar : ∀ (j : Nat) (q : PV), ps[j]? = some q → ∀ b, q.2.ownBlock = some b → b ≠ tb) :
    PL ((((w.setCell ⟨tb, i * 4, none⟩ (.int .i64 (-1))).setCell ⟨tb, i * 4 + 1, none⟩ (.slice none 0 0)).setCell ⟨tb, i * 4 + 2, none⟩ (.int .i64 0)).setCell ⟨tb, i * 4 + 3, none⟩ (.int .i64 0)) base (.slice (some ⟨tb, 0, none⟩) ps.length cap) (left_ ps (i + 1)) := by
  have h1 := (World.ownsRow.stored h.row (i * 4) (.int .i64 (-1))).1
  have h2 := (World.ownsRow.stored h1 (i * 4 + 1) (.slice none 0 0)).1
  have h3 := (World.ownsRow.stored h2 (i * 4 + 2) (.int .i64 0)).1
  have h4 := (World.ownsRow.stored h3 (i * 4 + 3) (.int .i64 0)).1
  have hp : (((((left_ ps i).flatMap pcCells).set (i * 4) (.int .i64 (-1))).set (i * 4 + 1) (.slice none 0 0)).set (i * 4 + 2) (.int .i64 0)).set (i * 4 + 3) (.int .i64 0) = ((left_ ps i).set i blank).flatMap pcCells := pc_set _ i blank (by rw [left_len ps (by omega)]; exact hi)
  rw [hp, left_next ps hi] at h4
  have hcase : ∀ (j : Nat) (q : PV), (left_ ps (i + 1))[j]? = some q → q = Go.Proofs.Ytkllgmhfjibajaa.blank ∨ (i < j ∧ ps[j]? = some q) := fun j q hq => by
    rcases Nat.lt_or_ge j (i + 1) with hlt | hge
    · unfold left_ at hq
      rw [List.getElem?_append_left (by simpa using hlt), List.getElem?_replicate, if_pos hlt] at hq
      exact .inl (Option.some.inj hq).symm
    · rw [left_at ps hge] at hq
      exact .inr ⟨by omega, hq⟩
  refine ⟨by rw [left_len ps (by omega)]; exact h4, fun j q hq => ?_, fun j k p q hjk hp hq b hb hb' => ?_⟩
  · rcases hcase j q hq with rfl | ⟨hj, hq⟩
    · exact OwnB.nil _ _
    · have hne := hfar j q hq
      refine (h.own j q hj hq).keep fun b hb => ?_
      rw [Below.heap_setCell _ _ _ b (hne b hb), Below.heap_setCell _ _ _ b (hne b hb), Below.heap_setCell _ _ _ b (hne b hb), Below.heap_setCell _ _ _ b (hne b hb)]
  · rcases hcase j p hp with rfl | ⟨_, hp⟩
    · cases hb
    · rcases hcase k q hq with rfl | ⟨_, hq⟩
      · cases hb'
      · exact hap j k p q hjk hp hq b hb hb'
end
theorem own_ne_blk {w : World} {base g s n : Nat} {e t : TypeId} {v : Value} {ys : List Value} {cs : Array Value} (h : w.ownsRow base e s v n ys) (hb : Blk w g t cs) (hne : e ≠ t) : v.ownBlock ≠ some g := by
  intro eq
  rcases h.2 with ⟨rfl, _⟩ | ⟨b, cap, cur, rfl, _, hh, _⟩
  · cases eq
  · injection eq with eq
    simp only at eq
    subst eq
    have h1 : w.heap[b]? = some (.cells cur e (0, 0)) := hh
    have h2 : w.heap[b]? = some (.cells cs t (0, 0)) := hb
    rw [h1] at h2
    injection h2 with h2
    injection h2 with _ h3
    exact hne h3
theorem repl_set (k : Nat) (m x : Int) (body : List Int) (hk : k < body.length) (hm : m = x) : (List.replicate k m ++ body.drop k).set k x = List.replicate (k + 1) m ++ body.drop (k + 1) := by
  subst hm
  rw [List.set_append_right (h := by simp), List.length_replicate, Nat.sub_self, List.drop_eq_getElem_cons hk, List.set_cons_zero, List.replicate_succ', List.append_assoc]
  rfl
set_option maxRecDepth 100000 in
set_option maxHeartbeats 4000000 in
theorem keep_any (base g : Nat) (sv tv : Value) (l : List (Nat × Value)) (ps : List PV) (w : World) (hS : SH w base g sv l) (hP : PL w base tv ps) (hbase : base ≤ w.heap.size) (hlen : l.length + ps.length ≤ 4294967296) (hbody : ∀ p ∈ ps, p.1.body.length ≤ 2147483648)
    (hap : ∀ (n : Nat) (p : Nat × Value), l[n]? = some p → ∀ b, p.2.ownBlock = some b → sv.ownBlock ≠ some b ∧ b ≠ g ∧ tv.ownBlock ≠ some b ∧ ∀ (j : Nat) (q : PV), ps[j]? = some q → q.2.ownBlock ≠ some b) :
    Calls Try.prog 14 #[.pointer (some ⟨g, 0, none⟩), tv] w fun e w' => e = .returned (.tuple #[]) ∧ ∃ sv', KS w w' base g sv sv' tv l ps ps.length := by
  have hpa := hP.apart
  have hpf : ∀ (i : Nat) (p : PV), ps[i]? = some p → ∀ b, p.2.ownBlock = some b → tv.ownBlock ≠ some b := fun i p hp b hb => hP.far hp hb
  obtain ⟨At, ct, rfl, ht1, ht2⟩ := hP.shape
  unfold maxLen at ht2
  have HS := Lib.hid hS
  have HP := Lib.hid hP
  have Hap := Lib.hid hap
  have Hpa := Lib.hid hpa
  have Hpf := Lib.hid hpf
  have Hbody := Lib.hid hbody
  clear hS hP hap hpa hpf hbody
  go_enter Try.func14, Try.ntmps14
  go_wp2
  go_loopg [4] ps.length (fun gg iv wx => ∃ i sv', gg + i = ps.length ∧ iv = .int .i64 ((i : Nat) : Int) ∧ KS w wx base g sv sv' (.slice At ps.length ct) l ps i)
  case atStart =>
    refine ⟨0, sv, by omega, rfl, ?_, ?_, Kp.refl _ _, .inl rfl, fun n p hp b hb => ?_⟩
    · simpa [taken] using HS.out
    · simpa [left_] using HP.out
    · obtain ⟨h1, h2, h3, h4⟩ := Hap.out n p (by simpa [taken] using hp) b hb
      exact ⟨h1, h2, h3, fun j q _ hq => h4 j q hq⟩
  case round =>
    obtain ⟨i, svi, hi, rfl, hK⟩ := hrel
    have Hi := Lib.hid hi
    by_cases hlt : i < ps.length
    · have hli : (i : Int) < ps.length := by omega
      have hin : ¬ (i : Int) < 0 := by omega
      obtain ⟨p, hp⟩ : ∃ p, ps[i]? = some p := ⟨_, List.getElem?_eq_getElem hlt⟩
      have hqp : (left_ ps i)[i]? = some p := by rw [left_at ps (Nat.le_refl _)]; exact hp
      obtain ⟨tb, cap, etv, _, _, _, q1, _, _, _⟩ := hK.pl.at_ hqp
      rw [left_len ps (by omega)] at etv
      obtain ⟨rfl, -, rfl⟩ := Value.slice.inj etv
      have hob := hK.pl.own i p hqp
      obtain ⟨Ab, cb, ebv, hb1, hb2⟩ := hob.shape
      rw [ebv] at q1 hob
      obtain ⟨As, cs, rfl, hs1, hs2⟩ := own_shape hK.sh.row
      have hNl : ((l ++ taken ps i).map (·.2)).length = l.length + i := by rw [List.length_map, List.length_append, taken_len ps (by omega)]
      rw [hNl] at hs1
      have s0 := hK.sh.blk.cell 0
      simp only [List.getElem?_toArray, List.getElem?_cons_zero, hNl] at s0
      have hpl := Hbody.out p (List.mem_of_getElem? hp)
      have hkr := hK.pl.kr (by omega)
      have hmr := mk_range (l.length + i)
      have hmt : ((l.length + i : Nat) : Int).tmod 199 = mk (l.length + i) := by rw [Int.tmod_eq_emod_of_nonneg (by omega)]; unfold mk; omega
      have hyt : ((l.length + i : Nat) : Int).tmod 55 = ((l.length + i : Nat) : Int) % 55 := Int.tmod_eq_emod_of_nonneg (by omega)
      have hN : l.length + i ≤ 4294967296 := by omega
      have HK := Lib.hid hK
      have Hob := Lib.hid hob
      have Hebv := Lib.hid ebv
      have Hp := Lib.hid hp
      have Hkr := Lib.hid hkr
      have HNl := Lib.hid hNl
      clear hi hqp etv hK hob ebv hp hkr hNl
      generalize hm : mk (l.length + i) = m at *
      generalize hNN : l.length + i = N at *
      have Hm := Lib.hid hm
      have HN := Lib.hid hNN
      clear hm hNN
      generalize hbd : p.1.body = bd at *
      have Hbd := Lib.hid hbd
      clear hbd
      obtain ⟨W0, rfl⟩ : ∃ W0, W0 = wr := ⟨_, rfl⟩
      have hob0 : OwnB W0 base (.slice Ab bd.length cb) (List.replicate 0 m ++ bd.drop 0) := by simpa using Hob.out
      have Hob0 := Lib.hid hob0
      clear hob0
      go_upto_region 5 with fail
      go_wp2
      go_loopg [7] bd.length (fun gg kv wx => ∃ k, gg + k = bd.length ∧ kv = .int .i64 ((k : Nat) : Int) ∧ OwnB wx base (.slice Ab bd.length cb) (List.replicate k m ++ bd.drop k) ∧ Kp (fun j => (Value.slice Ab bd.length cb).ownBlock = some j) W0 wx)
      case atStart => exact ⟨0, by omega, rfl, Hob0.out, Kp.refl _ _⟩
      case round =>
        obtain ⟨k, hk, rfl, hown, hkp⟩ := hrel
        have Hk := Lib.hid hk
        have Hkp := Lib.hid hkp
        by_cases hkl : k < bd.length
        · have hki : (k : Int) < bd.length := by omega
          have hcl : (List.replicate k m ++ bd.drop k).length = bd.length := by simp; omega
          obtain ⟨gb, capb, eb, _, _⟩ := World.ownsRow.form hown (by rw [hcl]; omega)
          obtain ⟨rfl, -, rfl⟩ := Value.slice.inj eb
          have hrow := hown
          unfold OwnB at hrow
          rw [hcl] at hrow
          obtain ⟨old, hold⟩ : ∃ old, (List.replicate k m ++ bd.drop k)[k]? = some old := ⟨_, List.getElem?_eq_getElem (by rw [hcl]; exact hkl)⟩
          have hc0 : wr.cell? ⟨gb, k, none⟩ = some (.int .u8 old) := by
            rw [World.ownsRow.cellAt hrow k (by omega), List.getElem?_map, hold]
            rfl
          have hfz : wr.frozen? ⟨gb, k, none⟩ = false := World.ownsRow.frozenAt hrow k
          have hnx := OwnB.setU hown hcl.symm k m
          rw [repl_set k m m bd hkl rfl] at hnx
          have hkp2 := hkp.trans (Kp.set_ (fun j => (Value.slice (some ⟨gb, 0, none⟩) bd.length cb).ownBlock = some j) wr (p := ⟨gb, k, none⟩) rfl (.int .u8 m)) (fun j hj => .inl hj)
          have Hnx := Lib.hid hnx
          have Hkp2 := Lib.hid hkp2
          clear hk hown hkp hcl eb hrow hold hnx hkp2
          go_wp2
          go_roundg (gk - 1)
          case measure => have := Hk.out; omega
          case rel => exact ⟨k + 1, by have := Hk.out; omega, by go_num, Hnx.out, Hkp2.out⟩
        · obtain rfl : k = bd.length := by omega
          have hki : ¬ ((bd.length : Nat) : Int) < bd.length := by omega
          rw [List.drop_of_length_le (Nat.le_refl _), List.append_nil] at hown
          have hbS : ∀ b, FS2 g (.slice As N cs) (l ++ taken ps i) b → (Value.slice Ab bd.length cb).ownBlock ≠ some b := fun b hb => by
            rcases hb with rfl | hb | ⟨n, q, hq, hb⟩
            · exact Hob.out.ne_blk HK.out.sh.blk (by decide)
            · have hr := HK.out.sh.row
              rw [HNl.out] at hr
              exact own_apart hr Hob.out (by decide) hb
            · rw [← Hebv.out]
              exact (HK.out.apart n q hq b hb).2.2.2 i p (Nat.le_refl _) Hp.out
          have hbT : (Value.slice Ab bd.length cb).ownBlock ≠ some tb := fun e => Hpf.out i p Hp.out tb (by rw [Hebv.out]; exact e) rfl
          have hbQ : ∀ (j : Nat) (q : PV), i < j → ps[j]? = some q → ∀ b, q.2.ownBlock = some b → (Value.slice Ab bd.length cb).ownBlock ≠ some b := fun j q hj hq b hb e => Hpa.out i j p q (by omega) Hp.out hq b (by rw [Hebv.out]; exact e) hb
          have hshN : SH W0 base g (.slice As N cs) (l ++ taken ps i) := by have := HK.out.sh; rwa [HNl.out] at this
          have hsh1 := hshN.kp Hkp.out hbS
          have hkr1 := Hkr.out.kp Hkp.out (fun b hb e => by injection hb with hb; simp only at hb; subst hb; exact hbT e) (fun j q hj hq b hb => hbQ j q hj hq b hb)
          have hb2' := (Below.refl wr.heap.size wr).alloc (Nat.le_refl _) (.cells #[.slice Ab bd.length cb] 22)
          have hsh2 := hsh1.below hb2'
          have hkr2 := hkr1.below hb2'
          have hob2 : OwnB (wr.alloc (.cells #[.slice Ab bd.length cb] 22)) base (.slice Ab bd.length cb) (List.replicate bd.length m) := own_below hown hb2'
          have hrow2 := hsh2.row
          have s2 := hsh2.blk.cell 0
          simp only [List.getElem?_toArray, List.getElem?_cons_zero] at s2
          have hc2 : (wr.alloc (.cells #[.slice Ab bd.length cb] 22)).cell? ⟨wr.heap.size, 0, none⟩ = some (.slice Ab bd.length cb) := by simp
          have hbs2 : base ≤ (wr.alloc (.cells #[.slice Ab bd.length cb] 22)).heap.size := Nat.le_trans hbase (Nat.le_trans HK.out.kp.size (Nat.le_trans Hkp.out.size hb2'.size))
          have s1 := hsh1.blk.cell 0
          simp only [List.getElem?_toArray, List.getElem?_cons_zero] at s1
          have hgl := hsh1.blk.lt
          have Hsh2 := Lib.hid hsh2
          have Hkr2 := Lib.hid hkr2
          have Hob2 := Lib.hid hob2
          have Hrow2 := Lib.hid hrow2
          have Hc2 := Lib.hid hc2
          have Hbs2 := Lib.hid hbs2
          have HbS := Lib.hid hbS
          have HbT := Lib.hid hbT
          have HbQ := Lib.hid hbQ
          have HshN := Lib.hid hshN
          have Hb2' := Lib.hid hb2'
          clear hk hown hkp hbS hbT hbQ hshN hsh1 hkr1 hb2' hsh2 hkr2 hob2 hrow2 hc2 hbs2 hkl
          go_upto_region 10 with (at_builtin; refine wpList_appS rfl (.tmp 41) (.tmp 43) rfl (v := .slice As N cs) (xs := (l ++ taken ps i).map (·.2)) (by simp [Act.eval]) Hrow2.out wr.heap.size Ab bd.length cb 1 (by simp [Act.eval]) Hc2.out (by rw [HNl.out]; omega) Hbs2.out ?_; rintro g3 cap3 w3 hown3 hgr3 hat3 hlt3; have z := Hsh2.out.blk.grown hgr3 (fun e => Hsh2.out.ne e.symm); have z0 := z.cell 0; simp only [List.getElem?_toArray, List.getElem?_cons_zero] at z0; have zf := z.frozen 0; have HZ := Lib.hid z; clear z)
          have hkg : Kp (fun j => (Value.slice As N cs).ownBlock = some j) (wr.alloc (.cells #[.slice Ab bd.length cb] 22)) w3 := Kp.of_grown hgr3
          have hob3 : OwnB w3 base (.slice Ab bd.length cb) (List.replicate bd.length m) := Hob2.out.kp hkg (fun b hb e => own_apart Hob2.out Hrow2.out (by decide) hb e)
          have hkr3 := Hkr2.out.kp hkg (fun b hb e => own_apart Hkr2.out.row Hrow2.out (by decide) hb e) (fun j q hj hq b hb e => own_apart (Hkr2.out.own j q hj hq) Hrow2.out (by decide) hb e)
          have hkS : Kp (fun j => j = g) w3 (w3.setCell ⟨g, 0, none⟩ (.slice (some ⟨g3, 0, none⟩) (l.length + (taken ps i).length + 1) cap3)) := Kp.set_ (fun j => j = g) w3 (p := ⟨g, 0, none⟩) rfl _
          have hob4 := hob3.kp hkS (fun b hb e => own_ne_blk hob3 HZ.out (by decide) (by rw [hb, e]))
          have hkr4 := hkr3.kp hkS (fun b hb e => own_ne_blk hkr3.row HZ.out (by decide) (by rw [hb, e])) (fun j q hj hq b hb e => own_ne_blk (hkr3.own j q hj hq) HZ.out (by decide) (by rw [hb, e]))
          have hml : ((l ++ taken ps i).map (·.2)).length = l.length + (taken ps i).length := by rw [List.length_map, List.length_append]
          rw [hml] at hown3
          have htn := taken_next Hp.out
          rw [Hbd.out, Hebv.out] at htn
          have hrow4 : OwnS (w3.setCell ⟨g, 0, none⟩ (.slice (some ⟨g3, 0, none⟩) (l.length + (taken ps i).length + 1) cap3)) base (.slice (some ⟨g3, 0, none⟩) (l.length + (taken ps i).length + 1) cap3) ((l ++ taken ps (i + 1)).map (·.2)) := by
            have e : (l ++ taken ps (i + 1)).map (·.2) = (l ++ taken ps i).map (·.2) ++ [.slice Ab bd.length cb] := by rw [htn, ← List.append_assoc, List.map_append]; rfl
            rw [e]
            exact row_keep hown3 (fun b hb => hkS.block b (hown3.lt b hb).2 (fun e => own_ne_blk hown3 HZ.out (by decide) (by rw [hb, e])))
          have hsh4 : SH (w3.setCell ⟨g, 0, none⟩ (.slice (some ⟨g3, 0, none⟩) (l.length + (taken ps i).length + 1) cap3)) base g (.slice (some ⟨g3, 0, none⟩) (l.length + (taken ps i).length + 1) cap3) (l ++ taken ps (i + 1)) := by
            refine ⟨?_, hrow4, fun n q hq => ?_⟩
            · have := HZ.out.set_ 0 (.slice (some ⟨g3, 0, none⟩) (l.length + (taken ps i).length + 1) cap3)
              simpa using this
            · rw [htn, ← List.append_assoc] at hq
              rcases Nat.lt_or_ge n (l ++ taken ps i).length with hlt | hge
              · rw [List.getElem?_append_left hlt] at hq
                have ha := HK.out.apart n q hq
                have hr := ((Hsh2.out.own n q hq).kp hkg (fun b hb e => (by have := (ha b hb).1; rw [HNl.out] at this; exact this e)))
                exact hr.kp hkS (fun b hb e => (ha b hb).2.1 e)
              · rw [List.getElem?_append_right hge] at hq
                have hn0 : n - (l ++ taken ps i).length = 0 := by
                  rcases Nat.eq_zero_or_pos (n - (l ++ taken ps i).length) with h | h
                  · exact h
                  · rw [List.getElem?_eq_none (by simp only [List.length_singleton]; omega)] at hq; cases hq
                rw [hn0] at hq
                have hq' := Option.some.inj hq
                subst hq'
                have hnN : n = N := by have := HNl.out; rw [List.length_map] at this; omega
                rw [hnN, Hm.out]
                exact hob4.rb
          have hsz4 : (wr.alloc (.cells #[.slice Ab bd.length cb] 22)).heap.size ≤ w3.heap.size := hkg.size
          have hva3 : (Value.slice (some ⟨g3, 0, none⟩) (l.length + (taken ps i).length + 1) cap3).ownBlock = (Value.slice As N cs).ownBlock ∨ ∀ b, (Value.slice (some ⟨g3, 0, none⟩) (l.length + (taken ps i).length + 1) cap3).ownBlock = some b → wr.heap.size ≤ b := by
            rcases hat3 with h | h
            · exact .inl h.symm
            · refine .inr fun b hb => ?_
              injection hb with hb
              simp only [World.size_alloc] at hb h
              omega
          have hkW : Kp (fun j => j = g ∨ (Value.slice As N cs).ownBlock = some j ∨ (Value.slice Ab bd.length cb).ownBlock = some j) W0 (w3.setCell ⟨g, 0, none⟩ (.slice (some ⟨g3, 0, none⟩) (l.length + (taken ps i).length + 1) cap3)) := by
            refine (((Hkp.out.mono (S' := fun j => j = g ∨ (Value.slice As N cs).ownBlock = some j ∨ (Value.slice Ab bd.length cb).ownBlock = some j) (fun j hj => .inl (.inr (.inr hj)))).trans (Kp.of_below (S := fun _ => False) Hb2'.out) (fun _ h => h.elim)).trans hkg (fun j hj => .inl (.inr (.inl hj)))).trans hkS (fun j hj => .inl (.inl hj))
          have hsvs : (Value.slice (some ⟨g3, 0, none⟩) (l.length + (taken ps i).length + 1) cap3).ownBlock = some g3 := rfl
          generalize hVS : Value.slice (some ⟨g3, 0, none⟩) (l.length + (taken ps i).length + 1) cap3 = VS at *
          generalize hW4 : w3.setCell ⟨g, 0, none⟩ VS = W4 at *
          have hb40 : base ≤ W4.heap.size := Nat.le_trans hbase (Nat.le_trans HK.out.kp.size hkW.size)
          have hyb : (200 + (N : Int) % 55) % 256 = 200 + (N : Int) % 55 := by omega
          have Hsh4 := Lib.hid hsh4
          have Hkr4 := Lib.hid hkr4
          have Hob4 := Lib.hid hob4
          have Hva3 := Lib.hid hva3
          have HkW := Lib.hid hkW
          have Htn := Lib.hid htn
          have Hb40 := Lib.hid hb40
          clear hkg hob3 hkr3 hkS hob4 hkr4 hml hown3 htn hrow4 hsh4 hsz4 hva3 hkW hsvs hVS hW4 hb40 hgr3 hat3 hlt3 HZ z0 zf Hsh2 Hkr2 Hob2 Hrow2 Hc2 Hbs2 s0 s1 s2 Hb2'
          have hfar4 : ∀ (n : Nat) (q : Nat × Value), (l ++ taken ps (i + 1))[n]? = some q → n ≠ N → ∀ b, q.2.ownBlock = some b → (Value.slice Ab bd.length cb).ownBlock ≠ some b ∧ b < W4.heap.size := fun n q hq hn b hb => by
            have hlt4 := ((Hsh4.out.own n q hq).lt hb).2
            rw [Htn.out, ← List.append_assoc] at hq
            have hnl : n < (l ++ taken ps i).length := by
              have hN1 := HNl.out
              rw [List.length_map] at hN1
              have := (List.getElem?_eq_some_iff.1 hq).1
              rw [List.length_append, List.length_singleton] at this
              omega
            rw [List.getElem?_append_left hnl] at hq
            exact ⟨by rw [← Hebv.out]; exact (HK.out.apart n q hq b hb).2.2.2 i p (Nat.le_refl _) Hp.out, hlt4⟩
          have hne4 : ∀ (n : Nat) (q : Nat × Value), (l ++ taken ps (i + 1))[n]? = some q → n = N → q = (bd.length, .slice Ab bd.length cb) := fun n q hq hn => by
            have hN1 := HNl.out
            rw [List.length_map] at hN1
            rw [Htn.out, ← List.append_assoc, List.getElem?_append_right (by omega), hn, hN1, Nat.sub_self] at hq
            exact (Option.some.inj hq).symm
          have Hfar4 := Lib.hid hfar4
          have Hne4 := Lib.hid hne4
          clear hfar4 hne4
          go_wp2
          go_loopg [5, 8] 64 (fun gg blv jv wx => ∃ j A5 c5, gg + j = 64 ∧ jv = .int .i64 ((j : Nat) : Int) ∧ blv = .slice A5 (bd.length + j) c5 ∧ OwnB wx base (.slice A5 (bd.length + j) c5) (List.replicate bd.length m ++ List.replicate j (200 + (N : Int) % 55)) ∧
            SH wx base g VS (l ++ taken ps (i + 1)) ∧ KR wx base (.slice (some ⟨tb, 0, none⟩) ps.length ct) ps i ∧ Kp (fun j => (Value.slice Ab bd.length cb).ownBlock = some j) W4 wx ∧ ((Value.slice A5 (bd.length + j) c5).ownBlock = (Value.slice Ab bd.length cb).ownBlock ∨ ∀ b, (Value.slice A5 (bd.length + j) c5).ownBlock = some b → W4.heap.size ≤ b))
          case atStart => exact ⟨0, Ab, cb, by omega, rfl, rfl, by simpa using Hob4.out, Hsh4.out, Hkr4.out, Kp.refl _ _, .inl rfl⟩
          case round =>
            obtain ⟨j, A5, c5, hj, rfl, rfl, hob5, hsh5, hkr5, hkp5, hat5⟩ := hrel
            have Hj := Lib.hid hj
            have hzn : ∀ b, (Value.slice A5 (bd.length + j) c5).ownBlock = some b → b ≠ g ∧ VS.ownBlock ≠ some b ∧ b ≠ tb ∧ (∀ (k : Nat) (q : PV), i < k → ps[k]? = some q → q.2.ownBlock ≠ some b) ∧ (∀ (n : Nat) (q : Nat × Value), (l ++ taken ps (i + 1))[n]? = some q → n ≠ N → q.2.ownBlock ≠ some b) := fun b hb => by
              refine ⟨fun e => own_ne_blk hob5 hsh5.blk (by decide) (by rw [hb, e]), own_apart hob5 hsh5.row (by decide) hb, fun e => own_apart hob5 hkr5.row (by decide) hb (by rw [e]; rfl), fun k q hk hq e => ?_, fun n q hq hn e => ?_⟩
              · rcases hat5 with h | h
                · exact HbQ.out k q hk hq b e (h ▸ hb)
                · have := h b hb
                  have := ((Hkr4.out.own k q hk hq).lt e).2
                  omega
              · obtain ⟨h1, h2⟩ := Hfar4.out n q hq hn b e
                rcases hat5 with h | h
                · exact h1 (h ▸ hb)
                · have := h b hb
                  omega
            have Hzn := Lib.hid hzn
            have Hob5 := Lib.hid hob5
            have Hsh5 := Lib.hid hsh5
            have Hkr5 := Lib.hid hkr5
            have Hkp5 := Lib.hid hkp5
            have Hat5 := Lib.hid hat5
            clear hj hzn hob5 hsh5 hkr5 hkp5 hat5
            by_cases hjl : j < 64
            · have hji : (j : Int) < 64 := by omega
              have hb6 := (Below.refl wr.heap.size wr).alloc (Nat.le_refl _) (.cells #[.int .u8 (200 + (N : Int) % 55)] 5)
              have hob6 : OwnB (wr.alloc (.cells #[.int .u8 (200 + (N : Int) % 55)] 5)) base (.slice A5 (bd.length + j) c5) (List.replicate bd.length m ++ List.replicate j (200 + (N : Int) % 55)) := own_below Hob5.out hb6
              have hsh6 := Hsh5.out.below hb6
              have hkr6 := Hkr5.out.below hb6
              have hx6 : BytesAt (wr.alloc (.cells #[.int .u8 (200 + (N : Int) % 55)] 5)) (some ⟨wr.heap.size, 0, none⟩) [200 + (N : Int) % 55] := bytes_single (Blk.new wr 5 _)
              have hbs6 : base ≤ (wr.alloc (.cells #[.int .u8 (200 + (N : Int) % 55)] 5)).heap.size := Nat.le_trans Hb40.out (Nat.le_trans Hkp5.out.size hb6.size)
              have hyl : (List.replicate bd.length m ++ List.replicate j (200 + (N : Int) % 55)).length = bd.length + j := by simp
              have Hb6 := Lib.hid hb6
              have Hob6 := Lib.hid hob6
              have Hsh6 := Lib.hid hsh6
              have Hkr6 := Lib.hid hkr6
              have Hx6 := Lib.hid hx6
              have Hbs6 := Lib.hid hbs6
              have Hyl := Lib.hid hyl
              clear hb6 hob6 hsh6 hkr6 hx6 hbs6 hyl
              go_upto_region 12 with (at_builtin; refine wpList_appK rfl (.tmp 51) (.tmp 56) rfl (v := .slice A5 (bd.length + j) c5) (ys := List.replicate bd.length m ++ List.replicate j (200 + (N : Int) % 55)) (by simp [Act.eval]) Hob6.out wr.heap.size (200 + (N : Int) % 55) 1 (by simp [Act.eval]) Hx6.out (by rw [Hyl.out]; omega) Hbs6.out ?_; rintro A7 c7 w7 hown7 hat7 hkp7 hrb7)
              rw [Hyl.out] at hown7 hat7
              have e7 : (List.replicate bd.length m ++ List.replicate j (200 + (N : Int) % 55)) ++ [200 + (N : Int) % 55] = List.replicate bd.length m ++ List.replicate (j + 1) (200 + (N : Int) % 55) := by rw [List.append_assoc, ← List.replicate_succ']
              rw [e7] at hown7
              have hsh7 : SH w7 base g VS (l ++ taken ps (i + 1)) := by
                refine ⟨Hsh6.out.blk.kp hkp7 (fun e => (Hzn.out g e).1 rfl), row_keep Hsh6.out.row (fun b hb => hkp7.block b (Hsh6.out.row.lt b hb).2 (fun e => (Hzn.out b e).2.1 hb)), fun n q hq => ?_⟩
                by_cases hn : n = N
                · have hr := Hsh6.out.own n q hq
                  have hq' := Hne4.out n q hq hn
                  refine hrb7 _ _ hr ?_
                  rw [hq']
                  simp
                · exact (Hsh6.out.own n q hq).kp hkp7 (fun b hb e => (Hzn.out b e).2.2.2.2 n q hq hn hb)
              have hkr7 := Hkr6.out.kp hkp7 (fun b hb e => by injection hb with hb; simp only at hb; subst hb; exact (Hzn.out _ e).2.2.1 rfl) (fun k q hk hq b hb e => (Hzn.out b e).2.2.2.1 k q hk hq hb)
              have hkp8 : Kp (fun j => (Value.slice Ab bd.length cb).ownBlock = some j) W4 w7 := (Hkp5.out.trans (Kp.of_below (S := fun _ => False) Hb6.out) (fun _ h => h.elim)).trans hkp7 (fun b hb => by
                rcases Hat5.out with h | h
                · exact .inl (h ▸ hb)
                · exact .inr (h b hb))
              have hat8 : (Value.slice A7 (bd.length + j + 1) c7).ownBlock = (Value.slice Ab bd.length cb).ownBlock ∨ ∀ b, (Value.slice A7 (bd.length + j + 1) c7).ownBlock = some b → W4.heap.size ≤ b := by
                rcases hat7 with h | h
                · rw [h]; exact Hat5.out
                · exact .inr fun b hb => Nat.le_trans (Nat.le_trans Hkp5.out.size Hb6.out.size) (h b hb)
              have Hown7 := Lib.hid hown7
              have Hsh7 := Lib.hid hsh7
              have Hkr7 := Lib.hid hkr7
              have Hkp8 := Lib.hid hkp8
              have Hat8 := Lib.hid hat8
              clear hown7 hat7 hkp7 hrb7 e7 hsh7 hkr7 hkp8 hat8
              go_wp2
              go_roundg (gk - 1)
              case measure => have := Hj.out; omega
              case rel => exact ⟨j + 1, A7, c7, by have := Hj.out; omega, by go_num, rfl, Hown7.out, Hsh7.out, Hkr7.out, Hkp8.out, Hat8.out⟩
            · have hji : ¬ (j : Int) < 64 := by omega
              have hrow := Hkr5.out.row
              have hcl : ∀ k, k < 4 → wr.cell? ⟨tb, i * 4 + k, none⟩ = (pcCells p)[k]? := fun k hk => by
                rw [World.ownsRow.cellAt hrow _ (by omega), pc_get (left_ ps i) i p (by rw [left_at ps (Nat.le_refl _)]; exact Hp.out) k hk]
              have z0 : wr.cell? ⟨tb, i * 4, none⟩ = some (.int .i64 p.1.kind) := hcl 0 (by omega)
              have z1 : wr.cell? ⟨tb, i * 4 + 1, none⟩ = some p.2 := hcl 1 (by omega)
              have z2 : wr.cell? ⟨tb, i * 4 + 2, none⟩ = some (.int .i64 p.1.at_) := hcl 2 (by omega)
              have z3 : wr.cell? ⟨tb, i * 4 + 3, none⟩ = some (.int .i64 p.1.err) := hcl 3 (by omega)
              have y0 : wr.frozen? ⟨tb, i * 4, none⟩ = false := World.ownsRow.frozenAt hrow _
              have y1 : wr.frozen? ⟨tb, i * 4 + 1, none⟩ = false := World.ownsRow.frozenAt hrow _
              have y2 : wr.frozen? ⟨tb, i * 4 + 2, none⟩ = false := World.ownsRow.frozenAt hrow _
              have y3 : wr.frozen? ⟨tb, i * 4 + 3, none⟩ = false := World.ownsRow.frozenAt hrow _
              have hks : KS w ((((wr.setCell ⟨tb, i * 4, none⟩ (.int .i64 (-1))).setCell ⟨tb, i * 4 + 1, none⟩ (.slice none 0 0)).setCell ⟨tb, i * 4 + 2, none⟩ (.int .i64 0)).setCell ⟨tb, i * 4 + 3, none⟩ (.int .i64 0)) base g sv VS (.slice (some ⟨tb, 0, none⟩) ps.length ct) l ps (i + 1) := by
                have hkT : Kp (fun j => j = tb) wr ((((wr.setCell ⟨tb, i * 4, none⟩ (.int .i64 (-1))).setCell ⟨tb, i * 4 + 1, none⟩ (.slice none 0 0)).setCell ⟨tb, i * 4 + 2, none⟩ (.int .i64 0)).setCell ⟨tb, i * 4 + 3, none⟩ (.int .i64 0)) :=
                  (((Kp.set_ (fun j => j = tb) wr (p := ⟨tb, i * 4, none⟩) rfl _).trans (Kp.set_ (fun j => j = tb) _ (p := ⟨tb, i * 4 + 1, none⟩) rfl _) (fun j hj => .inl hj)).trans (Kp.set_ (fun j => j = tb) _ (p := ⟨tb, i * 4 + 2, none⟩) rfl _) (fun j hj => .inl hj)).trans (Kp.set_ (fun j => j = tb) _ (p := ⟨tb, i * 4 + 3, none⟩) rfl _) (fun j hj => .inl hj)
                have hold : ∀ (n : Nat) (q : Nat × Value), (l ++ taken ps (i + 1))[n]? = some q → n ≠ N → (l ++ taken ps i)[n]? = some q := fun n q hq hn => by
                  rw [Htn.out, ← List.append_assoc] at hq
                  have hN1 := HNl.out
                  rw [List.length_map] at hN1
                  have := (List.getElem?_eq_some_iff.1 hq).1
                  rw [List.length_append, List.length_singleton] at this
                  rwa [List.getElem?_append_left (by omega)] at hq
                have hbtb : ∀ (n : Nat) (q : Nat × Value), (l ++ taken ps (i + 1))[n]? = some q → ∀ b, q.2.ownBlock = some b → VS.ownBlock ≠ some b ∧ b ≠ g ∧ (Value.slice (some ⟨tb, 0, none⟩) ps.length ct).ownBlock ≠ some b ∧ ∀ (k : Nat) (r : PV), i + 1 ≤ k → ps[k]? = some r → r.2.ownBlock ≠ some b := fun n q hq b hb => by
                  by_cases hn : n = N
                  · have hq' := Hne4.out n q hq hn
                    rw [hq'] at hb
                    refine ⟨own_apart Hob4.out Hsh4.out.row (by decide) hb, fun e => own_ne_blk Hob4.out Hsh4.out.blk (by decide) (by rw [hb, e]), fun e => HbT.out ?_, fun k r hk hr e => HbQ.out k r (by omega) hr b e hb⟩
                    injection e with e
                    simp only at e
                    rw [e]
                    exact hb
                  · have hq' := hold n q hq hn
                    obtain ⟨h1, h2, h3, h4⟩ := HK.out.apart n q hq' b hb
                    have hlt0 := ((HK.out.sh.own n q hq').lt hb).2
                    refine ⟨fun e => ?_, h2, h3, fun k r hk hr => h4 k r (by omega) hr⟩
                    rcases Hva3.out with h | h
                    · rw [h] at e
                      have h1' := h1
                      rw [HNl.out] at h1'
                      exact h1' e
                    · have := h b e
                      have := Hkp.out.size
                      omega
                refine ⟨Hsh5.out.kp hkT (fun b hb e => ?_), ?_, ?_, ?_, hbtb⟩
                · subst e
                  rcases hb with hb | hb | ⟨n, q, hq, hb⟩
                  · exact own_ne_blk Hkr5.out.row Hsh5.out.blk (by decide) (by rw [← hb]; rfl)
                  · exact own_apart Hkr5.out.row Hsh5.out.row (by decide) rfl hb
                  · exact (hbtb n q hq b hb).2.2.1 rfl
                · exact Hkr5.out.blanked hlt Hpa.out (fun j q hq b hb e => Hpf.out j q hq b hb (by rw [e]; rfl))
                · refine ((HK.out.kp.trans HkW.out (fun j hj => ?_)).trans Hkp5.out (fun j hj => .inl (.inr (.inr (.inr ⟨i, p, Hp.out, by rw [Hebv.out]; exact hj⟩))))).trans hkT (fun j hj => .inl (.inr (.inr (.inl (by rw [hj]; rfl)))))
                  rcases hj with hj | hj | hj
                  · exact .inl (.inl hj)
                  · rcases HK.out.sva with h | h
                    · rw [HNl.out] at h
                      exact .inl (.inr (.inl (h ▸ hj)))
                    · rw [HNl.out] at h
                      exact .inr (h j hj)
                  · exact .inl (.inr (.inr (.inr ⟨i, p, Hp.out, by rw [Hebv.out]; exact hj⟩)))
                · rcases Hva3.out with h | h
                  · rw [h]
                    have := HK.out.sva
                    rwa [HNl.out] at this
                  · exact .inr fun b hb => Nat.le_trans (Nat.le_trans HK.out.kp.size Hkp.out.size) (h b hb)
              have Hks := Lib.hid hks
              clear hrow hcl hks
              go_wp2
              go_roundg (ps.length - (i + 1))
              case measure => have := Hi.out; omega
              case rel => exact ⟨i + 1, VS, by have := Hi.out; omega, by go_num, Hks.out⟩
    · have hli : ¬ (i : Int) < ps.length := by omega
      obtain rfl : i = ps.length := by omega
      have HK := Lib.hid hK
      clear hK hi hlt
      go_wp2
      go_end0
      exact ⟨rfl, svi, HK.out⟩
end Go.Proofs.Ytkllgmhfjibajaa
