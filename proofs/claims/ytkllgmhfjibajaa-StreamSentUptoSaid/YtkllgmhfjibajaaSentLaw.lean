/- The walk of 'StreamSent'. Conditions: all fits. -/
import Derived.Test.YtkllgmhfjibajaaSent
namespace Go.Proofs.Ytkllgmhfjibajaa
open Go.RowKit St
theorem OwnB.set_ {w : World} {base g n cap : Nat} {xs : List Int} (h : OwnB w base (.slice (some ⟨g, 0, none⟩) n cap) xs) (hn : n = xs.length) (k : Nat) (x : Int) : OwnB (w.setCell ⟨g, k, none⟩ (.int .u8 x)) base (.slice (some ⟨g, 0, none⟩) n cap) (xs.set k x) := by
  subst hn
  have h1 := World.ownsRow.stored h k (.int .u8 x)
  show World.ownsRow _ base 5 1 _ _ _
  rw [List.length_set, List.map_set]
  exact h1.1
theorem OwnB.noneCap {w : World} {base n c : Nat} {xs : List Int} (h : OwnB w base (.slice none n c) xs) : c = 0 := by
  rcases h.2 with ⟨e, _⟩ | ⟨g, cap, cur, e, _⟩
  · injection e
  · cases e
theorem sel_fit {lim : Int} {l : List BV} {p : BV} (h : p ∈ selB lim l) : p ∈ l ∧ Fit lim p.1 := by
  unfold selB at h
  rw [List.mem_filter] at h
  exact ⟨h.1, by simpa using h.2⟩
theorem frames_byt : ∀ {l : List (List Int)}, (∀ c ∈ l, Byt c) → Byt (frames l)
  | [], _ => byt_nil
  | c :: l, h => by
    have e : frames (c :: l) = frameOf c ++ frames l := rfl
    rw [e]
    exact byt_app (frameOf_byt (h c List.mem_cons_self)) (frames_byt (fun d hd => h d (List.mem_cons_of_mem _ hd)))
theorem byt_set {l : List Int} (h : Byt l) {x : Int} (hx : 0 ≤ x ∧ x < 256) (k : Nat) : Byt (l.set k x) := fun y hy => by
  rcases List.mem_or_eq_of_mem_set hy with h1 | rfl
  · exact h y h1
  · exact hx
/-- What is sent, spoilt or not. -/
structure Spl (lim : Int) (cs : List (List Int)) (zs : List Int) (sp : Int) : Prop where
  len : zs.length = tot cs
  byt : Byt zs
  feed : ∃ len', feed (fresh lim) zs = (⟨1, lim, [], len', (tot cs : Int)⟩, tells sp 0 0 cs)
theorem Spl.none {lim : Int} (hl2 : lim ≤ 4096) {cs : List (List Int)} (hf : ∀ c ∈ cs, Fit lim c) (hb : ∀ c ∈ cs, Byt c) (ht : tot cs ≤ 2147483648) : Spl lim cs (frames cs) (-1) := by
  obtain ⟨l1, h1⟩ := feed_frames (sp := -1) hl2 cs 0 0 0 hf (by omega) (by omega) (fun k _ => by omega)
  exact ⟨frames_len cs, frames_byt hb, l1, by rw [Int.zero_add] at h1; exact h1⟩
theorem Spl.one {lim : Int} (hl2 : lim ≤ 4096) {cs : List (List Int)} (hf : ∀ c ∈ cs, Fit lim c) (hb : ∀ c ∈ cs, Byt c) (ht : tot cs ≤ 2147483648) {s : Nat} {c : List Int} (hc : cs[s]? = some c) {k : Nat} (hk : k < c.length + 4) :
    ∃ a : Nat, (ats 0 cs)[s]? = some (a : Int) ∧ a + 5 + k < tot cs ∧ ∀ x : Int, 0 ≤ x ∧ x < 256 → (frames cs)[a + 5 + k]? ≠ some x → Spl lim cs ((frames cs).set (a + 5 + k) x) (s : Int) := by
  have hs := (List.getElem?_eq_some_iff.1 hc).1
  have hcs : cs[s] = c := (List.getElem?_eq_some_iff.1 hc).2
  have e : cs = cs.take s ++ c :: cs.drop (s + 1) := by rw [← hcs, List.getElem_cons_drop, List.take_append_drop]
  have hl : (cs.take s).length = s := by rw [List.length_take]; omega
  have hm := hb c (List.mem_of_getElem? hc)
  generalize cs.take s = pre at *
  generalize cs.drop (s + 1) = post at *
  subst hl
  subst e
  have htt : tot (pre ++ c :: post) = tot pre + (c.length + 9 + tot post) := tot_app pre (c :: post)
  refine ⟨tot pre, ?_, by omega, fun x hx hne => ⟨by rw [List.length_set, frames_len], byt_set (frames_byt hb) hx _, feed_sent hl2 pre post c hf hm (by omega) hk hx hne⟩⟩
  rw [ats_app, List.getElem?_append_right (by rw [ats_len]; exact Nat.le_refl _), ats_len, Nat.sub_self, Int.zero_add]
  rfl
attribute [local irreducible] Go.Calls in
set_option maxRecDepth 100000 in
set_option maxHeartbeats 4000000 in
theorem sentlaw_any (lim0 wh at_ tt : Int) (A A1 : Option Addr) (l : List BV) (xs1 : List Int) (c c1 : Nat) (w : World) (hc : l.length ≤ c ∧ c ≤ maxLen) (hx : Rows2 w A l) (hbig : tot (l.map (·.1)) ≤ 2147483647) (hto : 0 ≤ tt ∧ tt < 256)
    (h1 : IntsAt w w.heap.size A1 xs1) (h1x : ∀ x ∈ xs1, -9223372036854775808 ≤ x ∧ x ≤ 9223372036854775807) (h1l : xs1.length * 8 ≤ 140737488351232) :
    Calls Try.prog 9 #[.slice A l.length c, .int .i64 lim0, .slice A1 xs1.length c1, .int .i64 wh, .int .i64 at_, .int .u8 tt] w fun e w' => e = .returned (.bool true) ∧ Below w.heap.size w w' := by
  have hlim := bentI_range lim0
  have hbn := bent_any lim0 w
  have Hx := Lib.hid hx
  have H1 := Lib.hid h1
  clear hx h1
  generalize bentI lim0 = lim at *
  have hsl := selB_tot lim l
  go_enter Try.func9, Try.ntmps9
  go_upto_region 2 with (go_at_call 34; refine hbn.mono ?_; clear hbn; rintro e w ⟨rfl, rfl⟩)
  have hsent := sent_any lim A l c w hlim hc Hx.out (by omega)
  have hfit : ∀ p ∈ (selB lim l).map (·.1), Fit lim p := fun p hp => by
    obtain ⟨q, hq, rfl⟩ := List.mem_map.1 hp
    exact (sel_fit hq).2
  have hbyt : ∀ p ∈ (selB lim l).map (·.1), Byt p := fun p hp => by
    obtain ⟨q, hq, rfl⟩ := List.mem_map.1 hp
    exact Hx.out.byt _ (sel_fit hq).1
  have hsv : ∀ p ∈ selB lim l, Sl w p.2 p.1 := fun p hp => Hx.out.sl _ (sel_fit hp).1
  have htl := tot_len ((selB lim l).map (·.1))
  rw [List.length_map] at htl
  generalize selB lim l = ss at *
  have Hfit := Lib.hid hfit
  have Hbyt := Lib.hid hbyt
  have Hsv := Lib.hid hsv
  clear hfit hbyt hsv
  go_upto_region 3 with (go_at_call 38; refine hsent.mono ?_; clear hsent; rintro e w1 ⟨bv, av, tv, rfl, hS⟩)
  obtain ⟨Ab, cb, rfl, hb1, hb2⟩ := own_shape hS.b
  obtain ⟨Aa, ca, rfl, ha1, ha2⟩ := own_shape hS.a
  obtain ⟨At, ct, rfl, ht1, ht2⟩ := own_shape hS.t
  have hfl := frames_len (ss.map (·.1))
  have hal := ats_len (ss.map (·.1)) 0
  have hS' : SN w w1 (.slice Ab (tot (ss.map (·.1))) cb) (.slice Aa ss.length ca) (.slice At ss.length ct) ss := by
    have := hS
    rw [hfl, hal, List.length_map, List.length_map] at this
    exact this
  rw [hfl] at hb1
  rw [hal, List.length_map] at ha1
  rw [List.length_map] at ht1
  rw [hfl, hal, List.length_map, List.length_map]
  have HS := Lib.hid hS'
  have Hfl := Lib.hid hfl
  have Hal := Lib.hid hal
  clear hS hS' hfl hal
  go_upto_region 6 with fail
  go_cut [42] (fun v wx => v = .bool (decide (0 < ss.length ∧ 0 ≤ wh)) ∧ w1 = wx)
  case first =>
    by_cases hs0 : 0 < ss.length
    · have hs1 : (ss.length : Int) > 0 := by omega
      by_cases hw0 : 0 ≤ wh
      · go_wp2
        go_meet
        case rel => exact ⟨by simp [hs0, hw0], rfl⟩
      · go_wp2
        go_meet
        case rel => exact ⟨by simp [hw0], rfl⟩
    · have hs1 : ¬ (ss.length : Int) > 0 := by omega
      go_wp2
      go_meet
      case rel => exact ⟨by simp [hs0], rfl⟩
  case rest =>
    obtain ⟨rfl, rfl⟩ := hcut
    go_upto_if 42 with fail
    go_cut [17] (fun v wx => ∃ sp zs, v = .int .i64 sp ∧ OwnB wx w.heap.size (.slice Ab (tot (ss.map (·.1))) cb) zs ∧ Spl lim (ss.map (·.1)) zs sp ∧ Kp (fun j => (Value.slice Ab (tot (ss.map (·.1))) cb).ownBlock = some j) w1 wx)
    case first =>
      by_cases hcond : 0 < ss.length ∧ 0 ≤ wh
      · have hdt : decide (0 < ss.length ∧ 0 ≤ wh) = true := decide_eq_true hcond
        obtain ⟨hs0, hw0⟩ := hcond
        have hs0i : (0 : Int) < ss.length := by omega
        have hm0 : ¬ (ss.length : Int) = 0 := by omega
        have hm1 : ((ss.length : Int) == 0) = false := by simp only [beq_eq_false_iff_ne, ne_eq]; omega
        obtain ⟨s, hs⟩ : ∃ s : Nat, (s : Int) = wh % ss.length := ⟨(wh % ss.length).toNat, by have := Int.emod_nonneg wh hm0; omega⟩
        have hslt : s < ss.length := by have := Int.emod_lt_of_pos wh hs0i; omega
        have hrem : wh.tmod ss.length = (s : Int) := by rw [hs]; exact Int.tmod_eq_emod_of_nonneg hw0
        have hsi : (s : Int) < ss.length := by omega
        have hsn : ¬ (s : Int) < 0 := by omega
        obtain ⟨p, hp⟩ : ∃ p, ss[s]? = some p := ⟨_, List.getElem?_eq_getElem hslt⟩
        obtain ⟨Ai, ci, ep, hc1', hc2', hxi⟩ := Hsv.out p (List.mem_of_getElem? hp)
        obtain ⟨tb, tcap, etv, _, _⟩ := World.ownsRow.form HS.out.t (by rw [List.length_map]; exact hs0)
        rw [List.length_map] at etv
        obtain ⟨rfl, -, rfl⟩ := Value.slice.inj etv
        have htc := HS.out.t
        unfold OwnS at htc
        rw [List.length_map] at htc
        have qt : w1.cell? ⟨tb, s, none⟩ = some (.slice Ai p.1.length ci) := by
          rw [World.ownsRow.cellAt htc s (by omega), List.getElem?_map, hp, ← ep]
          rfl
        obtain ⟨abk, acap, eav, _, _⟩ := World.ownsRow.form HS.out.a (by rw [ats_len, List.length_map]; exact hs0)
        rw [ats_len, List.length_map] at eav
        obtain ⟨rfl, -, rfl⟩ := Value.slice.inj eav
        have hone : ∀ k, k < p.1.length + 4 → ∃ a : Nat, (ats 0 (ss.map (·.1)))[s]? = some (a : Int) ∧ a + 5 + k < tot (ss.map (·.1)) ∧ ∀ x : Int, 0 ≤ x ∧ x < 256 → (frames (ss.map (·.1)))[a + 5 + k]? ≠ some x → Spl lim (ss.map (·.1)) ((frames (ss.map (·.1))).set (a + 5 + k) x) (s : Int) := fun k hk => Spl.one hlim.2 Hfit.out Hbyt.out (by omega) (by rw [List.getElem?_map, hp]; rfl) hk
        have hac := HS.out.a
        unfold OwnInts at hac
        rw [ats_len, List.length_map] at hac
        have qa : ∀ a : Int, (ats 0 (ss.map (·.1)))[s]? = some a → w1.cell? ⟨abk, s, none⟩ = some (.int .i64 a) := fun a ha => by
          rw [World.ownsRow.cellAt hac s (by omega), List.getElem?_map, ha]
          rfl
        have hpl : p.1.length ≤ 2147483647 := by have := tot_mem (List.mem_map_of_mem (f := (·.1)) (List.mem_of_getElem? hp)); omega
        have hc3' := hc2'
        unfold maxLen at hc3'
        have hn0 : ¬ (p.1.length : Int) + 4 = 0 := by omega
        have hn1 : (((p.1.length : Int) + 4) == 0) = false := by simp only [beq_eq_false_iff_ne, ne_eq]; omega
        have ht1 := Int.tmod_lt_of_pos at_ (b := (p.1.length : Int) + 4) (by omega)
        have ht2 := Int.lt_tmod_of_pos at_ (b := (p.1.length : Int) + 4) (by omega)
        have Hp := Lib.hid hp
        have Hs := Lib.hid hs
        have Hone := Lib.hid hone
        have Hqa := Lib.hid qa
        clear htc hac ep hp hxi hs etv eav hone qa
        go_upto_region 10 with fail
        generalize Int.tmod at_ ((p.1.length : Int) + 4) = y at *
        obtain ⟨k, hk⟩ : ∃ k : Nat, (k : Int) = if y < 0 then y + ((p.1.length : Int) + 4) else y := by
          by_cases hy : y < 0
          · exact ⟨(y + ((p.1.length : Int) + 4)).toNat, by rw [if_pos hy]; omega⟩
          · exact ⟨y.toNat, by rw [if_neg hy]; omega⟩
        go_upto_if 57 with fail
        go_cut [19] (fun v wx => v = .int .i64 (k : Nat) ∧ w1 = wx)
        case first =>
          by_cases hy : y < 0
          · rw [if_pos hy] at hk
            have Hk := Lib.hid hk
            clear hk
            go_wp2
            go_meet
            case rel => exact ⟨by rw [Hk.out], rfl⟩
          · rw [if_neg hy] at hk
            have Hk := Lib.hid hk
            clear hk
            go_wp2
            go_meet
            case rel => exact ⟨by rw [Hk.out], rfl⟩
        case rest =>
          obtain ⟨rfl, rfl⟩ := hcut
          have hkn : k < p.1.length + 4 := by
            split at hk <;> omega
          obtain ⟨a, ha, halt, hspl⟩ := Hone.out k hkn
          have qa := Hqa.out _ ha
          obtain ⟨bb, bcap, ebv, _, _⟩ := World.ownsRow.form HS.out.b (by rw [Hfl.out]; omega)
          rw [Hfl.out] at ebv
          obtain ⟨rfl, -, rfl⟩ := Value.slice.inj ebv
          obtain ⟨old, hold⟩ : ∃ old, (frames (ss.map (·.1)))[a + 5 + k]? = some old := ⟨_, List.getElem?_eq_getElem (by rw [Hfl.out]; exact halt)⟩
          have hbc := HS.out.b
          have hbs := hbc
          unfold OwnB at hbc
          rw [Hfl.out] at hbc
          have qb : w1.cell? ⟨bb, a + 5 + k, none⟩ = some (.int .u8 old) := by
            rw [World.ownsRow.cellAt hbc _ (by omega), List.getElem?_map, hold]
            rfl
          have hset : ∀ x, OwnB (w1.setCell ⟨bb, a + 5 + k, none⟩ (.int .u8 x)) w.heap.size (.slice (some ⟨bb, 0, none⟩) (tot (ss.map (·.1))) cb) ((frames (ss.map (·.1))).set (a + 5 + k) x) := fun x => OwnB.set_ hbs Hfl.out.symm _ x
          rw [hold] at hspl
          have hfz : w1.frozen? ⟨bb, a + 5 + k, none⟩ = false := World.ownsRow.frozenAt hbc _
          have hai : (a : Int) + 5 + (k : Int) = ((a + 5 + k : Nat) : Int) := by omega
          have hmi : ((a + 5 + k : Nat) : Int) < (tot (ss.map (·.1)) : Nat) := by omega
          have Hspl := Lib.hid hspl
          have Hset := Lib.hid hset
          have Hai := Lib.hid hai
          have Hmi := Lib.hid hmi
          clear hai hmi
          clear hbc hbs hspl hset hold ha ebv hk ht1 ht2 Hone Hqa
          have hmo : (a : Int) + 5 + (k : Int) ≤ 2147483647 := by omega
          go_upto_region 13 with fail
          rw [Hai.out]
          have hmi := Hmi.out
          clear hmo
          by_cases heq : old = tt
          · have heb : (old == tt) = true := by simp [heq]
            have hx1 : 0 ≤ (tt + 1) % 256 ∧ (tt + 1) % 256 < 256 := by omega
            have hx2 : some old ≠ some ((tt + 1) % 256) := fun h => by
              have := Option.some.inj h
              omega
            have Hx1 := Lib.hid hx1
            have Hx2 := Lib.hid hx2
            clear heq hx1 hx2
            go_wp2
            go_meet
            case rel => exact ⟨_, _, rfl, Hset.out _, Hspl.out _ Hx1.out Hx2.out, Kp.set_ (fun j => (Value.slice (some ⟨bb, 0, none⟩) (tot (ss.map (·.1))) cb).ownBlock = some j) w1 (p := ⟨bb, a + 5 + k, none⟩) rfl _⟩
          · have heb : (old == tt) = false := by simp [heq]
            have hx2 : some old ≠ some tt := fun h => heq (Option.some.inj h)
            have Hx2 := Lib.hid hx2
            clear heq hx2
            go_wp2
            go_meet
            case rel => exact ⟨_, _, rfl, Hset.out _, Hspl.out _ hto Hx2.out, Kp.set_ (fun j => (Value.slice (some ⟨bb, 0, none⟩) (tot (ss.map (·.1))) cb).ownBlock = some j) w1 (p := ⟨bb, a + 5 + k, none⟩) rfl _⟩
      · have hf : decide (0 < ss.length ∧ 0 ≤ wh) = false := by simp only [decide_eq_false_iff_not]; exact hcond
        go_wp2
        go_meet
        case rel => exact ⟨-1, frames (ss.map (·.1)), rfl, by have := HS.out.b; exact this, Spl.none hlim.2 Hfit.out Hbyt.out (by omega), Kp.refl _ _⟩
    case rest =>
      obtain ⟨sp, zs, rfl, hob, hspl, hkp⟩ := hcut
      have hac := HS.out.a.keep (w' := wc) (fun b hb => hkp.block b (HS.out.a.lt hb).2 (own_apart HS.out.a HS.out.b (by decide) hb))
      have htc : OwnS wc w.heap.size (.slice At ss.length ct) (ss.map (·.2)) := row_keep HS.out.t (fun b hb => hkp.block b (HS.out.t.lt b hb).2 (own_apart HS.out.t HS.out.b (by decide) hb))
      have hbc : Below w.heap.size w wc := Kp.to_below HS.out.be hkp HS.out.be.size (fun j hj => (HS.out.b.lt hj).1)
      have hzl := hspl.len
      have hzb := hspl.byt
      obtain ⟨len', hfeed⟩ := hspl.feed
      have hob2 : OwnB wc w.heap.size (.slice Ab zs.length cb) zs := by rw [hzl]; exact hob
      obtain ⟨A', c', e', hz1, hz2, hzx, hzA⟩ := hob2.read
      obtain ⟨rfl, -, rfl⟩ := Value.slice.inj e'
      have hnone : Ab = none → cb = 0 := fun e => by subst e; exact hob2.noneCap
      have Hac := Lib.hid hac
      have Htc := Lib.hid htc
      have Hbc := Lib.hid hbc
      have Hzl := Lib.hid hzl
      have Hzb := Lib.hid hzb
      have Hfeed := Lib.hid hfeed
      have Hob := Lib.hid hob2
      have Hzx := Lib.hid hzx
      have Hnone := Lib.hid hnone
      have Hz1 := Lib.hid hz1
      clear hac htc hbc hzl hzb hfeed hob hob2 hzx hnone hzA hspl hkp e' hz1 Hal
      go_upto_region 19 with (go_at_call 20; refine (new_good lim _ hlim).mono ?_; rintro e w2 ⟨rfl, hb2', hr2⟩)
      have hgl := hr2.blk.lt
      have hcut := cuts_any ((tot (ss.map (·.1)) : Nat) : Int) A1 c1 xs1 w2 w.heap.size (by have := Hbc.out.size; omega) (H1.out.below (Hbc.out.trans (hb2'.mono Hbc.out.size))) h1x (by omega) h1l
      generalize hg : wc.heap.size = g at *
      have Hb2 := Lib.hid hb2'
      have Hr2 := Lib.hid hr2
      clear hb2' hr2
      go_upto_region 20 with (first
        | (go_at_call 31; refine hcut.mono ?_; clear hcut; rintro e w3 ⟨⟨v5, rfl, hts⟩, hb3⟩
           have htold := told_new lim g g Ab zs cb wc w3 hlim ⟨Hz1.out, hb2⟩ Hnone.out (by rw [Hzl.out]; omega) Hzx.out Hzb.out (by omega) (by rw [hg]; exact Hb2.out.trans (hb3.mono (by omega))) (Hr2.out.below hb3) (by have := hb3.size; omega) _ v5 (hts.mono (by omega)) (fun j hj => by have := (hts.lt hj).1; omega)
           rw [Hzl.out] at htold)
        | (go_at_call 36; refine htold.mono ?_; clear htold; rintro e w4 ⟨tv3, rfl, v3, l3, hT3⟩))
      rw [Hfeed.out] at hT3
      have hs3 := hb3.size
      have hs4 := hT3.kp.size
      have hnil : ∀ j, (j = g ∨ (Value.slice none 0 0).ownBlock = some j) → j = g := fun j h => h.elim id (fun e => by cases e)
      have hbw3 : Below g wc w3 := Hb2.out.trans (hb3.mono (by omega))
      have hb04 : Below g wc w4 := Kp.to_below hbw3 hT3.kp (by omega) (fun j hj => by have := hnil _ hj; omega)
      have hl3 : l3.length = ss.length := by
        have := congrArg List.length hT3.ps
        rw [List.length_map, tells_len, List.length_map] at this
        exact this
      have hps0 : l3.map (·.1) = tells sp 0 0 (ss.map (·.1)) := hT3.ps
      have hps : ∀ (k : Nat) (q : PV), l3[k]? = some q → (tells sp 0 0 (ss.map (·.1)))[k]? = some q.1 := fun k q hq => by
        rw [← hps0, List.getElem?_map, hq]
        rfl
      obtain ⟨A3, c3, rfl, hc31, hc32⟩ := hT3.pl.shape
      have hc33 := hc32
      unfold maxLen at hc33
      have hac4 := (Hac.out.below (B := g) hb04 (by omega))
      have htc4 : OwnS w4 w.heap.size (.slice At ss.length ct) (ss.map (·.2)) := own_below Htc.out (by rw [hg]; exact hb04)
      have hsv4 : ∀ p ∈ ss, Sl w4 p.2 p.1 := fun p hp => (Hsv.out p hp).below (Hbc.out.trans (hb04.mono (by have := Hbc.out.size; omega)))
      have hb4 : Below w.heap.size w w4 := Hbc.out.trans (hb04.mono (by have := Hbc.out.size; omega))
      have hrd4 := hT3.rd
      have hpl4 := hT3.pl
      have hwt : Calls Try.prog 23 #[.pointer (some ⟨g, 0, none⟩)] w4 fun e w' => e = .returned (.int .i64 0) ∧ w4 = w' := (waiting_any _ _ _ _ _ hrd4).mono fun _ _ h => ⟨h.1, h.2.symm⟩
      have hdd : Calls Try.prog 25 #[.pointer (some ⟨g, 0, none⟩)] w4 fun e w' => e = .returned (.bool false) ∧ w4 = w' := (dead_any _ _ _ _ _ hrd4).mono fun _ _ h => ⟨h.1, h.2.symm⟩
      have hen : Calls Try.prog 27 #[.pointer (some ⟨g, 0, none⟩)] w4 fun e w' => e = .returned (.int .i64 0) ∧ w4 = w' := (end_any _ _ _ _ _ hrd4).mono fun _ _ h => ⟨h.1, h.2.symm⟩
      rw [hl3] at hc31 ⊢
      have Hl3 := Lib.hid hl3
      have Hps := Lib.hid hps
      have Hac4 := Lib.hid hac4
      have Htc4 := Lib.hid htc4
      have Hsv4 := Lib.hid hsv4
      have Hb4 := Lib.hid hb4
      have Hpl4 := Lib.hid hpl4
      clear hl3 hps0 hps hac4 htc4 hsv4 hb4 hpl4 hrd4 hT3 hb04 hbw3 hnil hs3 hs4 hb3 hts Hb2 Hr2 hg hgl Hac Htc Hbc Hob Hzx Hnone Hz1 Hfeed Hzb Hzl HS Hsv
      go_upto_region 22 with (first | (go_at_call 23; refine hwt.mono ?_; rintro e w' ⟨rfl, rfl⟩) | (go_at_call 25; refine hdd.mono ?_; rintro e w' ⟨rfl, rfl⟩) | (go_at_call 27; refine hen.mono ?_; rintro e w' ⟨rfl, rfl⟩))
      clear hwt hdd hen
      go_wp2
      go_loopg [23] ss.length (fun gg iv wx => ∃ k, gg + k = ss.length ∧ iv = .int .i64 ((k : Nat) : Int) ∧ ∃ j, wx = w4.drewN j)
      case atStart => exact ⟨0, by omega, rfl, 0, rfl⟩
      case round =>
        obtain ⟨k, hk, rfl, j, rfl⟩ := hrel
        have Hk := Lib.hid hk
        clear hk
        by_cases hlt : k < ss.length
        · have hki : (k : Int) < ss.length := by omega
          have hkn : ¬ (k : Int) < 0 := by omega
          obtain ⟨p, hp⟩ : ∃ p, ss[k]? = some p := ⟨_, List.getElem?_eq_getElem hlt⟩
          obtain ⟨q, hq⟩ : ∃ q, l3[k]? = some q := ⟨_, List.getElem?_eq_getElem (by rw [Hl3.out]; exact hlt)⟩
          obtain ⟨a, ha, htk⟩ := tells_at sp (ss.map (·.1)) 0 0 k p.1 (by rw [List.getElem?_map, hp]; rfl)
          rw [Hps.out k q hq, Nat.zero_add] at htk
          have htk := Option.some.inj htk
          obtain ⟨Ai, ci, ep, hc1', hc2', hxi⟩ := Hsv4.out p (List.mem_of_getElem? hp)
          obtain ⟨tb, tcap, etv, _, _⟩ := World.ownsRow.form Htc4.out (by rw [List.length_map]; omega)
          rw [List.length_map] at etv
          obtain ⟨rfl, -, rfl⟩ := Value.slice.inj etv
          have htc := Htc4.out
          unfold OwnS at htc
          rw [List.length_map] at htc
          have qt : w4.cell? ⟨tb, k, none⟩ = some (.slice Ai p.1.length ci) := by
            rw [World.ownsRow.cellAt htc k (by omega), List.getElem?_map, hp, ← ep]
            rfl
          obtain ⟨abk, acap, eav, _, _⟩ := World.ownsRow.form Hac4.out (by rw [ats_len, List.length_map]; omega)
          rw [ats_len, List.length_map] at eav
          obtain ⟨rfl, -, rfl⟩ := Value.slice.inj eav
          have hac := Hac4.out
          unfold OwnInts at hac
          rw [ats_len, List.length_map] at hac
          have qa : w4.cell? ⟨abk, k, none⟩ = some (.int .i64 a) := by
            rw [World.ownsRow.cellAt hac k (by omega), List.getElem?_map, ha]
            rfl
          obtain ⟨g1, cap1, e1, hg1, hg2, r0, r1, r2, r3, hf⟩ := Hpl4.out.at_ hq
          rw [Hl3.out] at e1
          obtain ⟨B1, cc1, eb1, d1, d2, dx, dA⟩ := (Hpl4.out.own k q hq).read
          rw [eb1] at r1
          obtain ⟨rfl, -, rfl⟩ := Value.slice.inj e1
          have hpl : p.1.length ≤ 2147483647 := by have := tot_mem (List.mem_map_of_mem (f := (·.1)) (List.mem_of_getElem? hp)); omega
          have hsn : ∀ j n, p.1 = q.1.body → Calls Try.prog 37 #[.slice B1 p.1.length cc1, .slice Ai p.1.length ci] (w4.drewN (j + n)) fun e w' => e = .returned (.bool true) ∧ ∃ m, w' = w4.drewN (j + m) := fun j n he => by
            have hb := below_drewN (Below.refl w4.heap.size w4) (j + n)
            refine (samebytes_yes B1 Ai cc1 ci p.1 _ (BytesAt.below (by rw [he]; exact dx) hb) (hxi.below hb) (by omega)).mono ?_
            rintro e w' ⟨rfl, m, rfl⟩
            exact ⟨rfl, n + m, by rw [World.drewN_drewN, Nat.add_assoc]⟩
          have hc3' := hc2'
          have hd3 := d2
          unfold maxLen at hc3' hd3
          have Hhsn := Lib.hid hsn
          clear hsn dx dA hf hac htc ep hp hq hxi etv eav ha eb1 hg1 hg2 e1
          by_cases hsp : ((k : Nat) : Int) = sp
          · have hkb : ((k : Int) == sp) = true := by simp [hsp]
            rw [if_pos hsp] at htk
            rw [htk] at r0 r1 r2 r3
            simp only [List.length_nil] at r0 r1 r2 r3
            clear htk hsp Hhsn
            go_upto_region 25 with fail
            go_quiet (fail)
            go_wp2
            go_roundg (gk - 1)
            case measure => have := Hk.out; omega
            case rel => exact ⟨k + 1, by have := Hk.out; omega, by go_num, _, rfl⟩
          · have hkb : ((k : Int) == sp) = false := by simp [hsp]
            rw [if_neg hsp] at htk
            have hs := fun j n => Hhsn.out j n (by rw [htk])
            rw [htk] at r0 r1 r2 r3
            simp only at r0 r1 r2 r3
            clear htk hsp Hhsn
            go_upto_region 25 with fail
            go_quiet (fail)
            go_upto_region 30 with fail
            generalize j + nq = j2
            have hs := hs j2
            go_quiet (first | (go_at_call 37; refine hs _))
            go_wp2
            go_roundg (gk - 1)
            case measure => have := Hk.out; omega
            case rel => exact ⟨k + 1, by have := Hk.out; omega, by go_num, _, rfl⟩
        · have hki : ¬ (k : Int) < ss.length := by omega
          go_wp2_with (go_at_call 30; refine (lawhead_any _).mono ?_; rintro e w8 ⟨rfl, hb8⟩)
          go_ret
          have hb := Hb4.out
          exact ⟨rfl, (below_drewN hb _).trans (hb8.mono (Nat.le_trans hb.size (Nat.le_refl _)))⟩
end Go.Proofs.Ytkllgmhfjibajaa
