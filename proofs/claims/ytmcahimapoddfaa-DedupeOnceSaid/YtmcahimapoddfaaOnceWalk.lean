/- The walk of 'DedupeOnce'. Conditions: the arguments are readable. -/
import Derived.Test.YtmcahimapoddfaaSends
import Derived.Test.YtmcahimapoddfaaTries
namespace Go.Proofs.Ytmcahimapoddfaa
open Go.RowKit Go.Maps

/-- v is a slice of the numbers xs. -/
def IS (w : World) (v : Value) (xs : List Int) : Prop := ∃ A c, v = .slice A xs.length c ∧ xs.length ≤ c ∧ c ≤ maxLen ∧
  (0 < xs.length → ∃ b o, A = some ⟨b, o, none⟩ ∧ b < w.heap.size ∧ ∀ i x, xs[i]? = some x → w.cell? ⟨b, o + i, none⟩ = some (.int .i64 x))
theorem fold_nil {rs : List Rc} {l : List Pr} (h : foldGo [] rs = (0, l)) : foldR [] rs = (0, l) := by
  rw [foldR_ok ⟨by decide, fun i p h => by simp at h⟩, h]
theorem OwnR.kp {S : Nat → Prop} {w w' : World} {base : Nat} {v : Value} {rs : List Rc} (h : OwnR w base v rs) (hk : Kp S w w') (hS : ∀ b, v.ownBlock = some b → ¬ S b) : OwnR w' base v rs :=
  h.keep fun b hb => hk.block b (h.lt hb).2 (hS b hb)
/-- The state of the loop. -/
structure OS (w wr : World) (base b m : Nat) (vl vr : Value) (l : List (Gv × Value)) (rs : List Rc) (tb : List Pr) : Prop where
  gm : GM wr base vl l
  recs : OwnR wr base vr rs
  far : ∀ j, vr.ownBlock = some j → ¬ Fp vl l j
  tab : TabAt wr w.heap.size b m tb
  once : Once (l.map (·.1)) tb
  fold : foldGo [] rs = (0, tb)
  below : Below w.heap.size w wr
  sz : base ≤ wr.heap.size
section
variable {w wr w' : World} {base b m : Nat} {vl vr vl' : Value} {l l' : List (Gv × Value)} {rs : List Rc} {tb : List Pr}
/-- What 'sends' does to it, short of the records. -/
theorem OS.sent (h : OS w wr base b m vl vr l rs tb) (hm : m < base) (hb0 : w.heap.size ≤ m) (hbase : w.heap.size ≤ base)
    (hk : Kp (fun j => j = m ∨ Fp vl l j) wr w') (hf : ∀ j, Fp vl' l' j → Fp vl l j ∨ wr.heap.size ≤ j) :
    OwnR w' base vr rs ∧ (∀ j, vr.ownBlock = some j → ¬ Fp vl' l' j) ∧ Below w.heap.size w w' := by
  refine ⟨h.recs.kp hk (fun j hj => ?_), fun j hj hf' => ?_, hk.to_below h.below h.below.size (fun j hj => ?_)⟩
  · rintro (h1 | h1)
    · have := (h.recs.lt hj).1; omega
    · exact h.far j hj h1
  · rcases hf j hf' with h1 | h1
    · exact h.far j hj h1
    · have := (h.recs.lt hj).2; omega
  · rcases hj with h1 | h1
    · omega
    · have := (h.gm.lt h1).1; exact Nat.le_trans hbase this
end
set_option maxRecDepth 100000 in
set_option maxHeartbeats 4000000 in
theorem once_any (v0 v1 : Value) (ts : List Ty) (gs : List Int) (w : World) (h0 : TS w v0 ts) (h1 : IS w v1 gs) :
    Calls Try.prog 8 #[v0, v1] w fun e w' => e = .returned (.bool true) ∧ Below w.heap.size w w' := by
  obtain ⟨A0, c0, rfl, x1, x2, xn, x3⟩ := h0
  clear xn
  obtain ⟨A1, c1, rfl, y1, y2, y3⟩ := h1
  unfold maxLen at x2 y2
  have Xs := Lib.hid x3
  have Ys := Lib.hid y3
  have cN := newS_ok (PS.nil w) (once_nil.ok)
  clear x3 y3
  go_enter Try.func8, Try.ntmps8
  go_upto_region 4 with (go_at_call 23; refine cN.mono ?_; rintro e w1 ⟨rfl, ht1, hb1⟩)
  have hB : w.heap.size + 1 < w1.heap.size := ht1.cell.lt
  have HS : OS w w1 w1.heap.size (w.heap.size + 1) w.heap.size (.slice none 0 0) (.slice none 0 0) [] [] [] :=
    ⟨GM.nil _ _, World.ownsRow_nil _ _ 32 7, (by intro j hj; cases hj), ht1, once_nil, rfl, hb1, Nat.le_refl _⟩
  have HS1 := Lib.hid HS
  have HB := Lib.hid hB
  have hbase : w.heap.size ≤ w1.heap.size := by omega
  have Hbase := Lib.hid hbase
  generalize w1.heap.size = base at *
  clear cN ht1 hb1 HS hB hbase
  obtain ⟨N, hN⟩ : ∃ N, N = min ts.length 10000 := ⟨_, rfl⟩
  have HN := Lib.hid hN
  clear hN
  go_wp2
  go_loopg [7, 8, 9, 10] N (fun g vl vr vo i wr => ∃ (k : Nat) (l : List (Gv × Value)) (rs : List Rc) (tb : List Pr) (off : Int), g + k = N ∧ i = .int .i64 (k : Nat) ∧ vo = .int .i64 off ∧ 0 ≤ off ∧ off ≤ k * 1000 ∧ rs.length ≤ k ∧
    OS w wr base (w.heap.size + 1) w.heap.size vl vr l rs tb)
  case atStart => exact ⟨0, [], [], [], 0, by omega, rfl, rfl, by omega, by omega, Nat.le_refl _, HS1.out⟩
  case round =>
    obtain ⟨k, l, rs, tb, off, hk, rfl, rfl, ho1, ho2, hrl, hS⟩ := hrel
    have hkN : k ≤ N := by omega
    have Hk := Lib.hid hk
    have Ho := Lib.hid (And.intro ho1 (And.intro ho2 hrl))
    have S := Lib.hid hS
    have hN := HN.out
    clear hk ho1 ho2 hrl hS
    by_cases hkl : k < N
    · have hk1 : k < ts.length := by omega
      have hk2 : k < 10000 := by omega
      have hki : (k : Int) < ts.length := by omega
      have hkt : (k : Int) < 10000 := by omega
      clear hN
      obtain ⟨tb0, to0, he, htl, htc⟩ := Xs.out (by omega)
      subst he
      have hgx : ts[k]? = some ts[k] := List.getElem?_eq_getElem (by omega)
      obtain ⟨t, ht⟩ : ∃ x, x = ts[k] := ⟨_, rfl⟩
      rw [← ht] at hgx
      obtain ⟨q0, q1⟩ := htc k t hgx
      have Q0 := Lib.hid q0
      have Q1 := Lib.hid q1
      have Htl := Lib.hid htl
      clear q0 q1 htc hgx ht
      go_upto_region 10 with fail
      go_cut [49] (fun s wx => (∃ gp : Bool, s = .bool gp ∧ (gp = true → ∃ x, gs[k]? = some x ∧ 0 < x)) ∧ wr = wx)
      case first =>
        by_cases hg1 : k < gs.length
        · have hgi : (k : Int) < gs.length := by omega
          obtain ⟨gb, go_, he, hgl, hgc⟩ := Ys.out (by omega)
          subst he
          have hgx : gs[k]? = some gs[k] := List.getElem?_eq_getElem hg1
          obtain ⟨x, hx⟩ : ∃ x, x = gs[k] := ⟨_, rfl⟩
          rw [← hx] at hgx
          have z0 := (S.out.below.cell (p := ⟨gb, go_ + k, none⟩) hgl).trans (hgc k x hgx)
          have Hgx := Lib.hid hgx
          clear hgc hgx hx Ys
          by_cases hp : x > 0
          · have Hp := Lib.hid hp
            go_wp2
            go_meet
            case rel => exact ⟨⟨_, rfl, fun _ => ⟨x, Hgx.out, Hp.out⟩⟩, rfl⟩
          · go_wp2
            go_meet
            case rel => exact ⟨⟨_, rfl, (by intro h; cases h)⟩, rfl⟩
        · have hgi : ¬ (k : Int) < gs.length := by omega
          go_wp2
          go_meet
          case rel => exact ⟨⟨_, rfl, (by intro h; cases h)⟩, rfl⟩
      case rest =>
       obtain ⟨⟨gp, rfl, hgp⟩, rfl⟩ := hcut
       have Hgp := Lib.hid hgp
       clear hgp
       go_upto_if 49 with fail
       go_cut [9] (fun s wx => (∃ off' : Int, s = .int .i64 off' ∧ 0 ≤ off' ∧ off' ≤ k * 1000 + 999) ∧ wr = wx)
       case first =>
        cases gp
        · go_wp2
          go_meet
          case rel => exact ⟨⟨_, rfl, by have := Ho.out; omega, by have := Ho.out; omega⟩, rfl⟩
        · obtain ⟨x, hgx, hp⟩ := Hgp.out rfl
          have hg1 := (List.getElem?_eq_some_iff.1 hgx).1
          have hgi : (k : Int) < gs.length := by omega
          obtain ⟨gb, go_, he, hgl, hgc⟩ := Ys.out (by omega)
          subst he
          have z0 := (S.out.below.cell (p := ⟨gb, go_ + k, none⟩) hgl).trans (hgc k x hgx)
          have hm1 : 0 ≤ x.tmod 1000 := Int.tmod_nonneg _ (by omega)
          have hm2 : x.tmod 1000 < 1000 := Int.tmod_lt_of_pos _ (by omega)
          have ho := Ho.out
          have hw1 : IntKind.i64.wrap (x.tmod 1000) = x.tmod 1000 := by rw [IntKind.wrap_i64]; omega
          have hw2 : IntKind.i64.wrap (off + x.tmod 1000) = off + x.tmod 1000 := by rw [IntKind.wrap_i64]; omega
          have Hm := Lib.hid (And.intro hm1 hm2)
          clear hm1 hm2 ho hgc hgx Ys hp
          go_wp2
          go_meet
          case rel => exact ⟨⟨_, rfl, by have := Ho.out; have := Hm.out; omega, by have := Ho.out; have := Hm.out; omega⟩, rfl⟩
       case rest =>
        obtain ⟨⟨off', rfl, ho1, ho2⟩, rfl⟩ := hcut
        have Ho' := Lib.hid (And.intro ho1 ho2)
        clear ho1 ho2
        have z0 := (S.out.below.cell (p := ⟨tb0, to0 + k * 2, none⟩) Htl.out).trans Q0.out
        have z1 := (S.out.below.cell (p := ⟨tb0, to0 + k * 2 + 1, none⟩) Htl.out).trans Q1.out
        have cS := sends_any w.heap.size (w.heap.size + 1) w.heap.size base _ l tb t.pid t.seq off' wr S.out.tab (by have := HB.out; omega) (by have := HB.out; omega) (by exact S.out.sz) S.out.gm S.out.once (decide_eq_true (by have := Ho'.out; omega))
        go_upto_region 16 with (go_at_call 28; refine cS.mono ?_; rintro e w2 ⟨taken, vl', l', tb', rfl, ht2, hg2, ho2, hyes, hno, hk2, hf2⟩)
        obtain ⟨hr2, hfar2, hb2⟩ := S.out.sent (by have := HB.out; omega) (Nat.le_refl _) Hbase.out hk2 hf2
        have z02 := (hb2.cell (p := ⟨tb0, to0 + k * 2, none⟩) Htl.out).trans Q0.out
        have z12 := (hb2.cell (p := ⟨tb0, to0 + k * 2 + 1, none⟩) Htl.out).trans Q1.out
        obtain ⟨ap, hap⟩ : ∃ ap, ap = (taken || decide (t.pid = 0 ∧ t.seq = 0)) := ⟨_, rfl⟩
        have Hap := Lib.hid hap
        have Hg2 := Lib.hid hg2
        have Ht2 := Lib.hid ht2
        have Ho2 := Lib.hid ho2
        have Hyes := Lib.hid hyes
        have Hno := Lib.hid hno
        have Hr2 := Lib.hid hr2
        have Hfar2 := Lib.hid hfar2
        have Hb2 := Lib.hid hb2
        have Hsz2 := Lib.hid (Nat.le_trans S.out.sz hk2.size)
        have Hfold := Lib.hid S.out.fold
        clear hap hg2 ht2 ho2 hyes hno hr2 hfar2 hb2 hk2 hf2 cS z0 z1 S Xs Ys
        go_cut [88] (fun s wx => s = .bool ap ∧ w2 = wx)
        case first =>
          cases taken
          · by_cases hp : t.pid = 0
            · have hp' : (t.pid == 0) = true := by simpa using hp
              by_cases hs : t.seq = 0
              · have hs' : (t.seq == 0) = true := by simpa using hs
                have Hps := Lib.hid (And.intro hp hs)
                clear hp hs
                go_wp2
                go_meet
                case rel => exact ⟨by rw [Hap.out, decide_eq_true Hps.out]; rfl, rfl⟩
              · have hs' : (t.seq == 0) = false := by simpa using hs
                have Hps := Lib.hid hs
                clear hp hs
                go_wp2
                go_meet
                case rel => exact ⟨by rw [Hap.out, decide_eq_false (fun h => Hps.out h.2)]; rfl, rfl⟩
            · have hp' : (t.pid == 0) = false := by simpa using hp
              have Hps := Lib.hid hp
              clear hp
              go_wp2
              go_meet
              case rel => exact ⟨by rw [Hap.out, decide_eq_false (fun h => Hps.out h.1)]; rfl, rfl⟩
          · go_wp2
            go_meet
            case rel => exact ⟨by rw [Hap.out]; rfl, rfl⟩
        case rest =>
          obtain ⟨rfl, rfl⟩ := hcut
          cases ap
          · go_wp2
            have hk := Hk.out
            have ho := Ho.out
            have ho' := Ho'.out
            have htk : taken = false := by
              have := Hap.out
              cases taken
              · rfl
              · simp at this
            have htb : tb' = tb := Hno.out htk
            subst htb
            go_roundg (gk - 1)
            case measure => omega
            case rel => exact ⟨k + 1, l', rs, _, off', by omega, by go_num, rfl, by omega, by omega, by omega, ⟨Hg2.out, Hr2.out, Hfar2.out, Ht2.out, Ho2.out, Hfold.out, Hb2.out, Hsz2.out⟩⟩
          · have hstep : step1 tb (given t.pid t.seq off') = (0, tb') := by
              have ho' := Ho'.out
              have hap := Hap.out
              cases taken
              · have h : t.pid = 0 ∧ t.seq = 0 := by
                  have h' : decide (t.pid = 0 ∧ t.seq = 0) = true := by simpa using hap.symm
                  exact of_decide_eq_true h'
                rw [h.1, h.2, Hno.out rfl]
                exact step_free (by omega)
              · obtain ⟨a1, a2, a3, a4⟩ := Hyes.out rfl
                rw [a2]
                exact step_put a1 (by omega) a3 a4
            have hf2 := Lib.hid (fold_snoc Hfold.out hstep)
            obtain ⟨i0, hi, hz0, hz1, hz2⟩ := info_parts info32
            have hrl : rs.length ≤ k := Ho.out.2.2
            have hkeep : ∀ u, Below w2.heap.size w2 u → OwnR u base u8 rs := fun u hu => Hr2.out.below hu (Nat.le_refl _)
            have hsz2 := Hsz2.out
            have hw1 : IntKind.i64.wrap (off' + 1) = off' + 1 := by
              have := Ho'.out
              rw [IntKind.wrap_i64]
              omega
            clear hstep
            go_upto_region 17 with fail
            go_cut [8] (fun s wx => OwnR wx base s (rs ++ [given t.pid t.seq off']) ∧ (∀ j, s.ownBlock = some j → u8.ownBlock = some j ∨ w2.heap.size ≤ j) ∧ Kp (fun j => u8.ownBlock = some j) w2 wx)
            case first =>
              go_region_law
                (first | (refine step_append_lies _ (by rfl) _ _ _ (by rfl) base 32 i0 (.agg #[.int .i64 0, .int .i64 0, .int .i64 0, .int .i64 0, .int .i64 0, .string ByteArray.empty, .string ByteArray.empty]) 7 72 Try.underlying23 hi hz0 hz1 hz2 rfl (by decide) u8 rs.length (rs.flatMap rcCells) (by rfl) (hkeep _ (((Below.refl _ _).drew).alloc (Nat.le_refl _) _)) ⟨w2.heap.size, 0, none⟩ 1 1 (rcCells (given t.pid t.seq off')) (by rfl) (by rfl) (World.news_of_block (heap_alloc_new _ _)) rc_one (by decide) (by unfold maxLen; omega) (by omega) (by simp; omega) _ rfl ?_; intro g' cap w3 hown3 hgrow3 hat3 hlt3; have Hown3 := Lib.hid hown3; have Hgrow3 := Lib.hid hgrow3; have Hat3 := Lib.hid hat3; clear hown3 hgrow3 hat3))
              all_goals (
                go_wp2
                go_meet
                (case rel => exact ⟨by
                  unfold OwnR
                  rw [List.length_append, List.flatMap_append]
                  simpa using Hown3.out, fun j hj => by
                    have e : some g' = some j := hj
                    injection e with e
                    subst e
                    rcases Hat3.out with h | h
                    · exact .inl h
                    · exact .inr (by rw [h]; simp), (Kp.of_below (((Below.refl w2.heap.size w2).drew).alloc (Nat.le_refl _) _)).trans (Kp.of_grown Hgrow3.out) (fun j hj => .inl hj)⟩))
            case rest =>
              obtain ⟨h1, h2, h3⟩ := hcut
              rename_i w3
              have H1 := Lib.hid h1
              have H2 := Lib.hid h2
              have H3 := Lib.hid h3
              clear h1 h2 h3 hkeep
              go_wp2
              have hk := Hk.out
              have ho := Ho.out
              have ho' := Ho'.out
              go_roundg (gk - 1)
              case measure => omega
              case rel => exact ⟨k + 1, l', rs ++ [given t.pid t.seq off'], tb', off' + 1, by omega, by go_num, rfl, by omega, by omega, by simp; omega,
                ⟨Hg2.out.keep fun b hb => H3.out.block b (Hg2.out.lt hb).2 (fun e => Hfar2.out b e hb), H1.out, fun j hj hf => by
                  rcases H2.out j hj with e | e
                  · exact Hfar2.out j e hf
                  · have := (Hg2.out.lt hf).2; omega, Ht2.out.kept H3.out (fun e => by have := (Hr2.out.lt e).1; have := HB.out; omega) (fun e => by have := (Hr2.out.lt e).1; have := HB.out; omega), Ho2.out, hf2.out,
                  H3.out.to_below Hb2.out Hb2.out.size (fun j e => by have := (Hr2.out.lt e).1; have := HB.out; omega), Nat.le_trans Hsz2.out H3.out.size⟩⟩
    · have hke : k = N := by omega
      have hkn : ¬ ((k : Int) < ts.length ∧ (k : Int) < 10000) := by omega
      clear hN Hk hke hkl hkN
      go_upto_region 8 with fail
      go_cut [36] (fun s wx => s = .bool false ∧ wr = wx)
      case first =>
        by_cases h1 : (k : Int) < ts.length
        · have h2 : ¬ (k : Int) < 10000 := fun h => hkn ⟨h1, h⟩
          clear hkn
          go_wp2
          go_meet
          case rel => exact ⟨rfl, rfl⟩
        · clear hkn
          go_wp2
          go_meet
          case rel => exact ⟨rfl, rfl⟩
      case rest =>
        obtain ⟨rfl, rfl⟩ := hcut
        clear hkn Xs Ys
        have cF := foldS (PS.nil wr) S.out.recs.toS (fold_nil S.out.fold)
        obtain ⟨Al, cl, hvl⟩ := S.out.gm.shape
        subst hvl
        have hll : l.length = tb.length := by have := S.out.once.len; simpa using this
        have hne : ((tb.length : Int) != (l.length : Int)) = false := by simp [hll]
        have Hll := Lib.hid hll
        clear hll
        go_upto_region 23 with (first
          | (go_at_call 10; refine cF.mono ?_; rintro e w2 ⟨va, rfl, hva, hb2⟩)
          | (go_at_call 21; refine (list_any _ _ _ tb w2 (S.out.tab.below hb2 (Nat.le_refl _)) S.out.once.ok.1).mono ?_; rintro e w3 ⟨vt, rfl, hvt, hb3⟩; obtain ⟨At, ct, rfl, ht1, ht2, htp⟩ := hvt.read (Nat.le_refl _))
          | (go_at_call 12; refine (sameS (hva.toS.below hb3) hvt.toS).mono ?_; rintro e w4 ⟨he, hb4⟩; rw [decide_eq_true rfl] at he; subst he))
        have hbw := hb2.trans ((hb3.trans (hb4.mono hb3.size)).mono hb2.size)
        have G4 := Lib.hid (S.out.gm.below hbw)
        have P4 := Lib.hid (htp.below hb4)
        have B4 := Lib.hid (S.out.below.trans (hbw.mono S.out.below.size))
        have O4 := Lib.hid S.out.once
        unfold maxLen at ht2
        clear cF hva hvt htp hbw hb2 hb3 hb4 S hne
        go_wp2
        go_loopg [17] tb.length (fun g i wx => ∃ (k n : Nat), g + k = tb.length ∧ i = .int .i64 (k : Nat) ∧ w4.drewN n = wx)
        case atStart => exact ⟨0, 0, by omega, rfl, rfl⟩
        case round =>
          obtain ⟨k, n, hk, rfl, hwr⟩ := hrel
          have Hk := Lib.hid hk
          have hkn : k ≤ tb.length := by omega
          have Hwr := Lib.hid hwr
          clear hk hwr
          by_cases hkl : k < tb.length
          · have hki : (k : Int) < tb.length := by omega
            obtain ⟨p, hp⟩ : ∃ p, tb[k]? = some p := ⟨_, List.getElem?_eq_getElem hkl⟩
            have hlk := look_of_mem O4.out.rising (List.mem_of_getElem? hp)
            obtain ⟨j, q, hq, hqp⟩ : ∃ (j : Nat) (q : Gv × Value), l[j]? = some q ∧ q.1.pid = p.pid := by
              refine Classical.byContradiction fun h => ?_
              have := O4.out.non p.pid fun j g hj e => by
                rw [List.getElem?_map] at hj
                obtain ⟨q, hq, hqg⟩ := Option.map_eq_some_iff.1 hj
                exact h ⟨j, q, hq, by rw [hqg]; exact e⟩
              rw [hlk] at this
              cases this
            have hqm : (l.map (·.1))[j]? = some q.1 := by rw [List.getElem?_map, hq]; rfl
            obtain ⟨o1, hlast, hl2⟩ := O4.out.has j q.1 hqm
            have hcnt := O4.out.count hqm
            rw [hqp, hlk] at hl2
            injection hl2 with hl2
            have hjl := (List.getElem?_eq_some_iff.1 hq).1
            have hjl64 := O4.out.size
            rw [List.length_map] at hjl64
            obtain ⟨tb1, to1, he, htl, htc⟩ := P4.out (by omega)
            subst he
            obtain ⟨x0, x1, x2⟩ := htc k p hp
            have X0 : wr.cell? ⟨tb1, to1 + k * 3, none⟩ = some (.int .i64 p.pid) := by rw [← Hwr.out]; exact x0
            have X1 : wr.cell? ⟨tb1, to1 + k * 3 + 1, none⟩ = some (.int .i64 q.1.offs.length) := by rw [hl2] at x1; rw [← Hwr.out]; exact x1
            have X2 : wr.cell? ⟨tb1, to1 + k * 3 + 2, none⟩ = some (.int .i64 o1) := by rw [hl2] at x2; rw [← Hwr.out]; exact x2
            have hG : GM wr base (.slice Al l.length cl) l := by rw [← Hwr.out]; exact G4.out.keep fun b hb => rfl
            obtain ⟨gb, cap, he, _, _, y0, y1, _⟩ := hG.place hq
            injection he with he hln he2
            clear hln
            subst he he2
            obtain ⟨ub, ucap, hu, _, hub2⟩ := World.ownsRow.form (hG.own j q hq) (by omega)
            have hown := hG.own j q hq
            rw [hu] at y1 hown
            have y2 : wr.cell? ⟨ub, q.1.offs.length - 1, none⟩ = some (.int .i64 o1) := by rw [World.ownsRow.cellAt hown _ (by omega), List.getElem?_map, hlast]; rfl
            have cP := place_yes hG (by omega) hqm hqp O4.out.one
            have hji : (j : Int) < l.length := by omega
            have hj0 : decide ((j : Int) < 0) = false := decide_eq_false (by omega)
            have hj1 : ((q.1.offs.length : Int) != q.1.offs.length) = false := by simp
            have hj2 : (o1 != o1) = false := by simp
            have hwm : IntKind.i64.wrap ((q.1.offs.length : Int) - 1) = ((q.1.offs.length - 1 : Nat) : Int) := by rw [IntKind.wrap_i64]; omega
            have hix : ((q.1.offs.length - 1 : Nat) : Int) < q.1.offs.length := by omega
            have Hp := Lib.hid hp
            have Hcnt := Lib.hid hcnt
            clear hown hu hl2 hqp hqm hlk hlast hq x0 x1 x2 y0 hp hcnt hG
            go_upto_region 27 with (go_at_call 29; refine cP.mono ?_; rintro e w6 ⟨rfl, rfl⟩)
            go_cut [196] (fun s wx => s = .bool false ∧ ∃ n', wr.drewN n' = wx)
            case first =>
              by_cases hk0 : k = 0
              · subst hk0
                go_quiet (fail)
                go_wp2
                go_meet
                case rel => exact ⟨rfl, _, rfl⟩
              · have hkd : decide ((k : Int) > 0) = true := decide_eq_true (by omega)
                have hkd2 : decide (0 < (k : Int)) = true := decide_eq_true (by omega)
                have hkd3 : decide (0 < k) = true := decide_eq_true (by omega)
                have hkp : 0 < k := by omega
                obtain ⟨k1, hk1⟩ : ∃ k1, k = k1 + 1 := ⟨k - 1, by omega⟩
                have hwk : IntKind.i64.wrap ((k : Int) - 1) = (k1 : Int) := by rw [IntKind.wrap_i64]; omega
                have hkx : (k1 : Int) < tb.length := by omega
                obtain ⟨p', hp'⟩ : ∃ p, tb[k1]? = some p := ⟨_, List.getElem?_eq_getElem (by omega)⟩
                have X3 : wr.cell? ⟨tb1, to1 + k1 * 3, none⟩ = some (.int .i64 p'.pid) := by rw [← Hwr.out]; exact (htc k1 p' hp').1
                have hris : p'.pid < p.pid := by
                  have h1 := List.pairwise_iff_getElem.1 O4.out.rising k1 k (by omega) hkl (by omega)
                  rw [List.getElem?_eq_getElem (by omega)] at hp'
                  have hp := Hp.out
                  rw [List.getElem?_eq_getElem hkl] at hp
                  injection hp' with hp'
                  injection hp with hp
                  rw [hp', hp] at h1
                  exact h1
                have hge : decide (p'.pid ≥ p.pid) = false := decide_eq_false (by omega)
                clear htc hp' hris hk0 hk1
                go_quiet (fail)
                go_wp2
                go_meet
                case rel => exact ⟨rfl, _, rfl⟩
            case rest =>
              obtain ⟨rfl, n', rfl⟩ := hcut
              clear htc
              go_wp2
              have hk := Hk.out
              go_roundg (gk - 1)
              case measure => omega
              case rel => exact ⟨k + 1, n + n', by omega, by go_num, by rw [← Hwr.out, World.drewN_drewN]⟩
          · have hki : ¬ (k : Int) < tb.length := by omega
            go_wp2
            go_ret
            exact ⟨rfl, by rw [← Hwr.out]; exact below_drewN B4.out n⟩
end Go.Proofs.Ytmcahimapoddfaa
