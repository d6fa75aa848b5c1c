/- The walk of 'StreamFeeds'. Conditions: the bytes fit; the walk of untold. -/
import Derived.Test.YtkllgmhfjibajaaFeeds
namespace Go.Proofs.Ytkllgmhfjibajaa
open Go.RowKit St
section
variable {w0 w : World} {base base' : Nat} {lim : Int} {p v q u : Value} {g : Nat} {sv : Value} {l : List (Nat × Value)} {xs : List Int}
/-- What a round asks of the readers and of the shelf. -/
theorem FZ.asks (h : FZ w0 w lim p v q u g sv l xs) (hby : Byt xs) (hbig : xs.length ≤ 2147483647) :
    (∀ wx, Below w.heap.size w wx → Calls Try.prog 23 #[p] wx fun e w' => e = .returned (.int .i64 (waitx lim xs)) ∧ wx = w') ∧
    (∀ wx, Below w.heap.size w wx → Calls Try.prog 24 #[q] wx fun e w' => e = .returned (.int .i64 (waitx lim xs)) ∧ Below w.heap.size w w') ∧
    (∀ wx, Below w.heap.size w wx → Calls Try.prog 25 #[p] wx fun e w' => e = .returned (.bool (deadx lim xs)) ∧ wx = w') ∧
    (∀ wx, Below w.heap.size w wx → Calls Try.prog 26 #[q] wx fun e w' => e = .returned (.bool (deadx lim xs)) ∧ Below w.heap.size w w') ∧
    (∀ wx, Below w.heap.size w wx → Calls Try.prog 27 #[p] wx fun e w' => e = .returned (.int .i64 (endx lim xs)) ∧ wx = w') ∧
    (∀ wx, Below w.heap.size w wx → Calls Try.prog 28 #[q] wx fun e w' => e = .returned (.int .i64 (endx lim xs)) ∧ Below w.heap.size w w') ∧
    (∀ wx, Below w.heap.size w wx → Calls Try.prog 15 #[.pointer (some ⟨g, 0, none⟩)] wx fun e w' => e = .returned (.bool true) ∧ wx = w') := by
  have ht : ∀ wx w', Below w.heap.size w wx → Below wx.heap.size wx w' → Below w.heap.size w w' := fun wx w' h1 h2 => h1.trans (h2.mono h1.size)
  exact ⟨fun wx hb => pswait (h.ps.below hb), fun wx hb => (qswait (h.qs.below hb) hby hbig).mono fun _ _ h => ⟨h.1, ht _ _ hb h.2⟩, fun wx hb => psdead (h.ps.below hb), fun wx hb => (qsdead (h.qs.below hb) hby hbig).mono fun _ _ h => ⟨h.1, ht _ _ hb h.2⟩,
    fun wx hb => psend (h.ps.below hb), fun wx hb => (qsend (h.qs.below hb) hby hbig).mono fun _ _ h => ⟨h.1, ht _ _ hb h.2⟩, fun wx hb => (stands_any _ _ _ _ _ (h.sh.below hb) (by have := h.len; omega)).mono fun _ _ h => ⟨h.1, h.2.symm⟩⟩
end
theorem blk_at' {w : World} {g k : Nat} {xs : List Int} {x : Int} (h : Blk w g 5 (xs.map (Value.int .u8)).toArray) (hx : xs[k]? = some x) : w.cell? ⟨g, k, none⟩ = some (.int .u8 x) := by
  rw [h.cell]
  simp only [List.getElem?_toArray, List.getElem?_map, hx]
  rfl
attribute [local irreducible] Go.Calls in
set_option maxRecDepth 100000 in
set_option maxHeartbeats 4000000 in
theorem feeds_any (lim : Int) (A : Option Addr) (l : List BV) (c : Nat) (w : World) (hr : Rows3 w A l) (hb : bey l ≤ 2147483647)
    (hun : ∀ wx, Below w.heap.size w wx → Calls Try.prog 29 #[.int .i64 lim, .slice A l.length c] wx fun e w' => e = .returned (.bool true) ∧ Below wx.heap.size wx w') :
    Calls Try.prog 4 #[.int .i64 lim, .slice A l.length c] w fun e w' => e = .returned (.bool true) ∧ Below w.heap.size w w' := by
  have hbey := beyond_no A l c w hr (by omega)
  have hll := bey_len l
  have hq := qsnew lim w
  have Hr := Lib.hid hr
  have Hun := Lib.hid hun
  clear hr hun
  go_enter Try.func4, Try.ntmps4
  go_upto_region 3 with (go_at_call 18; refine hbey.mono ?_; clear hbey; rintro e w' ⟨rfl, rfl⟩)
  go_upto_region 4 with (go_at_call 19; refine hq.mono ?_; clear hq; rintro e w1 ⟨q, rfl, hb1, hqs, hql⟩)
  have hp := psnew lim w1
  have hs1 := hb1.size
  have Hb1 := Lib.hid hb1
  have Hqs := Lib.hid hqs
  have Hql := Lib.hid hql
  clear hb1 hqs hql
  go_upto_region 5 with (go_at_call 20; refine hp.mono ?_; clear hp; rintro e w2 ⟨p, rfl, hb2, hps, hpl⟩)
  have hs2 := hb2.size
  have Hps := Lib.hid hps
  have Hpl := Lib.hid hpl
  have Hb2 := Lib.hid hb2
  clear hps hpl hb2
  have He := Lib.hid (show LimOk lim → errx lim = 0 from fun hl => by unfold errx; rw [if_pos hl])
  have He2 := Lib.hid (show ¬ LimOk lim → errx lim = 3 from fun hl => by unfold errx; rw [if_neg hl])
  generalize errx lim = er at *
  go_cut [36] (fun v wx => v = .bool false ∧ w2 = wx)
  case first =>
    by_cases hl : LimOk lim
    · obtain ⟨g, rfl, _⟩ := Hps.out.good hl
      obtain rfl := He.out hl
      go_wp2
      go_meet
      case rel => exact ⟨rfl, rfl⟩
    · obtain ⟨rfl, _⟩ := Hps.out.bad hl
      obtain rfl := He2.out hl
      go_wp2
      go_meet
      case rel => exact ⟨rfl, rfl⟩
  case rest =>
    obtain ⟨rfl, rfl⟩ := hcut
    have hb20 := Hb1.out.trans (Hb2.out.mono hs1)
    have hfz : FZ w (w2.alloc (.cells #[.slice none 0 0] 30)) lim p (.slice none 0 0) q (.slice none 0 0) w2.heap.size (.slice none 0 0) [] [] := by
      have hal : Below w2.heap.size w2 (w2.alloc (.cells #[.slice none 0 0] 30)) := (Below.refl _ _).alloc (Nat.le_refl _) _
      have hpl : ∀ b, PB p (.slice none 0 0) b → b < w2.heap.size := fun b hb => Hps.out.lt hb
      have hql : ∀ b, PB q (.slice none 0 0) b → b < w1.heap.size := fun b hb => Hqs.out.lt hb
      have hsh : ∀ b, FS2 w2.heap.size (.slice none 0 0) [] b → b = w2.heap.size := fun b hb => by
        rcases hb with hb | hb | ⟨n, r, hr, _⟩
        · exact hb
        · cases hb
        · simp at hr
      refine ⟨(Hps.out.mono hs1).below hal, (Hqs.out.below Hb2.out).below hal, ⟨Blk.new w2 30 _, World.ownsRow_nil _ _ 22 1, fun n p hp => by simp at hp⟩, hb20.trans (hal.mono (by omega)), fun b h1 h2 => ?_, fun b h1 h2 => ?_, fun b h1 h2 => ?_, fun b hb => ?_, fun n p hp => by simp at hp, Nat.le_refl _⟩
      · have := Hpl.out b h1
        have := hql b h2
        omega
      · have := hpl b h1
        have := hsh b h2
        omega
      · have := hql b h1
        have := hsh b h2
        omega
      · rcases hb with hb | hb | hb
        · have := Hpl.out b hb
          omega
        · exact Hql.out b hb
        · have := hsh b hb
          omega
    have Hfz := Lib.hid hfz
    clear hfz hb20 Hps Hqs Hpl Hql Hb1 Hb2
    go_upto_region 9 with fail
    go_loopg [10] l.length (fun gg iv wx => ∃ k v u sv ls, gg + k = l.length ∧ iv = .int .i64 ((k : Nat) : Int) ∧ FZ w wx lim p v q u w2.heap.size sv ls (joined l k))
    case atStart => exact ⟨0, _, _, _, _, by omega, rfl, Hfz.out⟩
    case round =>
      obtain ⟨k, v, u, sv, ls, hk, rfl, hF⟩ := hrel
      have Hk := Lib.hid hk
      have HF := Lib.hid hF
      clear hk hF Hfz
      by_cases hlt : k < l.length
      · have hki : (k : Int) < l.length := by have := Hk.out; omega
        have hkn : ¬ (k : Int) < 0 := by omega
        obtain ⟨b, o, r, Ai, ci, rfl, hbl, hrk, hcl, hnil, h1, h2, hbx, hby⟩ := Hr.out.get hlt
        have hcell : ∀ wx, Below w.heap.size w wx → wx.cell? ⟨b, o + k, none⟩ = some (.slice Ai r.1.length ci) := fun wx hb => (hb.cell (p := ⟨b, o + k, none⟩) hbl).trans hcl
        have hchunk : ∀ wx, Below w.heap.size w wx → BytesAt wx Ai r.1 := fun wx hb => hbx.below hb
        have hnext := joined_next hrk
        have hlnx := joined_le l (k + 1)
        have hbyn := joined_byt Hr.out (k + 1)
        rw [hnext] at hbyn hlnx
        have hbyo := joined_byt Hr.out k
        have hcs : r.1.length ≤ 2147483647 := by rw [List.length_append] at hlnx; omega
        generalize joined l k = xs at *
        have Hnext := Lib.hid hnext
        have Hlnx := Lib.hid hlnx
        have Hbyn := Lib.hid hbyn
        have Hbyo := Lib.hid hbyo
        have Hcell := Lib.hid hcell
        have Hchunk := Lib.hid hchunk
        have Hby := Lib.hid hby
        have Hnil := Lib.hid hnil
        clear hnext hlnx hbyn hbyo hcell hchunk hby hnil hrk hcl hbx
        generalize r.1 = cs at *
        clear r
        have hbe := HF.out.be
        have hs0 := hbe.size
        have q0 := Hcell.out wr hbe
        have hci : cs.length ≤ ci ∧ ci ≤ maxLen := ⟨h1, h2⟩
        have hsp := spare_any Ai cs ci wr hci (by omega) (Hchunk.out wr hbe)
        have hlc : cs.length + 64 ≤ maxLen := by unfold maxLen; omega
        have hN0 : cs.length + 64 ≤ 2147483711 := by omega
        have hml : (cs ++ marks).length = cs.length + 64 := by rw [List.length_append]; rfl
        have hnN : cs.length ≤ cs.length + 64 := by omega
        generalize hN : cs.length + 64 = N at *
        have HN := Lib.hid hN
        have Hml := Lib.hid hml
        clear hN hbe hml
        go_upto_region 12 with (go_at_call 10; refine hsp.mono ?_; clear hsp; rintro e v1 ⟨rfl, hb1, hg1⟩)
        have hbe1 : Below w.heap.size w v1 := HF.out.be.trans (hb1.mono hs0)
        have hs3 := hb1.size
        have q1 := Hcell.out v1 hbe1
        have hpf := psfeed w.heap.size lim p v xs cs v1 (some ⟨wr.heap.size, 0, none⟩) N (HF.out.ps.below hb1) (by omega) ⟨hnN, hlc⟩ (by omega) (bytes_of_blk hg1).pre (fun a e => by
          injection e with e
          subst e
          exact ⟨hg1.lt, fun h => by have := HF.out.lt (.inl h); simp only at this; omega⟩) Hbyo.out Hby.out
        have Hb1 := Lib.hid hb1
        have Hg1 := Lib.hid hg1
        clear hb1 hg1 q0
        go_upto_region 13 with (go_at_call 21; refine hpf.mono ?_; clear hpf; rintro e v2 ⟨tv, rfl, v', l1, hFd⟩)
        have hs4 := hFd.2.1.size
        have hbe2 : Below w.heap.size w v2 := Kp.to_below hbe1 hFd.2.1 (by omega) (fun j hj => HF.out.lo j (.inl hj))
        have q2 := Hcell.out v2 hbe2
        have hqf := qsfeed w.heap.size lim q u xs cs v2 Ai ci ((HF.out.qs.below Hb1.out).kp hFd.2.1 (fun b hb hc => HF.out.pq b hc hb)) (by omega) hci Hnil.out (by have := Hlnx.out; rw [List.length_append] at this; omega) (Hchunk.out v2 hbe2) Hbyo.out Hby.out
        have HFd := Lib.hid hFd
        clear hFd q1 hbe1
        go_upto_region 14 with (go_at_call 22; refine hqf.mono ?_; clear hqf; rintro e v3 ⟨tv2, rfl, u', l2, hRd⟩)
        have hY := HF.out.fed Hb1.out Hg1.out HFd.out hRd
        have hs5 := hRd.2.1.size
        clear hRd HFd HF Hb1 Hg1 hbe2 q2 hs4
        have hbe3 := hY.fs.be
        have q3 := Hcell.out v3 hbe3
        have hsm := samepieces_pr _ _ _ _ l1 l2 v3 hY.pl.reads hY.pr hY.eq
        have hkp : ∀ n, Calls Try.prog 16 #[.slice (some ⟨wr.heap.size, 0, none⟩) N N, .slice Ai cs.length ci] (v3.drewN n) fun e w' => e = .returned (.bool true) ∧ ∃ m, v3.drewN (n + m) = w' := fun n => by
          have hbn := below_drewN (Below.refl v3.heap.size v3) n
          have h := kept_any Ai (some ⟨wr.heap.size, 0, none⟩) cs marks ci N (v3.drewN n) (fun x hx => List.eq_of_mem_replicate hx) (by simp [marks]; omega) ((bytes_of_blk hY.gb).below hbn) ((Hchunk.out v3 hbe3).below hbn)
          rw [← List.length_append, Hml.out] at h
          refine h.mono ?_
          rintro e w' ⟨rfl, m, rfl⟩
          exact ⟨rfl, m, (World.drewN_drewN _ _ _).symm⟩
        have hkeep : ∀ n, Calls Try.prog 14 #[.pointer (some ⟨w2.heap.size, 0, none⟩), tv] (v3.drewN n) fun e w' => e = .returned (.tuple #[]) ∧ ∃ sv', KS (v3.drewN n) w' w.heap.size w2.heap.size sv sv' tv ls l1 l1.length := fun n => by
          have hbn := below_drewN (Below.refl v3.heap.size v3) n
          have hx := Hlnx.out
          have hlen := hY.len
          refine keep_any w.heap.size w2.heap.size sv tv ls l1 _ (hY.fs.sh.below hbn) (hY.pl.below hbn) (Nat.le_trans hbe3.size hbn.size) (by omega) (fun r hr => by have := hY.bd r hr; omega) (fun n r hr b hb => ?_)
          have h1 := hY.fs.ap n r hr b hb
          refine ⟨h1.1, h1.2, fun e => ?_, fun j r' hr' e => ?_⟩
          · exact (hY.pn b (.inl e)).1 (.inr (.inr (.inr (.inr ⟨n, r, hr, hb⟩))))
          · exact (hY.pn b (.inr ⟨j, r', hr', e⟩)).1 (.inr (.inr (.inr (.inr ⟨n, r, hr, hb⟩))))
        have HY := Lib.hid hY
        have Hkeep := Lib.hid hkeep
        clear hY hkeep hbe3
        go_upto_region 16 with (first
          | (go_at_call 13; refine hsm.mono ?_; clear hsm; rintro e w' ⟨rfl, n1, rfl⟩)
          | (go_at_call 16; refine (hkp _).mono ?_; clear hkp; rintro e w' ⟨rfl, n2, rfl⟩))
        have hkeep := Hkeep.out (n1 + n2)
        clear q3 Hkeep
        go_upto_region 17 with (go_at_call 14; refine hkeep.mono ?_; clear hkeep; rintro e v4 ⟨rfl, sv', hK⟩)
        obtain ⟨hF4, hg4, hgn⟩ := (HY.out.below (below_drewN (Below.refl _ _) (n1 + n2))).kept hK
        have hglo := HY.out.glo
        have HF4 := Lib.hid hF4
        have Hg4 := Lib.hid hg4
        have Hgn := Lib.hid hgn
        clear hF4 hg4 hgn hK HY
        generalize ls ++ taken l1 l1.length = ls' at *
        generalize xs ++ cs = zs at *
        generalize wr.heap.size = G at *
        go_upto_region 18 with fail
        go_loopg [14] N (fun gg jv wx => ∃ j ys, gg + j = N ∧ jv = .int .i64 ((j : Nat) : Int) ∧ List.length ys = N ∧ Kp (fun i => i = G) v4 wx ∧ Blk wx G 5 (ys.map (Value.int .u8)).toArray)
        case atStart => exact ⟨0, _, by omega, rfl, Hml.out, Kp.refl _ _, Hg4.out⟩
        case round =>
          obtain ⟨j, ys, hj, rfl, hys, hkp, hg⟩ := hrel
          have Hj := Lib.hid hj
          have Hys := Lib.hid hys
          have Hkp := Lib.hid hkp
          by_cases hjl : j < N
          · have hji : (j : Int) < N := by omega
            have hjn : ¬ (j : Int) < 0 := by omega
            obtain ⟨old, hold⟩ : ∃ old, ys[j]? = some old := ⟨_, List.getElem?_eq_getElem (by omega)⟩
            have c0 := blk_at' hg hold
            have f0 := hg.frozen j
            have hkp2 := hkp.trans (Kp.set_ (fun i => i = G) wr (p := ⟨G, j, none⟩) rfl (.int .u8 238)) (fun j hj => .inl hj)
            have hg2 := hg.setU j 238
            have Hkp2 := Lib.hid hkp2
            have Hg2 := Lib.hid hg2
            clear hkp2 hg2 hold hkp hg hj hys
            go_wp2
            go_roundg (gk - 1)
            case measure => have := Hj.out; omega
            case rel => exact ⟨j + 1, ys.set j 238, by have := Hj.out; omega, by go_num, by rw [List.length_set]; exact Hys.out, Hkp2.out, Hg2.out⟩
          · have hji : ¬ (j : Int) < N := by omega
            have hF5 := HF4.out.kp hkp Hgn.out (fun i hi => by omega)
            obtain ⟨h23, h24, h25, h26, h27, h28, h15⟩ := hF5.asks Hbyn.out (by have := Hlnx.out; omega)
            have hr0 := Below.refl wr.heap.size wr
            have HF5 := Lib.hid hF5
            have H25 := Lib.hid h25
            have H26 := Lib.hid h26
            have H27 := Lib.hid h27
            have H28 := Lib.hid h28
            have H15 := Lib.hid h15
            have h23 := h23 _ hr0
            have h24 := h24 _ hr0
            clear hF5 h25 h26 h27 h28 h15 hr0 hkp hg hj hys
            go_upto_region 21 with fail
            go_wp2_with (first
              | (go_at_call 23; refine h23.mono ?_; clear h23; rintro e w' ⟨rfl, rfl⟩)
              | (go_at_call 24; refine h24.mono ?_; clear h24; rintro e w6 ⟨rfl, hb6⟩)
              | (go_at_call 25; refine (H25.out _ hb6).mono ?_; rintro e w' ⟨rfl, rfl⟩)
              | (go_at_call 26; refine (H26.out _ hb6).mono ?_; rintro e w7 ⟨rfl, hb7⟩)
              | (go_at_call 27; refine (H27.out _ hb7).mono ?_; rintro e w' ⟨rfl, rfl⟩)
              | (go_at_call 28; refine (H28.out _ hb7).mono ?_; rintro e w8 ⟨rfl, hb8⟩)
              | (go_at_call 15; refine (H15.out _ hb8).mono ?_; rintro e w' ⟨rfl, rfl⟩))
            go_roundg (l.length - (k + 1))
            case measure => have := Hk.out; omega
            case rel => exact ⟨k + 1, v', u', sv', ls', by have := Hk.out; omega, by go_num, by rw [Hnext.out]; exact HF5.out.below hb8⟩
      · have hki : ¬ (k : Int) < l.length := by omega
        obtain rfl : k = l.length := by have := Hk.out; omega
        obtain ⟨h23, h24, h25, h26, h27, h28, _⟩ := HF.out.asks (joined_byt Hr.out l.length) (by have := joined_le l l.length; omega)
        have hr0 := Below.refl wr.heap.size wr
        have H25 := Lib.hid h25
        have H26 := Lib.hid h26
        have H27 := Lib.hid h27
        have H28 := Lib.hid h28
        have h23 := h23 _ hr0
        have h24 := h24 _ hr0
        have Hbe := Lib.hid HF.out.be
        clear h25 h26 h27 h28 hr0
        go_upto_region 23 with fail
        go_wp2_with (first
          | (go_at_call 23; refine h23.mono ?_; clear h23; rintro e w' ⟨rfl, rfl⟩)
          | (go_at_call 24; refine h24.mono ?_; clear h24; rintro e w6 ⟨rfl, hb6⟩)
          | (go_at_call 25; refine (H25.out _ hb6).mono ?_; rintro e w' ⟨rfl, rfl⟩)
          | (go_at_call 26; refine (H26.out _ hb6).mono ?_; rintro e w7 ⟨rfl, hb7⟩)
          | (go_at_call 27; refine (H27.out _ hb7).mono ?_; rintro e w' ⟨rfl, rfl⟩)
          | (go_at_call 28; refine (H28.out _ hb7).mono ?_; rintro e w8 ⟨rfl, hb8⟩)
          | (go_at_call 29; refine (Hun.out _ (Hbe.out.trans (hb8.mono Hbe.out.size))).mono ?_; rintro e w9 ⟨rfl, hb9⟩))
        go_ret
        exact ⟨rfl, (Hbe.out.trans (hb8.mono Hbe.out.size)).trans (hb9.mono (Nat.le_trans Hbe.out.size hb8.size))⟩
attribute [local irreducible] Go.Calls in
set_option maxRecDepth 100000 in
set_option maxHeartbeats 4000000 in
theorem feeds_all (lim : Int) (A : Option Addr) (l : List BV) (c : Nat) (w : World) (hr : Rows3 w A l) (hl : l.length ≤ 140737488355328) (hw : ∀ p ∈ l, p.1.length ≤ 140737488355328)
    (hun : bey l ≤ 2147483647 → ∀ wx, Below w.heap.size w wx → Calls Try.prog 29 #[.int .i64 lim, .slice A l.length c] wx fun e w' => e = .returned (.bool true) ∧ Below wx.heap.size wx w') :
    Calls Try.prog 4 #[.int .i64 lim, .slice A l.length c] w fun e w' => e = .returned (.bool true) ∧ Below w.heap.size w w' := by
  by_cases hb : bey l ≤ 2147483647
  · exact feeds_any lim A l c w hr hb (hun hb)
  · have hy := beyond_yes A l c w hr hl hw (by omega)
    clear hun hr hb hw
    go_enter Try.func4, Try.ntmps4
    go_wp2_with (go_at_call 18; refine hy.mono ?_; clear hy; rintro e w' ⟨rfl, rfl⟩)
    go_ret
    exact ⟨rfl, Below.refl _ _⟩
end Go.Proofs.Ytkllgmhfjibajaa
