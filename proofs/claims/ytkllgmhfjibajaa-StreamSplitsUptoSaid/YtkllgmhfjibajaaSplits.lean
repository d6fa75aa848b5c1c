/- The walks of both Splits, whatever the limit; of the law's splitPlaced. Conditions: the bytes fit. -/
import Derived.Test.YtkllgmhfjibajaaKeep
namespace Go.Proofs.Ytkllgmhfjibajaa
open Go.RowKit St
/-- What is told of a stream that comes at once, and how many bytes are left over. -/
def spl (lim : Int) (cs : List Int) : List Pc × Int := if 64 ≤ lim ∧ lim ≤ 4096 then ((feed (fresh lim) cs).2, ((feed (fresh lim) cs).1.buf.length : Int)) else ([], 0)
theorem splitp_all (lim : Int) (A : Option Addr) (cs : List Int) (c : Nat) (w : World) (hc : cs.length ≤ c ∧ c ≤ maxLen) (hbig : cs.length ≤ 2147483647) (hx : BytesAt w A cs) (hby : Byt cs) :
    Calls Try.prog 12 #[.slice A cs.length c, .int .i64 lim] w fun e w' => Below w.heap.size w w' ∧ ∃ tv l, e = .returned (.tuple #[tv, .int .i64 (spl lim cs).2]) ∧ PL w' w.heap.size tv l ∧ l.map (·.1) = (spl lim cs).1 := by
  by_cases h : 64 ≤ lim ∧ lim ≤ 4096
  · unfold spl
    rw [if_pos h]
    exact split_gen lim A cs c w h hc (by omega) hx hby
  · unfold spl
    rw [if_neg h]
    refine (split_bad lim _ w (by omega)).mono ?_
    rintro e w' ⟨rfl, rfl⟩
    exact ⟨Below.refl _ _, _, [], rfl, PL.nil _ _, rfl⟩
theorem rsplitp_all (lim : Int) (A : Option Addr) (cs : List Int) (c : Nat) (w : World) (hc : cs.length ≤ c ∧ c ≤ maxLen) (hA : A = none → c = 0) (hbig : cs.length ≤ 2147483647) (hx : BytesAt w A cs) (hby : Byt cs) :
    Calls Try.prog 11 #[.slice A cs.length c, .int .i64 lim] w fun e w' => Below w.heap.size w w' ∧ ∃ tv l, e = .returned (.tuple #[tv, .int .i64 (spl lim cs).2]) ∧ PR w' w.heap.size tv l ∧ l.map (·.1) = (spl lim cs).1 := by
  by_cases h : 64 ≤ lim ∧ lim ≤ 4096
  · unfold spl
    rw [if_pos h]
    exact rsplit_any lim A cs c w h hc hA hbig hx hby
  · unfold spl
    rw [if_neg h]
    refine (rsplit_bad lim _ w (by omega)).mono ?_
    rintro e w' ⟨rfl, rfl⟩
    exact ⟨Below.refl _ _, _, [], rfl, PR.nil _ _, rfl⟩
/-- The bytes that splitPlaced asks of first. -/
def up (n i : Nat) (x : Int) : Int := if i < n / 2 then x else (x + 1) % 256
def ups (n : Nat) : Nat → List Int → List Int
  | _, [] => []
  | i, x :: xs => up n i x :: ups n (i + 1) xs
theorem ups_len (n : Nat) : ∀ (xs : List Int) (i : Nat), (ups n i xs).length = xs.length
  | [], _ => rfl
  | x :: xs, i => by simp [ups, ups_len n xs]
theorem ups_at (n : Nat) : ∀ (xs : List Int) (i k : Nat) (x : Int), xs[k]? = some x → (ups n i xs)[k]? = some (up n (i + k) x)
  | [], _, _, _, h => by simp at h
  | y :: xs, i, 0, x, h => by
    simp at h
    subst h
    rfl
  | y :: xs, i, k + 1, x, h => by
    simp at h
    show (ups n (i + 1) xs)[k]? = _
    rw [ups_at n xs (i + 1) k x h]
    congr 2
    omega
theorem up_range {n i : Nat} {x : Int} (h : 0 ≤ x ∧ x < 256) : 0 ≤ up n i x ∧ up n i x < 256 := by
  unfold up
  split <;> omega
theorem ups_byt (n : Nat) : ∀ {xs : List Int} (i : Nat), Byt xs → Byt (ups n i xs)
  | [], _, _ => byt_nil
  | x :: xs, i, h => fun y hy => by
    rcases List.mem_cons.1 hy with rfl | hy
    · exact up_range (h x List.mem_cons_self)
    · exact ups_byt n (i + 1) (fun z hz => h z (List.mem_cons_of_mem _ hz)) y hy
theorem fill_next {ts zs : List Int} {k : Nat} {y : Int} (ht : ts[k]? = some y) (hl : zs.length = ts.length) : (ts.take k ++ zs.drop k).set k y = ts.take (k + 1) ++ zs.drop (k + 1) := by
  have hk := (List.getElem?_eq_some_iff.1 ht).1
  have htl : (ts.take k).length = k := by rw [List.length_take]; omega
  rw [List.set_append_right (h := by omega), htl, Nat.sub_self, List.drop_eq_getElem_cons (by omega), List.set_cons_zero, take_next ht, List.append_assoc]
  rfl
theorem fill_at {ts zs : List Int} {k : Nat} (hk : k < ts.length) (hl : zs.length = ts.length) : ∃ old, (ts.take k ++ zs.drop k)[k]? = some old :=
  ⟨_, List.getElem?_eq_getElem (by rw [List.length_append, List.length_take, List.length_drop]; omega)⟩
theorem blk_at {w : World} {g k : Nat} {xs : List Int} {x : Int} (h : Blk w g 5 (xs.map (Value.int .u8)).toArray) (hx : xs[k]? = some x) : w.cell? ⟨g, k, none⟩ = some (.int .u8 x) := by
  rw [h.cell]
  simp only [List.getElem?_toArray, List.getElem?_map, hx]
  rfl
set_option maxRecDepth 100000 in
set_option maxHeartbeats 4000000 in
theorem placed_split (lim : Int) (A : Option Addr) (cs : List Int) (c : Nat) (w : World) (hc : cs.length ≤ c ∧ c ≤ maxLen) (hA : A = none → c = 0) (hbig : cs.length ≤ 2147483647) (hx : BytesAt w A cs) (hby : Byt cs) :
    Calls Try.prog 17 #[.slice A cs.length c, .int .i64 lim] w fun e w' => e = .returned (.bool true) ∧ Below w.heap.size w w' := by
  have hcm := hc.2
  unfold maxLen at hcm
  have hmk := make_bytes cs.length (by omega)
  have Hx := Lib.hid hx
  have Hby := Lib.hid hby
  clear hx hby
  have hts : (ups cs.length 0 cs).length = cs.length := ups_len _ _ _
  have htb := ups_byt cs.length 0 Hby.out
  have hta := ups_at cs.length cs 0
  generalize ups cs.length 0 cs = ts at *
  have Hts := Lib.hid hts
  have Htb := Lib.hid htb
  have Hta := Lib.hid hta
  clear hts htb hta
  have hzl : (List.replicate cs.length (0 : Int)).length = cs.length := List.length_replicate
  have hb0 : Below w.heap.size w ((w.alloc (.cells (Array.replicate cs.length (.int .u8 0)) 5)).alloc (.cells (Array.replicate cs.length (.int .u8 0)) 5)) := ((Below.refl _ _).alloc (Nat.le_refl _) _).alloc (by simp) _
  have hg0 : Blk ((w.alloc (.cells (Array.replicate cs.length (.int .u8 0)) 5)).alloc (.cells (Array.replicate cs.length (.int .u8 0)) 5)) w.heap.size 5 (((List.replicate cs.length (0 : Int)).map (Value.int .u8)).toArray) := by
    have := (Blk.new w 5 (Array.replicate cs.length (.int .u8 0))).alloc (.cells (Array.replicate cs.length (.int .u8 0)) 5)
    simpa using this
  have ht0 : Blk ((w.alloc (.cells (Array.replicate cs.length (.int .u8 0)) 5)).alloc (.cells (Array.replicate cs.length (.int .u8 0)) 5)) (w.heap.size + 1) 5 (((List.replicate cs.length (0 : Int)).map (Value.int .u8)).toArray) := by
    have := Blk.new (w.alloc (.cells (Array.replicate cs.length (.int .u8 0)) 5)) 5 (Array.replicate cs.length (.int .u8 0))
    rw [World.size_alloc] at this
    simpa using this
  have Hb0 := Lib.hid hb0
  have Hg0 := Lib.hid hg0
  have Ht0 := Lib.hid ht0
  have Hzl := Lib.hid hzl
  clear hb0 hg0 ht0 hzl
  go_enter Try.func17, Try.ntmps17
  go_wp2
  clear hmk
  generalize hzs : List.replicate cs.length (0 : Int) = zs at *
  clear hzs
  go_loopg [8] cs.length (fun gg iv wx => ∃ k : Nat, gg + k = cs.length ∧ iv = .int .i64 ((k : Nat) : Int) ∧ Below w.heap.size w wx ∧ Blk wx w.heap.size 5 ((ts.take k ++ zs.drop k).map (Value.int .u8)).toArray ∧ Blk wx (w.heap.size + 1) 5 ((ts.take k ++ zs.drop k).map (Value.int .u8)).toArray)
  case atStart => exact ⟨0, by omega, rfl, Hb0.out, by simpa using Hg0.out, by simpa using Ht0.out⟩
  case round =>
    obtain ⟨k, hk, rfl, hbe, hg, ht⟩ := hrel
    have Hk := Lib.hid hk
    by_cases hlt : k < cs.length
    · have hki : (k : Int) < cs.length := by omega
      have hkn : ¬ (k : Int) < 0 := by omega
      obtain ⟨b, o, x, rfl, _, hxk, q0⟩ := (Hx.out.below hbe).at_ hlt
      have hbw : b < w.heap.size := by
        obtain ⟨b2, o2, e2, h2, _⟩ := Hx.out (by omega)
        have := congrArg Addr.block (Option.some.inj e2)
        simp only at this
        omega
      have hty := Hta.out k x hxk
      rw [Nat.zero_add] at hty
      have hxr := Hby.out x (List.mem_of_getElem? hxk)
      obtain ⟨old, hold⟩ := fill_at (zs := zs) (show k < ts.length by rw [Hts.out]; exact hlt) (by rw [Hts.out]; exact Hzl.out)
      have cg := blk_at hg hold
      have ct := blk_at ht hold
      have fg := hg.frozen k
      have ft := ht.frozen k
      have hn1 : ¬ w.heap.size = w.heap.size + 1 := by omega
      have hn2 : ¬ w.heap.size + 1 = w.heap.size := by omega
      have hn3 : ¬ b = w.heap.size + 1 := by omega
      have hn4 : ¬ w.heap.size + 1 = b := by omega
      have hfn := fill_next hty (zs := zs) (by rw [Hts.out]; exact Hzl.out)
      have hG : ∀ u : World, Blk u w.heap.size 5 ((ts.take k ++ zs.drop k).map (Value.int .u8)).toArray → Blk (u.setCell ⟨w.heap.size, k, none⟩ (.int .u8 (up cs.length k x))) w.heap.size 5 ((ts.take (k + 1) ++ zs.drop (k + 1)).map (Value.int .u8)).toArray := fun u hu => by
        have := hu.setU k (up cs.length k x)
        rwa [hfn] at this
      have hT : ∀ v, Blk (wr.setCell ⟨w.heap.size + 1, k, none⟩ v) (w.heap.size + 1) 5 (((ts.take k ++ zs.drop k).map (Value.int .u8)).toArray.setIfInBounds k v) := fun v => ht.set_ k v
      have hT1 : Blk (wr.setCell ⟨w.heap.size + 1, k, none⟩ (.int .u8 (up cs.length k x))) (w.heap.size + 1) 5 ((ts.take (k + 1) ++ zs.drop (k + 1)).map (Value.int .u8)).toArray := by
        have := ht.setU k (up cs.length k x)
        rwa [hfn] at this
      have hT2 : ∀ v, Blk ((wr.setCell ⟨w.heap.size + 1, k, none⟩ v).setCell ⟨w.heap.size + 1, k, none⟩ (.int .u8 (up cs.length k x))) (w.heap.size + 1) 5 ((ts.take (k + 1) ++ zs.drop (k + 1)).map (Value.int .u8)).toArray := fun v => by
        have := (hT v).set_ k (.int .u8 (up cs.length k x))
        rw [← hfn, List.map_set]
        simpa using this
      by_cases hup : k < cs.length / 2
      · have hu : up cs.length k x = x := by unfold up; rw [if_pos hup]
        have hki2 : ¬ (k : Int) ≥ (cs.length : Int) / 2 := by omega
        rw [hu] at hG hT1
        have hres1 : Blk ((wr.setCell ⟨w.heap.size + 1, k, none⟩ (.int .u8 x)).setCell ⟨w.heap.size, k, none⟩ (.int .u8 x)) w.heap.size 5 ((ts.take (k + 1) ++ zs.drop (k + 1)).map (Value.int .u8)).toArray := hG _ (hg.far (by simp) _)
        have hres2 : Blk ((wr.setCell ⟨w.heap.size + 1, k, none⟩ (.int .u8 x)).setCell ⟨w.heap.size, k, none⟩ (.int .u8 x)) (w.heap.size + 1) 5 ((ts.take (k + 1) ++ zs.drop (k + 1)).map (Value.int .u8)).toArray := hT1.far (by simp) _
        have hres3 : Below w.heap.size w ((wr.setCell ⟨w.heap.size + 1, k, none⟩ (.int .u8 x)).setCell ⟨w.heap.size, k, none⟩ (.int .u8 x)) := (hbe.setCell (by simp) _).setCell (by simp) _
        have Hr1 := Lib.hid hres1
        have Hr2 := Lib.hid hres2
        have Hr3 := Lib.hid hres3
        clear hres1 hres2 hres3 hG hT hT1 hT2 hfn hu hty hold hg ht hbe hk hxk
        go_wp2
        go_roundg (gk - 1)
        case measure => have := Hk.out; omega
        case rel => exact ⟨k + 1, by have := Hk.out; omega, by go_num, Hr3.out, Hr1.out, Hr2.out⟩
      · have hu : up cs.length k x = (x + 1) % 256 := by unfold up; rw [if_neg hup]
        have hki2 : (k : Int) ≥ (cs.length : Int) / 2 := by omega
        rw [hu] at hG hT2
        have hres1 : Blk (((wr.setCell ⟨w.heap.size + 1, k, none⟩ (.int .u8 x)).setCell ⟨w.heap.size + 1, k, none⟩ (.int .u8 ((x + 1) % 256))).setCell ⟨w.heap.size, k, none⟩ (.int .u8 ((x + 1) % 256))) w.heap.size 5 ((ts.take (k + 1) ++ zs.drop (k + 1)).map (Value.int .u8)).toArray := hG _ ((hg.far (by simp) _).far (by simp) _)
        have hres2 : Blk (((wr.setCell ⟨w.heap.size + 1, k, none⟩ (.int .u8 x)).setCell ⟨w.heap.size + 1, k, none⟩ (.int .u8 ((x + 1) % 256))).setCell ⟨w.heap.size, k, none⟩ (.int .u8 ((x + 1) % 256))) (w.heap.size + 1) 5 ((ts.take (k + 1) ++ zs.drop (k + 1)).map (Value.int .u8)).toArray := (hT2 _).far (by simp) _
        have hres3 : Below w.heap.size w (((wr.setCell ⟨w.heap.size + 1, k, none⟩ (.int .u8 x)).setCell ⟨w.heap.size + 1, k, none⟩ (.int .u8 ((x + 1) % 256))).setCell ⟨w.heap.size, k, none⟩ (.int .u8 ((x + 1) % 256))) := ((hbe.setCell (by simp) _).setCell (by simp) _).setCell (by simp) _
        have Hr1 := Lib.hid hres1
        have Hr2 := Lib.hid hres2
        have Hr3 := Lib.hid hres3
        clear hres1 hres2 hres3 hG hT hT1 hT2 hfn hu hty hold hg ht hbe hk hxk
        go_wp2
        go_roundg (gk - 1)
        case measure => have := Hk.out; omega
        case rel => exact ⟨k + 1, by have := Hk.out; omega, by go_num, Hr3.out, Hr1.out, Hr2.out⟩
    · have hki : ¬ (k : Int) < cs.length := by omega
      obtain rfl : k = cs.length := by omega
      have hfull : ts.take cs.length ++ zs.drop cs.length = ts := by rw [← Hts.out, List.take_length, List.drop_of_length_le (by rw [Hts.out, Hzl.out]; exact Nat.le_refl _), List.append_nil]
      rw [hfull] at hg ht
      have hxg := bytes_of_blk hg
      have hlc : cs.length ≤ maxLen := by unfold maxLen; omega
      have hsp := splitp_all lim (some ⟨w.heap.size, 0, none⟩) ts cs.length wr (by rw [Hts.out]; exact ⟨Nat.le_refl _, hlc⟩) (by rw [Hts.out]; exact hbig) hxg Htb.out
      rw [Hts.out] at hsp
      have hgl := hg.lt
      have htl := ht.lt
      have Hg := Lib.hid hg
      have Ht := Lib.hid ht
      have Hbe := Lib.hid hbe
      clear hfull hg ht hbe hk hlt hxg
      go_upto_region 12 with (go_at_call 12; refine hsp.mono ?_; clear hsp; rintro e w1 ⟨hb1, tv1, l1, rfl, hpl1, hps1⟩)
      have hg1 := Hg.out.below hb1 hgl
      have ht1 := Ht.out.below hb1 htl
      have hbe1 : Below w.heap.size w w1 := Hbe.out.trans (hb1.mono (by omega))
      have hs1 := hb1.size
      have Hg1 := Lib.hid hg1
      have Ht1 := Lib.hid ht1
      have Hbe1 := Lib.hid hbe1
      have Hpl1 := Lib.hid hpl1
      have Hps1 := Lib.hid hps1
      clear hg1 ht1 hbe1 hpl1 hps1 hb1 Hg Ht Hbe
      go_wp2
      go_loopg [11] cs.length (fun gg iv wx => ∃ k : Nat, gg + k = cs.length ∧ iv = .int .i64 ((k : Nat) : Int) ∧ Kp (fun j => j = w.heap.size) w1 wx ∧ Blk wx w.heap.size 5 ((cs.take k ++ ts.drop k).map (Value.int .u8)).toArray)
      case atStart => exact ⟨0, by omega, rfl, Kp.refl _ _, by simpa using Hg1.out⟩
      case round =>
        obtain ⟨k, hk, rfl, hkp, hg⟩ := hrel
        have Hk2 := Lib.hid hk
        by_cases hlt : k < cs.length
        · have hki : (k : Int) < cs.length := by omega
          have hkn : ¬ (k : Int) < 0 := by omega
          obtain ⟨b, o, eA, hbw, hcell⟩ := Hx.out (by omega)
          subst eA
          obtain ⟨x, hxk⟩ : ∃ x, cs[k]? = some x := ⟨_, List.getElem?_eq_getElem hlt⟩
          have q0 : wr.cell? ⟨b, o + k, none⟩ = some (.int .u8 x) := by
            rw [← hcell k x hxk]
            exact World.cell?_of_block (a := ⟨b, o + k, none⟩) ((hkp.block b (Nat.lt_of_lt_of_le hbw Hbe1.out.size) (by omega)).trans (Hbe1.out.block b hbw))
          obtain ⟨old, hold⟩ := fill_at (ts := cs) (zs := ts) hlt Hts.out
          have cg := blk_at hg hold
          have fg := hg.frozen k
          have hsg := hg.setU k x
          rw [fill_next hxk Hts.out] at hsg
          have hkp2 := hkp.trans (Kp.set_ (fun j => j = w.heap.size) wr (p := ⟨w.heap.size, k, none⟩) rfl (.int .u8 x)) (fun j hj => .inl hj)
          have Hsg := Lib.hid hsg
          have Hkp2 := Lib.hid hkp2
          clear hsg hkp2 hold hg hkp hk hxk hcell
          go_wp2
          go_roundg (gk - 1)
          case measure => have := Hk2.out; omega
          case rel => exact ⟨k + 1, by have := Hk2.out; omega, by go_num, Hkp2.out, Hsg.out⟩
        · have hki : ¬ (k : Int) < cs.length := by omega
          obtain rfl : k = cs.length := by omega
          rw [List.take_length, List.drop_of_length_le (by rw [Hts.out]; exact Nat.le_refl _), List.append_nil] at hg
          have hxg := bytes_of_blk hg
          have hsp := splitp_all lim (some ⟨w.heap.size, 0, none⟩) cs cs.length wr ⟨Nat.le_refl _, hlc⟩ hbig hxg Hby.out
          have ht2 := Ht1.out.kp hkp (by omega)
          have hpl2 := Hpl1.out.kp hkp (fun b hb e => by have := (Hpl1.out.lt hb).1; omega)
          have hbe2 : Below w.heap.size w wr := Kp.to_below Hbe1.out hkp (by have := Hbe1.out.size; omega) (fun j hj => by omega)
          have hs2 := hkp.size
          have Ht2 := Lib.hid ht2
          have Hpl2 := Lib.hid hpl2
          have Hbe2 := Lib.hid hbe2
          clear ht2 hpl2 hbe2 hkp hg hk hlt hxg Hg1 Ht1 Hpl1
          go_upto_region 17 with (go_at_call 12; refine hsp.mono ?_; clear hsp; rintro e w3 ⟨hb3, tv3, l3, rfl, hpl3, hps3⟩)
          have hs3 := hb3.size
          have hbe3 : Below w.heap.size w w3 := Hbe2.out.trans (hb3.mono Hbe2.out.size)
          have ht3 := Ht2.out.below hb3 (by have := Ht2.out.lt; omega)
          have hpl13 := Hpl2.out.below hb3
          have hrs := rsplitp_all lim (some ⟨w.heap.size + 1, 0, none⟩) ts cs.length w3 (by rw [Hts.out]; exact ⟨Nat.le_refl _, hlc⟩) (fun e => by cases e) (by rw [Hts.out]; exact hbig) (bytes_of_blk ht3) Htb.out
          rw [Hts.out] at hrs
          have Hbe3 := Lib.hid hbe3
          have Hpl13 := Lib.hid hpl13
          have Hpl3 := Lib.hid hpl3
          have Hps3 := Lib.hid hps3
          clear hbe3 hpl13 hpl3 hps3 ht3 hb3 Ht2 Hpl2 Hbe2
          go_upto_region 18 with (go_at_call 11; refine hrs.mono ?_; clear hrs; rintro e w4 ⟨hb4, tv4, l4, rfl, hpr4, hps4⟩)
          have hs4 := hb4.size
          have hbe4 : Below w.heap.size w w4 := Hbe3.out.trans (hb4.mono Hbe3.out.size)
          have hpl14 := Hpl13.out.below hb4
          have hpl34 := Hpl3.out.below hb4
          have hrs := rsplitp_all lim A cs c w4 hc hA hbig (Hx.out.below hbe4) Hby.out
          have Hbe4 := Lib.hid hbe4
          have Hpl14 := Lib.hid hpl14
          have Hpl34 := Lib.hid hpl34
          have Hpr4 := Lib.hid hpr4
          have Hps4 := Lib.hid hps4
          clear hbe4 hpl14 hpl34 hpr4 hps4 hb4 Hpl13 Hpl3 Hbe3
          go_upto_region 19 with (go_at_call 11; refine hrs.mono ?_; clear hrs; rintro e w5 ⟨hb5, tv5, l5, rfl, hpr5, hps5⟩)
          have hbe5 : Below w.heap.size w w5 := Hbe4.out.trans (hb5.mono Hbe4.out.size)
          have hsm1 := samepieces_pr _ _ _ _ l1 l4 w5 (Hpl14.out.below hb5).reads (Hpr4.out.below hb5) (by rw [Hps1.out, Hps4.out])
          have hsm2 : ∀ n, Calls Try.prog 13 #[tv3, tv5] (w5.drewN n) fun e w' => e = .returned (.bool true) ∧ ∃ m, w' = (w5.drewN n).drewN m := fun n => by
            have hbn := below_drewN (Below.refl w5.heap.size w5) n
            exact samepieces_pr _ _ _ _ l3 l5 (w5.drewN n) ((Hpl34.out.below hb5).below hbn).reads (hpr5.below hbn) (by rw [Hps3.out, hps5])
          have Hbe5 := Lib.hid hbe5
          clear hbe5 hb5 hpr5 hps5 Hpl14 Hpl34 Hpr4
          go_wp2_with (first | (go_at_call 13; refine hsm1.mono ?_; clear hsm1; rintro e w' ⟨rfl, n1, rfl⟩) | (go_at_call 13; refine (hsm2 _).mono ?_; clear hsm2; rintro e w' ⟨rfl, n2, rfl⟩))
          go_ret
          exact ⟨rfl, below_drewN Hbe5.out _⟩
end Go.Proofs.Ytkllgmhfjibajaa
