/- The walk of the reference's Split; pieces that read alike. Conditions: all fits. -/
import Derived.Test.YtkllgmhfjibajaaRFeed
import Derived.Test.YtkllgmhfjibajaaToldNil
namespace Go.Proofs.Ytkllgmhfjibajaa
open Go.RowKit St
theorem rsplit_bad (lim : Int) (ch : Value) (w : World) (h : lim < 64 ∨ 4096 < lim) : Calls Try.prog 11 #[ch, .int .i64 lim] w fun e w' => e = .returned (.tuple #[.slice none 0 0, .int .i64 0]) ∧ w' = w := by
  have hn := rnew_bad lim w h
  go_enter Try.func11, Try.ntmps11
  go_wp2_with (go_at_call 19; refine hn.mono ?_; clear hn; rintro e w' ⟨rfl, rfl⟩)
  go_ret2
  exact ⟨rfl, rfl⟩
attribute [local irreducible] Go.Calls in
set_option maxRecDepth 100000 in
set_option maxHeartbeats 4000000 in
theorem rsplit_any (lim : Int) (A : Option Addr) (cs : List Int) (c : Nat) (w : World) (hlim : 64 ≤ lim ∧ lim ≤ 4096) (hc : cs.length ≤ c ∧ c ≤ maxLen) (hA : A = none → c = 0) (hbig : cs.length ≤ 2147483647) (hx : BytesAt w A cs) (hby : Byt cs) :
    Calls Try.prog 11 #[.slice A cs.length c, .int .i64 lim] w fun e w' => Below w.heap.size w w' ∧ ∃ tv l, e = .returned (.tuple #[tv, .int .i64 ((feed (fresh lim) cs).1.buf.length : Int)]) ∧ PR w' w.heap.size tv l ∧ l.map (·.1) = (feed (fresh lim) cs).2 := by
  have hn := rnew_good lim w hlim
  have Hx := Lib.hid hx
  have Hby := Lib.hid hby
  clear hx hby
  go_enter Try.func11, Try.ntmps11
  go_upto_region 4 with (go_at_call 19; refine hn.mono ?_; clear hn; rintro e w1 ⟨rfl, hb1, hr1⟩)
  have hgl := hr1.blk.lt
  have hf := rfeed_any w.heap.size w.heap.size _ lim [] cs w1 A c hr1 hlim hb1.size hc hA (by simpa using hbig) (Hx.out.below hb1) byt_nil Hby.out
  rw [List.nil_append] at hf
  have Hb1 := Lib.hid hb1
  clear hb1 hr1
  go_upto_region 5 with (go_at_call 22; refine hf.mono ?_; clear hf; rintro e w2 ⟨tv, rfl, v2, l, hT⟩)
  have hwt := rwaiting_any _ _ _ _ _ _ w2 hT.rf hlim Hby.out hbig
  have hb2 : Below w.heap.size w w2 := Kp.to_below Hb1.out hT.kp (Nat.le_of_lt hgl) (fun j hj => hj.elim (fun h => by omega) (fun h => by cases h))
  have hs := hT.kp.size
  have hpl := hT.pl
  have hps := hT.ps
  have Hpl := Lib.hid hpl
  have Hps := Lib.hid hps
  have Hb2 := Lib.hid hb2
  clear hT hpl hps hb2
  go_wp2_with (go_at_call 24; refine hwt.mono ?_; clear hwt; rintro e w3 ⟨rfl, hb3⟩)
  go_ret2
  exact ⟨Hb2.out.trans (hb3.mono (by omega)), tv, l, rfl, (Hpl.out.below hb3).mono (Nat.le_of_lt hgl), Hps.out⟩
theorem PR.at_ {w : World} {base : Nat} {v : Value} {l : List PV} (h : PR w base v l) {k : Nat} {p : PV} (hk : l[k]? = some p) :
    ∃ b o cap, v = .slice (some ⟨b, o, none⟩) l.length cap ∧ w.cell? ⟨b, o + k * 4, none⟩ = some (.int .i64 p.1.kind) ∧ w.cell? ⟨b, o + k * 4 + 1, none⟩ = some p.2 ∧
      w.cell? ⟨b, o + k * 4 + 2, none⟩ = some (.int .i64 p.1.at_) ∧ w.cell? ⟨b, o + k * 4 + 3, none⟩ = some (.int .i64 p.1.err) := by
  obtain ⟨A, c, rfl, _, _, _, h3⟩ := h.sh
  have hkl := (List.getElem?_eq_some_iff.1 hk).1
  obtain ⟨b, o, rfl, hc⟩ := h3 (by omega)
  exact ⟨b, o, c, rfl, hc k p hk 0 (by omega), hc k p hk 1 (by omega), hc k p hk 2 (by omega), hc k p hk 3 (by omega)⟩
set_option maxRecDepth 100000 in
set_option maxHeartbeats 4000000 in
/-- Two lists of pieces that are read read alike. -/
theorem samepieces_pr (base base' : Nat) (v v' : Value) (l l' : List PV) (w : World) (h : PR w base v l) (h' : PR w base' v' l') (hp : l.map (·.1) = l'.map (·.1)) :
    Calls Try.prog 13 #[v, v'] w fun e w' => e = .returned (.bool true) ∧ ∃ n, w' = w.drewN n := by
  have hlen : l'.length = l.length := by have := congrArg List.length hp; simpa using this.symm
  obtain ⟨A, c, rfl, hc1, hc2⟩ := h.shape
  obtain ⟨A', c', rfl, hc1', hc2'⟩ := h'.shape
  rw [hlen] at hc1' ⊢
  unfold maxLen at hc2 hc2'
  have Hh := Lib.hid h
  have Hh' := Lib.hid h'
  have Hp := Lib.hid hp
  have Hlen := Lib.hid hlen
  clear h h' hp hlen
  go_enter Try.func13, Try.ntmps13
  go_wp2
  go_loopg [5] l.length (fun g vi wr => ∃ k : Nat, g + k = l.length ∧ vi = .int .i64 (k : Nat) ∧ ∃ j, wr = w.drewN j)
  case atStart => exact ⟨0, by omega, rfl, 0, rfl⟩
  case round =>
    obtain ⟨k, hk, rfl, j, rfl⟩ := hrel
    have hkn : k ≤ l.length := by omega
    have Hk := Lib.hid hk
    clear hk
    by_cases hlt : k < l.length
    · have hki : (k : Int) < l.length := by omega
      obtain ⟨p, hpk⟩ : ∃ p, l[k]? = some p := ⟨_, List.getElem?_eq_getElem hlt⟩
      obtain ⟨p', hpk'⟩ : ∃ p, l'[k]? = some p := ⟨_, List.getElem?_eq_getElem (by have := Hlen.out; omega)⟩
      obtain ⟨g1, o1, cap1, e1, q0, q1, q2, q3⟩ := Hh.out.at_ hpk
      obtain ⟨g1', o1', cap1', e1', q0', q1', q2', q3'⟩ := Hh'.out.at_ hpk'
      have hpp : p'.1 = p.1 := by
        have := congrArg (fun m : List Pc => m[k]?) Hp.out
        simp only [List.getElem?_map, hpk, hpk', Option.map_some] at this
        injection this with this
        exact this.symm
      obtain ⟨B1, cc1, eb1, d1, d2, dx, dA⟩ := (Hh.out.own k p hpk).read
      obtain ⟨B1', cc1', eb1', d1', d2', dx', dA'⟩ := (Hh'.out.own k p' hpk').read
      have hs : ∀ n, Calls Try.prog 37 #[.slice B1 p.1.body.length cc1, .slice B1' p.1.body.length cc1'] (w.drewN (j + n)) fun e w' => e = .returned (.bool true) ∧ ∃ m, w' = w.drewN (j + m) := fun n => by
        have hb := below_drewN (Below.refl w.heap.size w) (j + n)
        refine (samebytes_yes B1 B1' cc1 cc1' p.1.body _ (dx.below hb) (BytesAt.below (by rw [hpp] at dx'; exact dx') hb) (by unfold maxLen at d2; omega)).mono ?_
        rintro e w' ⟨rfl, m, rfl⟩
        exact ⟨rfl, n + m, by rw [World.drewN_drewN, Nat.add_assoc]⟩
      rw [eb1] at q1
      rw [eb1', hpp] at q1'
      rw [hpp] at q0' q2' q3'
      injection e1 with e1 _ e1c
      injection e1' with e1' _ e1c'
      subst e1 e1' e1c e1c'
      clear dx dx' dA dA' hpp
      go_upto_region 6 with fail
      go_quiet (first | (go_at_call 37; refine hs _))
      go_wp2
      go_roundg (gk - 1)
      case measure => have := Hk.out; omega
      case rel => exact ⟨k + 1, by have := Hk.out; omega, by go_num, _, rfl⟩
    · have hki : ¬ (k : Int) < l.length := by omega
      go_wp2
      go_ret
      exact ⟨rfl, _, rfl⟩
end Go.Proofs.Ytkllgmhfjibajaa
