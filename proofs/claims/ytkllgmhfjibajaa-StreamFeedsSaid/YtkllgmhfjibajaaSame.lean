/- The walks of the law's sameBytes and samePieces, where both are the same. Conditions: none. -/
import Derived.Test.YtkllgmhfjibajaaWriter
namespace Go.Proofs.Ytkllgmhfjibajaa
open Go.RowKit St
theorem samebytes_yes (A A' : Option Addr) (c c' : Nat) (xs : List Int) (w : World) (h : BytesAt w A xs) (h' : BytesAt w A' xs) (hl : xs.length ≤ 9223372036854775807) :
    Calls Try.prog 37 #[.slice A xs.length c, .slice A' xs.length c'] w fun e w' => e = .returned (.bool true) ∧ ∃ n, w' = w.drewN n := by
  have Hh := Lib.hid h
  have Hh' := Lib.hid h'
  clear h h'
  go_enter Try.func37, Try.ntmps37
  go_wp2
  go_loopg [5] xs.length (fun g vi wr => ∃ k : Nat, g + k = xs.length ∧ vi = .int .i64 (k : Nat) ∧ ∃ j, wr = w.drewN j)
  case atStart => exact ⟨0, by omega, rfl, 0, rfl⟩
  case round =>
    obtain ⟨k, hk, rfl, j, rfl⟩ := hrel
    have hkn : k ≤ xs.length := by omega
    have Hk := Lib.hid hk
    clear hk
    by_cases hlt : k < xs.length
    · have hki : (k : Int) < xs.length := by omega
      obtain ⟨b, o, x, rfl, hb, hxk, q0⟩ := Hh.out.at_ hlt
      obtain ⟨b', o', x', rfl, hb', hxk', q0'⟩ := Hh'.out.at_ hlt
      rw [hxk] at hxk'
      injection hxk' with hxk'
      subst hxk'
      clear hxk
      go_wp2
      go_quiet (fail)
      go_wp2
      go_roundg (gk - 1)
      case measure => have := Hk.out; omega
      case rel => exact ⟨k + 1, by have := Hk.out; omega, by go_num, _, rfl⟩
    · have hki : ¬ (k : Int) < xs.length := by omega
      go_wp2
      go_ret
      exact ⟨rfl, _, rfl⟩
set_option maxRecDepth 100000 in
set_option maxHeartbeats 4000000 in
/-- Two lists of pieces read alike. -/
theorem samepieces_yes (base base' : Nat) (v v' : Value) (l l' : List PV) (w : World) (h : PL w base v l) (h' : PL w base' v' l') (hp : l.map (·.1) = l'.map (·.1)) :
    Calls Try.prog 13 #[v, v'] w fun e w' => e = .returned (.bool true) ∧ ∃ n, w' = w.drewN n := by
  have hlen : l'.length = l.length := by have := congrArg List.length hp; simpa using this.symm
  obtain ⟨A, c, rfl, hc1, hc2⟩ := h.shape
  obtain ⟨A', c', rfl, hc1', hc2'⟩ := h'.shape
  rw [hlen] at hc1' ⊢
  unfold maxLen at hc2 hc2'
  have Hh := Lib.hid h
  have Hh' := Lib.hid h'
  have Hp := Lib.hid hp
  have Hlen := Lib.hid hlen
  clear h h' hp hlen
  go_enter Try.func13, Try.ntmps13
  go_wp2
  go_loopg [5] l.length (fun g vi wr => ∃ k : Nat, g + k = l.length ∧ vi = .int .i64 (k : Nat) ∧ ∃ j, wr = w.drewN j)
  case atStart => exact ⟨0, by omega, rfl, 0, rfl⟩
  case round =>
    obtain ⟨k, hk, rfl, j, rfl⟩ := hrel
    have hkn : k ≤ l.length := by omega
    have Hk := Lib.hid hk
    clear hk
    by_cases hlt : k < l.length
    · have hki : (k : Int) < l.length := by omega
      obtain ⟨p, hpk⟩ : ∃ p, l[k]? = some p := ⟨_, List.getElem?_eq_getElem hlt⟩
      obtain ⟨p', hpk'⟩ : ∃ p, l'[k]? = some p := ⟨_, List.getElem?_eq_getElem (by have := Hlen.out; omega)⟩
      obtain ⟨g1, cap1, e1, hg1, hg2, q0, q1, q2, q3, hf⟩ := Hh.out.at_ hpk
      obtain ⟨g1', cap1', e1', hg1', hg2', q0', q1', q2', q3', hf'⟩ := Hh'.out.at_ hpk'
      have hpp : p'.1 = p.1 := by
        have := congrArg (fun m : List Pc => m[k]?) Hp.out
        simp only [List.getElem?_map, hpk, hpk', Option.map_some] at this
        injection this with this
        exact this.symm
      obtain ⟨B1, cc1, eb1, d1, d2, dx, dA⟩ := (Hh.out.own k p hpk).read
      obtain ⟨B1', cc1', eb1', d1', d2', dx', dA'⟩ := (Hh'.out.own k p' hpk').read
      have hs : ∀ n, Calls Try.prog 37 #[.slice B1 p.1.body.length cc1, .slice B1' p.1.body.length cc1'] (w.drewN (j + n)) fun e w' => e = .returned (.bool true) ∧ ∃ m, w' = w.drewN (j + m) := fun n => by
        have hb := below_drewN (Below.refl w.heap.size w) (j + n)
        refine (samebytes_yes B1 B1' cc1 cc1' p.1.body _ (dx.below hb) (BytesAt.below (by rw [hpp] at dx'; exact dx') hb) (by unfold maxLen at d2; omega)).mono ?_
        rintro e w' ⟨rfl, m, rfl⟩
        exact ⟨rfl, n + m, by rw [World.drewN_drewN, Nat.add_assoc]⟩
      rw [eb1] at q1
      rw [eb1', hpp] at q1'
      rw [hpp] at q0' q2' q3'
      injection e1 with e1 _ e1c
      injection e1' with e1' _ e1c'
      subst e1 e1' e1c e1c'
      clear dx dx' dA dA' hf hf' hpp
      go_upto_region 6 with fail
      go_quiet (first | (go_at_call 37; refine hs _))
      go_wp2
      go_roundg (gk - 1)
      case measure => have := Hk.out; omega
      case rel => exact ⟨k + 1, by have := Hk.out; omega, by go_num, _, rfl⟩
    · have hki : ¬ (k : Int) < l.length := by omega
      go_wp2
      go_ret
      exact ⟨rfl, _, rfl⟩
end Go.Proofs.Ytkllgmhfjibajaa
