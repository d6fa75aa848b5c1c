/- The walks of the law's 'waiting' and 'greatest'. Conditions: the turns are readable. -/
import Derived.Test.YtgbjhkgbjnobcaaFind
namespace Go.Proofs.Ytgbjhkgbjnobcaa
open Go.RowKit Trn
attribute [local go_sem high] run_max_mx run_min_mn

/-- Does queue k wait? -/
def Trn.waitsAt (t : Tu) (k : Nat) : Bool := decide (0 < (t.qs.getD k default).cs.length)

theorem waiting_any (v : Value) (t : Tu) (k : Nat) (w : World) (B : Nat) (hB : B ≤ w.heap.size) (hv : TuAt w B v t) :
    Calls Try.prog 30 #[v, .int .i64 (k : Nat)] w fun e w' => e = .returned (.bool (waitsAt t k)) ∧ Below w.heap.size w w' := by
  obtain ⟨A, c, rfl, hlc, hcm, hq⟩ := hv
  by_cases hk : k < t.qs.length
  · have hki : (k : Int) < t.qs.length := by omega
    obtain ⟨b, o, q, rfl, hb, hqk, q0, q1, q2, Aq, cq, q3, hcq, hcqm, hin⟩ := hq.at_ hk
    have hbw : b < w.heap.size := by omega
    have hgd : t.qs.getD k default = q := by rw [List.getD_eq_getElem?_getD, hqk]; rfl
    unfold waitsAt
    rw [hgd]
    by_cases h0 : 0 < q.cs.length
    · have h1 : (0 : Int) < q.cs.length := by omega
      rw [decide_eq_true h0]
      clear hgd hqk
      go_enter Try.func30, Try.ntmps30
      go_wp2
      go_ret
      refine ⟨by simp <;> omega, (Below.refl _ _).alloc (Nat.le_refl _) _⟩
    · have h1 : ¬ (0 : Int) < q.cs.length := by omega
      rw [decide_eq_false h0]
      clear hgd hqk
      go_enter Try.func30, Try.ntmps30
      go_wp2
      go_ret
      refine ⟨by simp <;> omega, (Below.refl _ _).alloc (Nat.le_refl _) _⟩
  · have hki : ¬ (k : Int) < t.qs.length := by omega
    have hgd : t.qs.getD k default = default := by rw [List.getD_eq_getElem?_getD, List.getElem?_eq_none (by omega)]; rfl
    unfold waitsAt
    rw [hgd]
    clear hgd hq
    go_enter Try.func30, Try.ntmps30
    go_wp2
    go_ret
    refine ⟨rfl, (Below.refl _ _).alloc (Nat.le_refl _) _⟩

/-- No deficit and no cost is greater. -/
def Trn.Tops (C : Int) (q : Qu) : Prop := q.de ≤ C ∧ ∀ (i : Nat) (x : Int), q.cs[i]? = some x → x ≤ C
theorem mx_in (x y : Int) : x ≤ Cls.mx x y ∧ y ≤ Cls.mx x y ∧ (Cls.mx x y = x ∨ Cls.mx x y = y) := by
  unfold Cls.mx
  split <;> omega
theorem Trn.Tops.mono {C D : Int} {q : Qu} (h : Tops C q) (hc : C ≤ D) : Tops D q := ⟨by have := h.1; omega, fun i x hx => by have := h.2 i x hx; omega⟩

set_option maxHeartbeats 2000000 in
theorem greatest_any (v : Value) (t : Tu) (w : World) (B : Nat) (hB : B ≤ w.heap.size) (hv : TuAt w B v t) (hval : Valid t) :
    Calls Try.prog 29 #[v] w fun e w' => (∃ C : Int, e = .returned (.int .i64 C) ∧ 0 ≤ C ∧ C ≤ 1114111 ∧ ∀ (i : Nat) (q : Qu), t.qs[i]? = some q → Tops C q) ∧ Below w.heap.size w w' := by
  obtain ⟨A, c, rfl, hlc, hcm, hq⟩ := hv
  have hbl : Below w.heap.size w (w.alloc (.cells #[.slice A t.qs.length c, .int .i64 t.at_, .bool t.fr] 34)) := (Below.refl _ _).alloc (Nat.le_refl _) _
  have Hq := Lib.hid (hq.below (hbl.mono hB))
  have Hbl := Lib.hid hbl
  have hlen := hval.len
  have hde : ∀ (i : Nat) (q : Qu), t.qs[i]? = some q → 0 ≤ q.de ∧ q.de ≤ 1114111 := fun i q hi => by
    obtain ⟨_, _, _, d0, d1, _⟩ := hval.qs i q hi
    unfold most at d1
    split at d1 <;> omega
  have hcs : ∀ (i : Nat) (q : Qu), t.qs[i]? = some q → ∀ (j : Nat) (x : Int), q.cs[j]? = some x → 1 ≤ x ∧ x ≤ 1048576 := fun i q hi j x hx => hval.cs q (List.mem_of_getElem? hi) x (List.mem_of_getElem? hx)
  have Hde := Lib.hid hde
  have Hcs := Lib.hid hcs
  clear hbl hq hde hcs hval
  go_enter Try.func29, Try.ntmps29
  go_upto_region 1 with fail
  have hbx := (Boxed.start w A t.qs.length c t.at_ t.fr).cells
  generalize hW : World.alloc w _ = W
  rw [hW] at hbx
  obtain ⟨x0, x1, x2⟩ := hbx
  have hq2 : QsAt W B A t.qs := by rw [← hW]; exact Hq.out
  have hb2 : Below w.heap.size w W := by rw [← hW]; exact Hbl.out
  have hsz : w.heap.size < W.heap.size := by rw [← hW]; simp
  have Hq2 := Lib.hid hq2
  have Hb2 := Lib.hid hb2
  clear hW hq2 hb2 Hq Hbl
  go_wp2
  go_loopg [3, 4] t.qs.length (fun g vc vi wr => ∃ (C : Int) (k : Nat), g + k = t.qs.length ∧ vc = .int .i64 C ∧ vi = .int .i64 (k : Nat) ∧ 0 ≤ C ∧ C ≤ 1114111 ∧ (∀ (i : Nat) (q : Qu), i < k → t.qs[i]? = some q → Tops C q) ∧ W = wr)
  case atStart => exact ⟨0, 0, by omega, rfl, rfl, by omega, by omega, fun i q hi => by omega, rfl⟩
  case round =>
    obtain ⟨C, k, hk, rfl, rfl, hC0, hC1, htop, rfl⟩ := hrel
    have Hk := Lib.hid hk
    have Ht := Lib.hid htop
    have hkn : k ≤ t.qs.length := by omega
    clear hk htop
    by_cases hlt : k < t.qs.length
    · have hki : (k : Int) < t.qs.length := by omega
      obtain ⟨b, o, q, rfl, hb, hqk, q0, q1, q2, Aq, cq, q3, hcq, hcqm, hin⟩ := Hq2.out.at_ hlt
      unfold maxLen at hcqm
      have hde := Hde.out k q hqk
      have hcs := Hcs.out k q hqk
      obtain ⟨m1, m2, m3⟩ := mx_in C q.de
      obtain ⟨D, hD⟩ : ∃ D, D = Cls.mx C q.de := ⟨_, rfl⟩
      rw [← hD] at m1 m2 m3
      have HD := Lib.hid hD.symm
      have Hqk := Lib.hid hqk
      have Hcs' := Lib.hid hcs
      have Hin := Lib.hid hin
      clear hD hqk hcs hin
      go_upto_region 6 with fail
      rw [HD.out]
      have hD0 : 0 ≤ D := by omega
      have hD1 : D ≤ 1114111 := by rcases m3 with e | e <;> omega
      have hDd : q.de ≤ D := m2
      have hCD : C ≤ D := m1
      clear m1 m2 m3
      go_wp2
      go_loopg [3, 5] q.cs.length (fun g vc vi wr => ∃ (E : Int) (m : Nat), g + m = q.cs.length ∧ vc = .int .i64 E ∧ vi = .int .i64 (m : Nat) ∧ D ≤ E ∧ E ≤ 1114111 ∧ (∀ (i : Nat) (x : Int), i < m → q.cs[i]? = some x → x ≤ E) ∧ W = wr)
      case atStart => exact ⟨D, 0, by omega, rfl, rfl, by omega, by omega, fun i x hi => by omega, rfl⟩
      case round =>
        obtain ⟨E, m, hm, rfl, rfl, hE0, hE1, hall, rfl⟩ := hrel
        have Hm := Lib.hid hm
        have Hall := Lib.hid hall
        have hmn : m ≤ q.cs.length := by omega
        clear hm hall
        by_cases hml : m < q.cs.length
        · have hmi : (m : Int) < q.cs.length := by omega
          obtain ⟨b2, o2, x, rfl, hb2, hxm, y0⟩ := Hin.out.at_ hml
          have hxr := Hcs'.out m x hxm
          obtain ⟨n1, n2, n3⟩ := mx_in E x
          obtain ⟨G, hG⟩ : ∃ G, G = Cls.mx E x := ⟨_, rfl⟩
          rw [← hG] at n1 n2 n3
          have HG := Lib.hid hG.symm
          have Hxm := Lib.hid hxm
          clear hG hxm
          go_wp2
          go_roundg (gk - 1)
          case measure => have := Hm.out; omega
          case rel => exact ⟨G, m + 1, by have := Hm.out; omega, by rw [HG.out], by go_num, by omega, by rcases n3 with e | e <;> omega, fun i y hi hy => by
            by_cases e : i = m
            · subst e; rw [Hxm.out] at hy; injection hy with hy; subst hy; exact n2
            · have := Hall.out i y (by omega) hy; omega, rfl⟩
        · have hmi : ¬ (m : Int) < q.cs.length := by omega
          go_wp2
          go_roundg (t.qs.length - (k + 1))
          case measure => have := Hk.out; omega
          case rel => exact ⟨E, k + 1, by omega, rfl, by go_num, by omega, hE1, fun i y hi hy => by
            by_cases e : i = k
            · subst e; rw [Hqk.out] at hy; injection hy with hy; subst hy
              exact ⟨by omega, fun j x hx => Hall.out j x (by have := (List.getElem?_eq_some_iff.1 hx).1; omega) hx⟩
            · exact (Ht.out i y (by omega) hy).mono (by omega), rfl⟩
    · have hki : ¬ (k : Int) < t.qs.length := by omega
      go_wp2
      go_ret
      exact ⟨⟨C, rfl, hC0, hC1, fun i q hi => Ht.out i q (by have := (List.getElem?_eq_some_iff.1 hi).1; omega) hi⟩, Hb2.out⟩
end Go.Proofs.Ytgbjhkgbjnobcaa
