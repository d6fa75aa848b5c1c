/- The walk of 'SchedFair'. Conditions: the turns are readable, their lists and numbers within reach. -/
import Derived.Test.YtgbjhkgbjnobcaaWorks
import Derived.Test.YtgbjhkgbjnobcaaFairLaw
namespace Go.Proofs.Ytgbjhkgbjnobcaa
open Go.RowKit Trn

/-- Nothing below B is written. -/
theorem QsNew.below {w w' : World} {lo B : Nat} {A : Option Addr} {qs : List Qu} (h : QsNew w lo B A qs) (hb : Below B w w') : QsNew w' lo B A qs := by
  refine ⟨h.1.below hb, fun h0 => ?_⟩
  obtain ⟨b2, o2, e2, hlo, hf⟩ := h.2 h0
  obtain ⟨b, o, e, hlt, _⟩ := h.1 h0
  rw [e] at e2
  injection e2 with e2
  injection e2 with e2 e3 _
  subst e2 e3
  refine ⟨b, o, e, hlo, fun i q hq hp => ?_⟩
  obtain ⟨b'', o'', n'', c'', c3', hlo'⟩ := hf i q hq hp
  exact ⟨b'', o'', n'', c'', (hb.cell (p := ⟨b, o + i * 4 + 3, none⟩) hlt).trans c3', hlo'⟩
theorem TuNew.below {w w' : World} {lo B : Nat} {v : Value} {t : Tu} (h : TuNew w lo B v t) (hb : Below B w w') : TuNew w' lo B v t := by
  obtain ⟨A, c, e, h1, h2, h3⟩ := h
  exact ⟨A, c, e, h1, h2, h3.below hb⟩
theorem TuNew.alloc {w : World} {lo : Nat} {v : Value} {t : Tu} (h : TuNew w lo w.heap.size v t) (o : Obj) : TuNew (w.alloc o) lo (w.alloc o).heap.size v t := by
  have h1 := h.below ((Below.refl w.heap.size w).alloc (Nat.le_refl _) o)
  obtain ⟨A, c, e, k1, k2, k3⟩ := h1
  exact ⟨A, c, e, k1, k2, k3.mono (by simp)⟩
/-- What Next keeps. -/
structure Keeps (t t' : Tu) : Prop where
  valid : Valid t'
  len : t'.qs.length = t.qs.length
  each : ∀ (k : Nat) (a : Qu), t.qs[k]? = some a → ∃ a', t'.qs[k]? = some a' ∧ a'.id = a.id ∧ a'.qu = a.qu ∧ a'.cs.length ≤ a.cs.length
theorem Keeps.refl {t : Tu} (h : Valid t) : Keeps t t := ⟨h, rfl, fun _ a ha => ⟨a, ha, rfl, rfl, Nat.le_refl _⟩⟩
theorem Keeps.trans {t t1 t2 : Tu} (h : Keeps t t1) (k : Keeps t1 t2) : Keeps t t2 := ⟨k.valid, k.len.trans h.len, fun i a ha => by
  obtain ⟨a1, h1, e1, e2, e3⟩ := h.each i a ha
  obtain ⟨a2, h2, f1, f2, f3⟩ := k.each i a1 h1
  exact ⟨a2, h2, f1.trans e1, f2.trans e2, by omega⟩⟩
theorem keeps_go : ∀ (f : Nat) {t t' : Tu} {id cost : Int}, Valid t → 0 < t.qs.length → Trn.go f t = some (t', id, cost) → Keeps t t' := by
  intro f
  induction f with
  | zero => intro t t' id cost hv hn hg; simp [Trn.go] at hg
  | succ f ih =>
    intro t t' id cost hv hn hg
    cases hs : Trn.step t with
    | inl t1 =>
      obtain ⟨hv1, hl1⟩ := hv.step_inl hn hs
      have h1 : Keeps t t1 := ⟨hv1, hl1, fun _ a ha => by
        obtain ⟨_, _, _, a1, ha1, e1, e2, e3, _⟩ := view_inl hv ha hs
        exact ⟨a1, ha1, e1, e2, by rw [e3]; exact Nat.le_refl _⟩⟩
      exact h1.trans (ih hv1 (by omega) (by simpa [Trn.go, hs] using hg))
    | inr r =>
      have hg1 : r = (t', id, cost) := by
        have : some r = some (t', id, cost) := by simpa [Trn.go, hs] using hg
        injection this
      subst hg1
      obtain ⟨hv1, hl1⟩ := hv.step_inr hn hs
      exact ⟨hv1, hl1, fun _ a ha => by
        obtain ⟨_, a1, ha1, e1, e2, _, hc⟩ := view_inr hv ha hs
        refine ⟨a1, ha1, e1, e2, ?_⟩
        rcases hc with ⟨_, _, e3, _⟩ | ⟨_, _, e3, _⟩
        · rw [e3]; exact Nat.le_refl _
        · rw [e3]; simp⟩
theorem Keeps.reach {t t' : Tu} (h : Keeps t t') (hr : Reach t) : Reach t' := fun q hq => by
  obtain ⟨k, hk⟩ := List.getElem?_of_mem hq
  have hkl := (List.getElem?_eq_some_iff.1 hk).1
  have hk0 : k < t.qs.length := by have := h.len; omega
  obtain ⟨a', h1, _, _, h2⟩ := h.each k _ (List.getElem?_eq_getElem hk0)
  rw [hk] at h1
  injection h1 with h1
  subst h1
  have := hr _ (List.getElem_mem hk0)
  omega
theorem Keeps.ids {t t' : Tu} (h : Keeps t t') (hr : Ids t) : Ids t' := fun q hq => by
  obtain ⟨k, hk⟩ := List.getElem?_of_mem hq
  have hkl := (List.getElem?_eq_some_iff.1 hk).1
  have hk0 : k < t.qs.length := by have := h.len; omega
  obtain ⟨a', h1, e, _, _⟩ := h.each k _ (List.getElem?_eq_getElem hk0)
  rw [hk] at h1
  injection h1 with h1
  subst h1
  have := hr _ (List.getElem_mem hk0)
  omega
theorem waits_get {t : Tu} {k : Nat} (h : waitsAt t k = true) : ∃ a, t.qs[k]? = some a ∧ 0 < a.cs.length := by
  simp only [waitsAt, decide_eq_true_eq, List.getD_eq_getElem?_getD] at h
  cases hk : t.qs[k]? with
  | none => rw [hk] at h; exact absurd h (by decide)
  | some a => rw [hk] at h; exact ⟨a, rfl, h⟩
/-- What is served costs at least 1, at most 2 ^ 20. -/
theorem cost_go : ∀ (f : Nat) {t t' : Tu} {id cost : Int}, Valid t → 0 < t.qs.length → Trn.go f t = some (t', id, cost) → 1 ≤ cost ∧ cost ≤ 1048576 := by
  intro f
  induction f with
  | zero => intro t t' id cost hv hn hg; simp [Trn.go] at hg
  | succ f ih =>
    intro t t' id cost hv hn hg
    cases hs : Trn.step t with
    | inl t1 =>
      obtain ⟨hv1, hl1⟩ := hv.step_inl hn hs
      exact ih hv1 (by omega) (by simpa [Trn.go, hs] using hg)
    | inr r =>
      have hg1 : r = (t', id, cost) := by
        have : some r = some (t', id, cost) := by simpa [Trn.go, hs] using hg
        injection this
      subst hg1
      have ha := cur_at hv hn
      have hat := at_lt hv hn
      obtain ⟨_, a1, ha1, e1, e2, _, hc⟩ := view_inr hv ha hs
      rcases hc with ⟨h1, _⟩ | ⟨_, _, e3, _⟩
      · omega
      · exact hv.cs _ (List.mem_of_getElem? ha) cost (by rw [e3]; exact List.mem_cons_self)
/-- The sums are within reach. -/
theorem fair_reach {si sj p q C : Int} {n : Nat} (hn : n ≤ 10000) (hi0 : 0 ≤ si) (hi1 : si ≤ n * 1048576) (hj0 : 0 ≤ sj) (hj1 : sj ≤ n * 1048576) (hp0 : 1 ≤ p) (hp1 : p ≤ 65536) (hq0 : 1 ≤ q) (hq1 : q ≤ 65536) (hC0 : 0 ≤ C) (hC1 : C ≤ 1114111) :
    (0 ≤ si * q ∧ si * q ≤ 687194767360000) ∧ (0 ≤ sj * p ∧ sj * p ≤ 687194767360000) ∧ (0 ≤ 3 * p * q ∧ 3 * p * q ≤ 12884901888) ∧ (0 ≤ C * (p + q) ∧ C * (p + q) ≤ 146028756992) := by
  have hi2 : si ≤ 10485760000 := by omega
  have hj2 : sj ≤ 10485760000 := by omega
  refine ⟨⟨Int.mul_nonneg hi0 (by omega), ?_⟩, ⟨Int.mul_nonneg hj0 (by omega), ?_⟩, ⟨Int.mul_nonneg (by omega) (by omega), ?_⟩, ⟨Int.mul_nonneg hC0 (by omega), ?_⟩⟩
  · exact Int.le_trans (Int.mul_le_mul hi2 hq1 (by omega) (by omega)) (by decide)
  · exact Int.le_trans (Int.mul_le_mul hj2 hp1 (by omega) (by omega)) (by decide)
  · exact Int.le_trans (Int.mul_le_mul (show 3 * p ≤ 196608 by omega) hq1 (by omega) (by omega)) (by decide)
  · exact Int.le_trans (Int.mul_le_mul hC1 (show p + q ≤ 131072 by omega) (by omega) (by omega)) (by decide)

theorem TuNew.low {w : World} {lo lo' B : Nat} {v : Value} {t : Tu} (h : TuNew w lo B v t) (hl : lo' ≤ lo) : TuNew w lo' B v t := by
  obtain ⟨A, c, e, h1, h2, h3, h4⟩ := h
  refine ⟨A, c, e, h1, h2, h3, fun h0 => ?_⟩
  obtain ⟨b, o, e, hlo, hf⟩ := h4 h0
  refine ⟨b, o, e, by omega, fun i q hq hp => ?_⟩
  obtain ⟨b', o', n', c', hc, hlo'⟩ := hf i q hq hp
  exact ⟨b', o', n', c', hc, by omega⟩
theorem TuAt.qs {w : World} {B n c : Nat} {A : Option Addr} {x y : Value} {t : Tu} (h : TuAt w B (.agg #[.slice A n c, x, y]) t) : QsAt w B A t.qs := by
  obtain ⟨A2, c2, e, _, _, hq⟩ := h
  injection e with e
  have := congrArg (fun x => x[0]?) e
  simp at this
  rw [this.1]
  exact hq
/-- Next, where somebody waits. -/
theorem next_waits (v : Value) (t : Tu) (w : World) (B : Nat) (hB : B ≤ w.heap.size) (hv : TuAt w B v t) (hr : Reach t) (hval : Valid t) (hw : waits t.qs) :
    Calls Try.prog 13 #[v] w fun e w' => (∃ A' c' t' id cost, e = .returned (.tuple #[.agg #[.slice A' t'.qs.length c', .int .i64 t'.at_, .bool t'.fr], .int .i64 id, .int .i64 cost, .bool true]) ∧
      TuNew w' w.heap.size w'.heap.size (.agg #[.slice A' t'.qs.length c', .int .i64 t'.at_, .bool t'.fr]) t' ∧ ∃ f, Trn.go f t = some (t', id, cost)) ∧ Below w.heap.size w w' := by
  refine Calls.mono (next_any v t w B hB hv hr) ?_
  rintro e w' ⟨⟨v', t', id, cost, ok, rfl, hn, hp⟩, hb⟩
  refine ⟨?_, hb⟩
  rcases hp with ⟨h, _⟩ | ⟨_, h, _⟩ | ⟨_, _, rfl, hf⟩
  · exact absurd hval h
  · exact absurd hw h
  · have hn2 := hn
    obtain ⟨A', c', rfl, _⟩ := hn
    exact ⟨A', c', t', id, cost, rfl, hn2, hf⟩

set_option maxRecDepth 100000 in
set_option maxHeartbeats 4000000 in
theorem fair_any (v : Value) (t : Tu) (i j calls : Int) (w : World) (B : Nat) (hB : B ≤ w.heap.size) (hv : TuAt w B v t) (hr : Reach t) :
    Calls Try.prog 7 #[v, .int .i64 i, .int .i64 j, .int .i64 calls] w fun e w' => e = .returned (.bool true) ∧ Below w.heap.size w w' := by
  have Hv := Lib.hid hv
  obtain ⟨A, c, rfl, hlc, hcm, hq⟩ := hv
  clear hq
  have hbx : ∀ w1, Below w.heap.size w w1 → Calls Try.prog 20 #[.agg #[.slice A t.qs.length c, .int .i64 t.at_, .bool t.fr]] w1 fun e w' => e = .returned (.int .i64 (chk t)) ∧ Below w1.heap.size w1 w' := fun w1 hb =>
    check_any _ t w1 B (by have := hb.size; omega) (Hv.out.below (hb.mono hB))
  by_cases hck : chk t = 0
  · have hval := chk_zero.1 hck
    rw [hck] at hbx
    by_cases hi : i < 0
    · clear hval hck
      go_enter Try.func7, Try.ntmps7
      go_upto_region 1 with fail
      have hx := Boxed.start w A t.qs.length c t.at_ t.fr
      generalize hW0 : World.alloc w _ = W0
      rw [hW0] at hx
      have hA0 : TuAt W0 W0.heap.size (.agg #[.slice A t.qs.length c, .int .i64 t.at_, .bool t.fr]) t := (Hv.out.below (hx.below.mono hB)).mono (by have := hx.below.size; omega)
      clear hW0
      obtain ⟨x0, x1, x2⟩ := hx.cells
      have HX := Lib.hid hx
      have HA0 := Lib.hid hA0
      clear hx hA0
      go_wp2_with (first
        | (go_at_call 20; refine Calls.mono (hbx _ HX.out.below) ?_; rintro e w1 ⟨rfl, hb1⟩; have Hb1 := Lib.hid hb1; clear hb1)
        | (go_at_call 28; refine Calls.mono (works_any _) ?_; rintro e w2 ⟨rfl, hb2⟩))
      go_ret
      have h1 := HX.out.below.trans (Hb1.out.mono HX.out.below.size)
      exact ⟨rfl, h1.trans (hb2.mono h1.size)⟩
    · by_cases hj : j < 0
      · clear hval hck
        go_enter Try.func7, Try.ntmps7
        go_upto_region 1 with fail
        have hx := Boxed.start w A t.qs.length c t.at_ t.fr
        generalize hW0 : World.alloc w _ = W0
        rw [hW0] at hx
        have hA0 : TuAt W0 W0.heap.size (.agg #[.slice A t.qs.length c, .int .i64 t.at_, .bool t.fr]) t := (Hv.out.below (hx.below.mono hB)).mono (by have := hx.below.size; omega)
        clear hW0
        obtain ⟨x0, x1, x2⟩ := hx.cells
        have HX := Lib.hid hx
        have HA0 := Lib.hid hA0
        clear hx hA0
        go_wp2_with (first
          | (go_at_call 20; refine Calls.mono (hbx _ HX.out.below) ?_; rintro e w1 ⟨rfl, hb1⟩; have Hb1 := Lib.hid hb1; clear hb1)
          | (go_at_call 28; refine Calls.mono (works_any _) ?_; rintro e w2 ⟨rfl, hb2⟩))
        go_ret
        have h1 := HX.out.below.trans (Hb1.out.mono HX.out.below.size)
        exact ⟨rfl, h1.trans (hb2.mono h1.size)⟩
      · by_cases hij : i = j
        · have hije : (i == j) = true := by simp [hij]
          clear hval hck hij
          go_enter Try.func7, Try.ntmps7
          go_upto_region 1 with fail
          have hx := Boxed.start w A t.qs.length c t.at_ t.fr
          generalize hW0 : World.alloc w _ = W0
          rw [hW0] at hx
          have hA0 : TuAt W0 W0.heap.size (.agg #[.slice A t.qs.length c, .int .i64 t.at_, .bool t.fr]) t := (Hv.out.below (hx.below.mono hB)).mono (by have := hx.below.size; omega)
          clear hW0
          obtain ⟨x0, x1, x2⟩ := hx.cells
          have HX := Lib.hid hx
          have HA0 := Lib.hid hA0
          clear hx hA0
          go_wp2_with (first
            | (go_at_call 20; refine Calls.mono (hbx _ HX.out.below) ?_; rintro e w1 ⟨rfl, hb1⟩; have Hb1 := Lib.hid hb1; clear hb1)
            | (go_at_call 28; refine Calls.mono (works_any _) ?_; rintro e w2 ⟨rfl, hb2⟩))
          go_ret
          have h1 := HX.out.below.trans (Hb1.out.mono HX.out.below.size)
          exact ⟨rfl, h1.trans (hb2.mono h1.size)⟩
        · have hije : (i == j) = false := by simp [hij]
          by_cases hcl : calls > 10000
          · clear hval hck hij
            go_enter Try.func7, Try.ntmps7
            go_upto_region 1 with fail
            have hx := Boxed.start w A t.qs.length c t.at_ t.fr
            generalize hW0 : World.alloc w _ = W0
            rw [hW0] at hx
            have hA0 : TuAt W0 W0.heap.size (.agg #[.slice A t.qs.length c, .int .i64 t.at_, .bool t.fr]) t := (Hv.out.below (hx.below.mono hB)).mono (by have := hx.below.size; omega)
            clear hW0
            obtain ⟨x0, x1, x2⟩ := hx.cells
            have HX := Lib.hid hx
            have HA0 := Lib.hid hA0
            clear hx hA0
            go_wp2_with (first
              | (go_at_call 20; refine Calls.mono (hbx _ HX.out.below) ?_; rintro e w1 ⟨rfl, hb1⟩; have Hb1 := Lib.hid hb1; clear hb1)
              | (go_at_call 28; refine Calls.mono (works_any _) ?_; rintro e w2 ⟨rfl, hb2⟩))
            go_ret
            have h1 := HX.out.below.trans (Hb1.out.mono HX.out.below.size)
            exact ⟨rfl, h1.trans (hb2.mono h1.size)⟩
          · have hgr : ∀ w1, Below w.heap.size w w1 → Calls Try.prog 29 #[.agg #[.slice A t.qs.length c, .int .i64 t.at_, .bool t.fr]] w1 fun e w' => (∃ C : Int, e = .returned (.int .i64 C) ∧ 0 ≤ C ∧ C ≤ 1114111 ∧ ∀ (i : Nat) (q : Qu), t.qs[i]? = some q → Tops C q) ∧ Below w1.heap.size w1 w' := fun w1 hb =>
              greatest_any _ t w1 B (by have := hb.size; omega) (Hv.out.below (hb.mono hB)) hval
            obtain ⟨i, rfl⟩ := Int.eq_ofNat_of_zero_le (show 0 ≤ i by omega)
            obtain ⟨j, rfl⟩ := Int.eq_ofNat_of_zero_le (show 0 ≤ j by omega)
            have hijn : i ≠ j := fun e => hij (by rw [e])
            have Hval := Lib.hid hval
            clear hval hck hij
            go_enter Try.func7, Try.ntmps7
            go_upto_region 1 with fail
            have hx := Boxed.start w A t.qs.length c t.at_ t.fr
            generalize hW0 : World.alloc w _ = W0
            rw [hW0] at hx
            have hA0 : TuAt W0 W0.heap.size (.agg #[.slice A t.qs.length c, .int .i64 t.at_, .bool t.fr]) t := (Hv.out.below (hx.below.mono hB)).mono (by have := hx.below.size; omega)
            clear hW0
            obtain ⟨x0, x1, x2⟩ := hx.cells
            have HX := Lib.hid hx
            have HA0 := Lib.hid hA0
            clear hx hA0
            go_upto_region 4 with (first
              | (go_at_call 20; refine Calls.mono (hbx _ HX.out.below) ?_; rintro e w1 ⟨rfl, hb1⟩; have Hb1 := Lib.hid hb1; have hx1 := HX.out.more hb1; obtain ⟨y0, y1, y2⟩ := hx1.cells; have HX1 := Lib.hid hx1; clear hb1 hx1)
              | (go_at_call 29; refine Calls.mono (hgr _ HX1.out.below) ?_; rintro e w2 ⟨⟨C, rfl, hC0, hC1, hC⟩, hb2⟩; have Hb2 := Lib.hid hb2; have HC := Lib.hid hC; clear hb2 hC))
            have hx2 := HX1.out.more Hb2.out
            have hb02 := Hb1.out.trans (Hb2.out.mono Hb1.out.size)
            have H : TBox w w.heap.size t w2 := ⟨hx2.below, Nat.le_refl _, A, c, hx2.box, (HA0.out.below hb02).mono hb02.size⟩
            have hinv : waitsAt t i = true → waitsAt t j = true → FairInv C i j t 0 0 := fun h1 h2 => by
              obtain ⟨a, ha, hwa⟩ := waits_get h1
              obtain ⟨b, hb, hwb⟩ := waits_get h2
              obtain ⟨ta, tb⟩ := HC.out i a ha
              obtain ⟨ua, ub⟩ := HC.out j b hb
              exact FairInv.start Hval.out ha hb hwa hwb ta ua (fun y hy => by obtain ⟨k, hk⟩ := List.getElem?_of_mem hy; exact tb k y hk) (fun y hy => by obtain ⟨k, hk⟩ := List.getElem?_of_mem hy; exact ub k y hk)
            have Hinv := Lib.hid hinv
            clear hb02 hx2 x0 x1 x2 y0 y1 y2 HX HX1 HA0 Hb1 Hb2 HC hbx hgr hinv
            go_wp2
            go_loopg [10, 11, 12] calls.toNat (fun g va vb vn wr => ∃ (n : Nat) (tk : Tu) (si sj : Int), g + n = calls.toNat ∧ va = .int .i64 si ∧ vb = .int .i64 sj ∧ vn = .int .i64 (n : Nat) ∧ TBox w w.heap.size tk wr ∧ Valid tk ∧ Reach tk ∧ 0 ≤ si ∧ si ≤ n * 1048576 ∧ 0 ≤ sj ∧ sj ≤ n * 1048576 ∧ (waitsAt tk i = true → waitsAt tk j = true → FairInv C i j tk si sj))
            case atStart => exact ⟨0, t, 0, 0, by omega, rfl, rfl, rfl, H, Hval.out, hr, by omega, by omega, by omega, by omega, Hinv.out⟩
            case round =>
              obtain ⟨n, tk, si, sj, hn, rfl, rfl, rfl, hbox, hvk, hrk, hi0, hi1, hj0, hj1, hinv⟩ := hrel
              clear H Hv Hval Hinv
              obtain ⟨Ak, ck, hblk, htu⟩ := hbox.cells
              have k0 := hblk.cell 0
              have k1 := hblk.cell 1
              have k2 := hblk.cell 2
              simp at k0 k1 k2
              have hlt := hblk.lt
              have Hn := Lib.hid hn
              have Hbox := Lib.hid hbox
              have Hblk := Lib.hid hblk
              have Htu := Lib.hid htu
              have Hvk := Lib.hid hvk
              have Hrk := Lib.hid hrk
              have Hinv := Lib.hid hinv
              have Hi0 := Lib.hid hi0
              have Hi1 := Lib.hid hi1
              have Hj0 := Lib.hid hj0
              have Hj1 := Lib.hid hj1
              clear hn hbox hblk htu hvk hrk hinv hi0 hi1 hj0 hj1
              by_cases hnc : (n : Int) < calls
              · have hwi : ∀ w1, Below wr.heap.size wr w1 → Calls Try.prog 30 #[.agg #[.slice Ak tk.qs.length ck, .int .i64 tk.at_, .bool tk.fr], .int .i64 (i : Nat)] w1 fun e w' => e = .returned (.bool (waitsAt tk i)) ∧ Below w1.heap.size w1 w' := fun w1 hb => waiting_any _ tk i w1 wr.heap.size hb.size (Htu.out.below hb)
                have hwj : ∀ w1, Below wr.heap.size wr w1 → Calls Try.prog 30 #[.agg #[.slice Ak tk.qs.length ck, .int .i64 tk.at_, .bool tk.fr], .int .i64 (j : Nat)] w1 fun e w' => e = .returned (.bool (waitsAt tk j)) ∧ Below w1.heap.size w1 w' := fun w1 hb => waiting_any _ tk j w1 wr.heap.size hb.size (Htu.out.below hb)
                cases hwti : waitsAt tk i with
                | false =>
                  rw [hwti] at hwi
                  go_wp2_with (first
                    | (go_at_call 30; refine Calls.mono (hwi _ (Below.refl _ _)) ?_; rintro e w3 ⟨rfl, hb3⟩; have Hb3 := Lib.hid hb3; clear hb3)
                    | (go_at_call 28; refine Calls.mono (works_any _) ?_; rintro e w4 ⟨rfl, hb4⟩))
                  go_ret
                  have h1 := Hbox.out.below.trans (Hb3.out.mono Hbox.out.below.size)
                  exact ⟨rfl, h1.trans (hb4.mono h1.size)⟩
                | true =>
                  rw [hwti] at hwi
                  cases hwtj : waitsAt tk j with
                  | false =>
                    rw [hwtj] at hwj
                    go_wp2_with (first
                      | (go_at_call 30; refine Calls.mono (hwi _ (Below.refl _ _)) ?_; rintro e w3 ⟨rfl, hb3⟩; have hc3 := Hblk.out.below hb3 hlt; have m0 := hc3.cell 0; have m1 := hc3.cell 1; have m2 := hc3.cell 2; simp at m0 m1 m2; have Hb3 := Lib.hid hb3; clear hb3 hc3 hwi)
                      | (go_at_call 30; refine Calls.mono (hwj _ Hb3.out) ?_; rintro e w4 ⟨rfl, hb4⟩; have Hb4 := Lib.hid hb4; clear hb4)
                      | (go_at_call 28; refine Calls.mono (works_any _) ?_; rintro e w5 ⟨rfl, hb5⟩))
                    go_ret
                    have h1 := Hbox.out.below.trans (Hb3.out.mono Hbox.out.below.size)
                    have h2 := h1.trans (Hb4.out.mono h1.size)
                    exact ⟨rfl, h2.trans (hb5.mono h2.size)⟩
                  | true =>
                    rw [hwtj] at hwj
                    obtain ⟨a, ha, hwa⟩ := waits_get hwti
                    obtain ⟨b, hb, hwb⟩ := waits_get hwtj
                    have hF := Hinv.out hwti hwtj
                    have hlen0 : 0 < tk.qs.length := by have := (List.getElem?_eq_some_iff.1 ha).1; omega
                    have hil := (List.getElem?_eq_some_iff.1 ha).1
                    have hjl := (List.getElem?_eq_some_iff.1 hb).1
                    have hnx : ∀ w1, Below wr.heap.size wr w1 → Calls Try.prog 13 #[.agg #[.slice Ak tk.qs.length ck, .int .i64 tk.at_, .bool tk.fr]] w1 fun e w' => (∃ A' c' t' id cost, e = .returned (.tuple #[.agg #[.slice A' t'.qs.length c', .int .i64 t'.at_, .bool t'.fr], .int .i64 id, .int .i64 cost, .bool true]) ∧
                        TuNew w' w1.heap.size w'.heap.size (.agg #[.slice A' t'.qs.length c', .int .i64 t'.at_, .bool t'.fr]) t' ∧ ∃ f, Trn.go f tk = some (t', id, cost)) ∧ Below w1.heap.size w1 w' := fun w1 hb1 =>
                      next_waits _ tk w1 wr.heap.size hb1.size (Htu.out.below hb1) Hrk.out Hvk.out ⟨i, a, ha, hwa⟩
                    have Ha := Lib.hid ha
                    have Hb := Lib.hid hb
                    have HF := Lib.hid hF
                    clear ha hb hF hwa hwb hwti hwtj Hinv
                    go_upto_region 12 with (first
                      | (go_at_call 30; refine Calls.mono (hwi _ (Below.refl _ _)) ?_; rintro e w3 ⟨rfl, hb3⟩; have hc3 := Hblk.out.below hb3 hlt; have m0 := hc3.cell 0; have m1 := hc3.cell 1; have m2 := hc3.cell 2; simp at m0 m1 m2; have Hb3 := Lib.hid hb3; clear hb3 hc3 hwi)
                      | (go_at_call 30; refine Calls.mono (hwj _ Hb3.out) ?_; rintro e w4 ⟨rfl, hb4⟩; have hb34 := Hb3.out.trans (hb4.mono Hb3.out.size); have hc4 := Hblk.out.below hb34 hlt; have l0 := hc4.cell 0; have l1 := hc4.cell 1; have l2 := hc4.cell 2; simp at l0 l1 l2; have Hb4 := Lib.hid hb34; clear hb4 hb34 hc4)
                      | (go_at_call 13; refine Calls.mono (hnx _ Hb4.out) ?_; rintro e w5 ⟨⟨A', c', t', id, cost, rfl, hn5, f, hgo⟩, hb5⟩; have Hn5 := Lib.hid hn5; have Hgo := Lib.hid hgo; have Hb5 := Lib.hid hb5; clear hn5 hgo hb5))
                    have hb05 := Hb4.out.trans (Hb5.out.mono Hb4.out.size)
                    have hn6 := Hn5.out.alloc (.cells #[.slice A' t'.qs.length c', .int .i64 t'.at_, .bool t'.fr] 34)
                    have hb06 := hb05.alloc hb05.size (.cells #[.slice A' t'.qs.length c', .int .i64 t'.at_, .bool t'.fr] 34)
                    have hnb := Blk.new w5 34 #[.slice A' t'.qs.length c', .int .i64 t'.at_, .bool t'.fr]
                    have hsz5 := hb05.size
                    have hlo : wr.heap.size ≤ w4.heap.size := Hb4.out.size
                    generalize hW6 : World.alloc _ _ = w6
                    rw [hW6] at hn6 hb06 hnb
                    clear hW6 hb05 k0 k1 k2 m0 m1 m2 l0 l1 l2 Hn5 Hb5 Hb3 hwj hnx
                    generalize w5.heap.size = nb at *
                    have hne : ¬ nb = w.heap.size := by omega
                    have hne2 : ¬ w.heap.size = nb := by omega
                    have hb6 := Hblk.out.below hb06 hlt
                    have m0 := hb6.cell 0
                    have m1 := hb6.cell 1
                    have m2 := hb6.cell 2
                    simp at m0 m1 m2
                    have g0 := hb6.frozen 0
                    have g1 := hb6.frozen 1
                    have g2 := hb6.frozen 2
                    have n0 := hnb.cell 0
                    have n1 := hnb.cell 1
                    have n2 := hnb.cell 2
                    simp at n0 n1 n2
                    obtain ⟨qb, qo, hAk, hqb, hrow⟩ := (Htu.out.below hb06).qs hlen0
                    subst hAk
                    have a0 := (hrow i a Ha.out).1
                    have b0 := (hrow j b Hb.out).1
                    have hii : (i : Int) < tk.qs.length := by omega
                    have hji : (j : Int) < tk.qs.length := by omega
                    have hkeep := keeps_go f Hvk.out hlen0 Hgo.out
                    obtain ⟨hcost1, hcost2⟩ := cost_go f Hvk.out hlen0 Hgo.out
                    have hn10 : n ≤ 10000 := by omega
                    have hi0 := Hi0.out
                    have hi1 := Hi1.out
                    have hj0 := Hj0.out
                    have hj1 := Hj1.out
                    have hFg : waitsAt t' i = true → waitsAt t' j = true → FairInv C i j t' (si + if id = a.id then cost else 0) (sj + if id = b.id then cost else 0) := fun h1 h2 => by
                      obtain ⟨a', ha', hwa'⟩ := waits_get h1
                      obtain ⟨b', hb', hwb'⟩ := waits_get h2
                      exact FairInv.go hijn f Hvk.out HF.out Hgo.out Ha.out Hb.out ha' hwa' hb' hwb'
                    have hsi : 0 ≤ si + (if id = a.id then cost else 0) ∧ si + (if id = a.id then cost else 0) ≤ ((n + 1 : Nat) : Int) * 1048576 := by split <;> omega
                    have hsj : 0 ≤ sj + (if id = b.id then cost else 0) ∧ sj + (if id = b.id then cost else 0) ≤ ((n + 1 : Nat) : Int) * 1048576 := by split <;> omega
                    have wri : IntKind.i64.wrap (si + cost) = si + cost := by rw [IntKind.wrap_i64]; omega
                    have wrj : IntKind.i64.wrap (sj + cost) = sj + cost := by rw [IntKind.wrap_i64]; omega
                    obtain ⟨si', hsi'⟩ : ∃ x, x = si + (if id = a.id then cost else 0) := ⟨_, rfl⟩
                    obtain ⟨sj', hsj'⟩ : ∃ x, x = sj + (if id = b.id then cost else 0) := ⟨_, rfl⟩
                    rw [← hsi', ← hsj'] at hFg
                    rw [← hsi'] at hsi
                    rw [← hsj'] at hsj
                    have Hsi' := Lib.hid hsi'
                    have Hsj' := Lib.hid hsj'
                    have Hkeep := Lib.hid hkeep
                    have HFg := Lib.hid hFg
                    have Hsi := Lib.hid hsi
                    have Hsj := Lib.hid hsj
                    have Hn6 := Lib.hid hn6
                    have Hb06 := Lib.hid hb06
                    clear hsi' hsj' hkeep hFg hsi hsj hn6 hb06 hb6 hnb hrow hi0 hi1 hj0 hj1 HF Hi0 Hi1 Hj0 Hj1 hcost1 hcost2
                    go_upto_if 76 with fail
                    go_cut [10, 76] (fun s _ wx => s = .int .i64 si' ∧ w6 = wx)
                    case first =>
                      by_cases hid : id = a.id
                      · have hide : (id == a.id) = true := (by simp [hid]); have hid := Lib.hid hid
                        go_wp2
                        go_meet
                        case rel => exact ⟨by rw [Hsi'.out, if_pos hid.out], rfl⟩
                      · have hide : (id == a.id) = false := (by simp [hid]); have hid := Lib.hid hid
                        go_wp2
                        go_meet
                        case rel => exact ⟨by rw [Hsi'.out, if_neg hid.out, Int.add_zero], rfl⟩
                    case rest =>
                      obtain ⟨rfl, rfl⟩ := hcut
                      go_upto_if 87 with fail
                      go_cut [11, 87] (fun s _ wx => s = .int .i64 sj' ∧ w6 = wx)
                      case first =>
                        by_cases hid : id = b.id
                        · have hide : (id == b.id) = true := (by simp [hid]); have hid := Lib.hid hid
                          go_wp2
                          go_meet
                          case rel => exact ⟨by rw [Hsj'.out, if_pos hid.out], rfl⟩
                        · have hide : (id == b.id) = false := (by simp [hid]); have hid := Lib.hid hid
                          go_wp2
                          go_meet
                          case rel => exact ⟨by rw [Hsj'.out, if_neg hid.out, Int.add_zero], rfl⟩
                      case rest =>
                        obtain ⟨rfl, rfl⟩ := hcut
                        clear wri wrj a0 b0
                        go_upto_region 19 with fail
                        have H8 := Hbox.out.next Hb06.out (Hn6.out.low Hb4.out.size)
                        generalize hW8 : World.setCell (World.setCell (World.setCell w6 _ _) _ _) _ _ = w8 at *
                        have Hkr := Lib.hid (Hkeep.out.reach Hrk.out)
                        clear hW8 n0 n1 n2 m0 m1 m2 g0 g1 g2 hne hne2 hqb hlen0 hil hjl hii hji Hblk Htu Hbox Hvk Hrk Hgo Hn6 Hb06 Hb4 Ha Hb hsz5 hlo hlt
                        clear Hsi' Hsj'
                        clear w6
                        obtain ⟨A8, c8, hb8, ht8⟩ := H8.cells
                        have k0 := hb8.cell 0
                        have k1 := hb8.cell 1
                        have k2 := hb8.cell 2
                        simp at k0 k1 k2
                        have hlt := hb8.lt
                        have HB8 := Lib.hid hb8
                        have HT8 := Lib.hid ht8
                        have HH8 := Lib.hid H8
                        clear hb8 ht8 H8
                        have hwi : ∀ w1, Below w8.heap.size w8 w1 → Calls Try.prog 30 #[.agg #[.slice A8 t'.qs.length c8, .int .i64 t'.at_, .bool t'.fr], .int .i64 (i : Nat)] w1 fun e w' => e = .returned (.bool (waitsAt t' i)) ∧ Below w1.heap.size w1 w' := fun w1 hb => waiting_any _ t' i w1 w8.heap.size hb.size (HT8.out.below hb)
                        have hwj : ∀ w1, Below w8.heap.size w8 w1 → Calls Try.prog 30 #[.agg #[.slice A8 t'.qs.length c8, .int .i64 t'.at_, .bool t'.fr], .int .i64 (j : Nat)] w1 fun e w' => e = .returned (.bool (waitsAt t' j)) ∧ Below w1.heap.size w1 w' := fun w1 hb => waiting_any _ t' j w1 w8.heap.size hb.size (HT8.out.below hb)
                        cases hwti : waitsAt t' i with
                        | false =>
                          rw [hwti] at hwi
                          go_wp2_with (go_at_call 30; refine Calls.mono (hwi _ (Below.refl _ _)) ?_; rintro e w9 ⟨rfl, hb9⟩; have Hb9 := Lib.hid hb9; clear hb9)
                          go_ret
                          exact ⟨rfl, HH8.out.below.trans (Hb9.out.mono HH8.out.below.size)⟩
                        | true =>
                          rw [hwti] at hwi
                          cases hwtj : waitsAt t' j with
                          | false =>
                            rw [hwtj] at hwj
                            go_wp2_with (first
                              | (go_at_call 30; refine Calls.mono (hwi _ (Below.refl _ _)) ?_; rintro e w9 ⟨rfl, hb9⟩; have hc9 := HB8.out.below hb9 hlt; have m0 := hc9.cell 0; have m1 := hc9.cell 1; have m2 := hc9.cell 2; simp at m0 m1 m2; have Hb9 := Lib.hid hb9; clear hb9 hc9 hwi)
                              | (go_at_call 30; refine Calls.mono (hwj _ Hb9.out) ?_; rintro e w10 ⟨rfl, hb10⟩; have Hb10 := Lib.hid hb10; clear hb10))
                            go_ret
                            have h1 := HH8.out.below.trans (Hb9.out.mono HH8.out.below.size)
                            exact ⟨rfl, h1.trans (Hb10.out.mono h1.size)⟩
                          | true =>
                            rw [hwtj] at hwj
                            obtain ⟨a', ha', hwa'⟩ := waits_get hwti
                            obtain ⟨b', hb', hwb'⟩ := waits_get hwtj
                            have hFI := HFg.out hwti hwtj
                            have hval' := Hkeep.out.valid
                            have hbnd := hFI.bound hval' ha' hb'
                            obtain ⟨_, p0, p1, _⟩ := hval'.qs i a' ha'
                            obtain ⟨_, q0, q1, _⟩ := hval'.qs j b' hb'
                            have hil := (List.getElem?_eq_some_iff.1 ha').1
                            have hjl := (List.getElem?_eq_some_iff.1 hb').1
                            obtain ⟨r1, r2, r3, r4⟩ := fair_reach (n := n + 1) (by omega) Hsi.out.1 Hsi.out.2 Hsj.out.1 Hsj.out.2 p0 p1 q0 q1 hC0 hC1
                            have e1 : IntKind.i64.wrap (si' * b'.qu) = si' * b'.qu := by rw [IntKind.wrap_i64]; omega
                            have e2 : IntKind.i64.wrap (sj' * a'.qu) = sj' * a'.qu := by rw [IntKind.wrap_i64]; omega
                            have e3 : IntKind.i64.wrap (si' * b'.qu - sj' * a'.qu) = si' * b'.qu - sj' * a'.qu := by rw [IntKind.wrap_i64]; omega
                            have e4 : IntKind.i64.wrap (3 * a'.qu) = 3 * a'.qu := by rw [IntKind.wrap_i64]; omega
                            have e5 : IntKind.i64.wrap (3 * a'.qu * b'.qu) = 3 * a'.qu * b'.qu := by rw [IntKind.wrap_i64]; omega
                            have e6 : IntKind.i64.wrap (a'.qu + b'.qu) = a'.qu + b'.qu := by rw [IntKind.wrap_i64]; omega
                            have e7 : IntKind.i64.wrap (C * (a'.qu + b'.qu)) = C * (a'.qu + b'.qu) := by rw [IntKind.wrap_i64]; omega
                            have e8 : IntKind.i64.wrap (3 * a'.qu * b'.qu + C * (a'.qu + b'.qu)) = 3 * a'.qu * b'.qu + C * (a'.qu + b'.qu) := by rw [IntKind.wrap_i64]; omega
                            have e9 : IntKind.i64.wrap (-(3 * a'.qu * b'.qu + C * (a'.qu + b'.qu))) = -(3 * a'.qu * b'.qu + C * (a'.qu + b'.qu)) := by rw [IntKind.wrap_i64]; omega
                            generalize hOff : si' * b'.qu - sj' * a'.qu = off at *
                            generalize hBd : 3 * a'.qu * b'.qu + C * (a'.qu + b'.qu) = bd at *
                            have f1 : ¬ off > bd := by omega
                            have f2 : ¬ off < -bd := by omega
                            have hii : (i : Int) < t'.qs.length := by omega
                            have hji : (j : Int) < t'.qs.length := by omega
                            have HFI := Lib.hid hFI
                            have Ha' := Lib.hid ha'
                            have Hb' := Lib.hid hb'
                            clear hbnd r1 r2 r3 r4 p0 p1 q0 q1 hval' ha' hb' hFI hwa' hwb'
                            go_upto_region 21 with (first
                              | (go_at_call 30; refine Calls.mono (hwi _ (Below.refl _ _)) ?_; rintro e w9 ⟨rfl, hb9⟩; have hc9 := HB8.out.below hb9 hlt; have m0 := hc9.cell 0; have m1 := hc9.cell 1; have m2 := hc9.cell 2; simp at m0 m1 m2; have Hb9 := Lib.hid hb9; clear hb9 hc9 hwi)
                              | (go_at_call 30; refine Calls.mono (hwj _ Hb9.out) ?_; rintro e w10 ⟨rfl, hb10⟩; have hb80 := Hb9.out.trans (hb10.mono Hb9.out.size); have Hb80 := Lib.hid hb80; clear hb10 hb80))
                            clear k0 k1 k2 m0 m1 m2 hwj Hb9
                            have hc10 := HB8.out.below Hb80.out hlt
                            have k0 := hc10.cell 0
                            simp at k0
                            have hl0 : 0 < t'.qs.length := by omega
                            obtain ⟨qb, qo, hAk, hqb, hrow⟩ := (HT8.out.below Hb80.out).qs hl0
                            subst hAk
                            have a0 := (hrow i a' Ha'.out).2.1
                            have b0 := (hrow j b' Hb'.out).2.1
                            have H10 : TBox w w.heap.size t' w10 := ⟨HH8.out.below.trans (Hb80.out.mono HH8.out.below.size), Nat.le_refl _, _, _, hc10, (HT8.out.below Hb80.out).mono Hb80.out.size⟩
                            have H10 := Lib.hid H10
                            clear hc10 hrow
                            go_wp2
                            go_roundg (gk - 1)
                            case measure => have := Hn.out; omega
                            case rel => exact ⟨n + 1, t', si', sj', by have := Hn.out; omega, rfl, rfl, by go_num, H10.out, Hkeep.out.valid, Hkr.out, Hsi.out.1, Hsi.out.2, Hsj.out.1, Hsj.out.2, fun _ _ => HFI.out⟩
              · go_wp2_with (go_at_call 28; refine Calls.mono (works_any _) ?_; rintro e w2 ⟨rfl, hb2⟩)
                go_ret
                exact ⟨rfl, Hbox.out.below.trans (hb2.mono Hbox.out.below.size)⟩
  · have hck2 : (chk t != 0) = true := by simp [hck]
    go_enter Try.func7, Try.ntmps7
    go_upto_region 1 with fail
    have hx := Boxed.start w A t.qs.length c t.at_ t.fr
    generalize hW0 : World.alloc w _ = W0
    rw [hW0] at hx
    have hA0 : TuAt W0 W0.heap.size (.agg #[.slice A t.qs.length c, .int .i64 t.at_, .bool t.fr]) t := (Hv.out.below (hx.below.mono hB)).mono (by have := hx.below.size; omega)
    clear hW0
    obtain ⟨x0, x1, x2⟩ := hx.cells
    have HX := Lib.hid hx
    have HA0 := Lib.hid hA0
    clear hx hA0
    go_wp2_with (first
      | (go_at_call 20; refine Calls.mono (hbx _ HX.out.below) ?_; rintro e w1 ⟨rfl, hb1⟩; have Hb1 := Lib.hid hb1; clear hb1)
      | (go_at_call 28; refine Calls.mono (works_any _) ?_; rintro e w2 ⟨rfl, hb2⟩))
    go_ret
    have h1 := HX.out.below.trans (Hb1.out.mono HX.out.below.size)
    exact ⟨rfl, h1.trans (hb2.mono h1.size)⟩
end Go.Proofs.Ytgbjhkgbjnobcaa
