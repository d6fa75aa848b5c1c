/- How turns lie in memory: readings that hold as long as no old block is written. Conditions: none. -/
import Derived.Test.YtgbjhkgbjnobcaaTurnsPlain
import Derived.Test.YtgbjhkgbjnobcaaClassLaw
import Derived.Deep.DeepCutAuto
import Derived.Deep.RegionHeld3
namespace Go.Proofs.Ytgbjhkgbjnobcaa
open Go.RowKit Trn

/-- Integers behind an address, below block B. -/
def IntsAt (w : World) (B : Nat) (A : Option Addr) (xs : List Int) : Prop :=
  0 < xs.length → ∃ b o, A = some ⟨b, o, none⟩ ∧ b < B ∧ ∀ i x, xs[i]? = some x → w.cell? ⟨b, o + i, none⟩ = some (.int .i64 x)
/-- A queue's four cells. -/
def QuAt (w : World) (B : Nat) (b o : Nat) (q : Qu) : Prop :=
  w.cell? ⟨b, o, none⟩ = some (.int .i64 q.id) ∧ w.cell? ⟨b, o + 1, none⟩ = some (.int .i64 q.qu) ∧ w.cell? ⟨b, o + 2, none⟩ = some (.int .i64 q.de) ∧
  ∃ A c, w.cell? ⟨b, o + 3, none⟩ = some (.slice A q.cs.length c) ∧ q.cs.length ≤ c ∧ c ≤ maxLen ∧ IntsAt w B A q.cs
def QsAt (w : World) (B : Nat) (A : Option Addr) (qs : List Qu) : Prop :=
  0 < qs.length → ∃ b o, A = some ⟨b, o, none⟩ ∧ b < B ∧ ∀ i q, qs[i]? = some q → QuAt w B b (o + i * 4) q
/-- Turns, as a value over memory below block B. -/
def TuAt (w : World) (B : Nat) (v : Value) (t : Tu) : Prop :=
  ∃ A c, v = .agg #[.slice A t.qs.length c, .int .i64 t.at_, .bool t.fr] ∧ t.qs.length ≤ c ∧ c ≤ maxLen ∧ QsAt w B A t.qs

section
variable {w w' : World} {B B' : Nat}
theorem IntsAt.below {A : Option Addr} {xs : List Int} (h : IntsAt w B A xs) (hb : Below B w w') : IntsAt w' B A xs := fun h0 => by
  obtain ⟨b, o, e, hlt, hc⟩ := h h0
  exact ⟨b, o, e, hlt, fun i x hx => (hb.cell (p := ⟨b, o + i, none⟩) hlt).trans (hc i x hx)⟩
theorem IntsAt.mono {A : Option Addr} {xs : List Int} (h : IntsAt w B A xs) (hB : B ≤ B') : IntsAt w B' A xs := fun h0 => by
  obtain ⟨b, o, e, hlt, hc⟩ := h h0
  exact ⟨b, o, e, by omega, hc⟩
theorem QuAt.below {b o : Nat} {q : Qu} (h : QuAt w B b o q) (hlt : b < B) (hb : Below B w w') : QuAt w' B b o q := by
  obtain ⟨h0, h1, h2, A, c, h3, hc, hm, hi⟩ := h
  exact ⟨(hb.cell (p := ⟨b, o, none⟩) hlt).trans h0, (hb.cell (p := ⟨b, o + 1, none⟩) hlt).trans h1, (hb.cell (p := ⟨b, o + 2, none⟩) hlt).trans h2, A, c,
    (hb.cell (p := ⟨b, o + 3, none⟩) hlt).trans h3, hc, hm, hi.below hb⟩
theorem QuAt.mono {b o : Nat} {q : Qu} (h : QuAt w B b o q) (hB : B ≤ B') : QuAt w B' b o q := by
  obtain ⟨h0, h1, h2, A, c, h3, hc, hm, hi⟩ := h
  exact ⟨h0, h1, h2, A, c, h3, hc, hm, hi.mono hB⟩
theorem QsAt.below {A : Option Addr} {qs : List Qu} (h : QsAt w B A qs) (hb : Below B w w') : QsAt w' B A qs := fun h0 => by
  obtain ⟨b, o, e, hlt, hc⟩ := h h0
  exact ⟨b, o, e, hlt, fun i q hq => (hc i q hq).below hlt hb⟩
theorem QsAt.mono {A : Option Addr} {qs : List Qu} (h : QsAt w B A qs) (hB : B ≤ B') : QsAt w B' A qs := fun h0 => by
  obtain ⟨b, o, e, hlt, hc⟩ := h h0
  exact ⟨b, o, e, by omega, fun i q hq => (hc i q hq).mono hB⟩
theorem TuAt.below {v : Value} {t : Tu} (h : TuAt w B v t) (hb : Below B w w') : TuAt w' B v t := by
  obtain ⟨A, c, e, h1, h2, h3⟩ := h
  exact ⟨A, c, e, h1, h2, h3.below hb⟩
theorem TuAt.mono {v : Value} {t : Tu} (h : TuAt w B v t) (hB : B ≤ B') : TuAt w B' v t := by
  obtain ⟨A, c, e, h1, h2, h3⟩ := h
  exact ⟨A, c, e, h1, h2, h3.mono hB⟩
/-- Queue i, where there is one. -/
theorem QsAt.at_ {A : Option Addr} {qs : List Qu} (h : QsAt w B A qs) {i : Nat} (hi : i < qs.length) : ∃ b o q, A = some ⟨b, o, none⟩ ∧ b < B ∧ qs[i]? = some q ∧ QuAt w B b (o + i * 4) q := by
  obtain ⟨b, o, e, hlt, hc⟩ := h (by omega)
  exact ⟨b, o, qs[i], e, hlt, List.getElem?_eq_getElem hi, hc i _ (List.getElem?_eq_getElem hi)⟩
theorem IntsAt.at_ {A : Option Addr} {xs : List Int} (h : IntsAt w B A xs) {i : Nat} (hi : i < xs.length) : ∃ b o x, A = some ⟨b, o, none⟩ ∧ b < B ∧ xs[i]? = some x ∧ w.cell? ⟨b, o + i, none⟩ = some (.int .i64 x) := by
  obtain ⟨b, o, e, hlt, hc⟩ := h (by omega)
  exact ⟨b, o, xs[i], e, hlt, List.getElem?_eq_getElem hi, hc i _ (List.getElem?_eq_getElem hi)⟩
end

/-- Is v from lo to hi? -/
def inB (v lo hi : Int) : Bool := decide (lo ≤ v ∧ v ≤ hi)
theorem inB_yes {v lo hi : Int} (h : lo ≤ v ∧ v ≤ hi) : inB v lo hi = true := by simpa [inB] using h
theorem inB_no {v lo hi : Int} (h : ¬ (lo ≤ v ∧ v ≤ hi)) : inB v lo hi = false := by simpa [inB] using h
theorem within_any (v lo hi : Int) (w : World) : Calls Try.prog 38 #[.int .i64 v, .int .i64 lo, .int .i64 hi] w fun e w' => e = .returned (.bool (inB v lo hi)) ∧ w = w' := by
  by_cases h : lo ≤ v
  · by_cases h2 : v ≤ hi
    · rw [inB_yes ⟨h, h2⟩]
      go_enter Try.func38, Try.ntmps38
      go_wp2
      go_ret
      exact ⟨rfl, rfl⟩
    · rw [inB_no (by omega)]
      go_enter Try.func38, Try.ntmps38
      go_wp2
      go_ret
      exact ⟨by simp, rfl⟩
  · rw [inB_no (by omega)]
    go_enter Try.func38, Try.ntmps38
    go_wp2
    go_ret
    exact ⟨rfl, rfl⟩
end Go.Proofs.Ytgbjhkgbjnobcaa
