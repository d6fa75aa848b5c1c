/- Lists of tries; a table far from another's change. Conditions: none. -/
import Derived.Test.YtmcahimapoddfaaSlices
import Derived.Test.YtmcahimapoddfaaNote
import Derived.Test.YtmcahimapoddfaaCopy
namespace Go.Proofs.Ytmcahimapoddfaa
open Go.RowKit Go.Maps

structure Ty where
  pid : Int
  seq : Int
/-- v is a slice of the tries ts. -/
def TS (w : World) (v : Value) (ts : List Ty) : Prop := ∃ A c, v = .slice A ts.length c ∧ ts.length ≤ c ∧ c ≤ maxLen ∧ (A = none → ts.length = 0 ∧ c = 0) ∧
  (0 < ts.length → ∃ b o, A = some ⟨b, o, none⟩ ∧ b < w.heap.size ∧ ∀ i x, ts[i]? = some x → w.cell? ⟨b, o + i * 2, none⟩ = some (.int .i64 x.pid) ∧ w.cell? ⟨b, o + i * 2 + 1, none⟩ = some (.int .i64 x.seq))
section
variable {w w' : World} {v u : Value} {ps qs : List Pr} {ts : List Ty}
theorem TS.below (h : TS w v ts) (hb : Below w.heap.size w w') : TS w' v ts := by
  obtain ⟨A, c, e, h1, h2, h3, h4⟩ := h
  refine ⟨A, c, e, h1, h2, h3, fun h0 => ?_⟩
  obtain ⟨b, o, e', hlt, hc⟩ := h4 h0
  exact ⟨b, o, e', by have := hb.size; omega, fun i x hx => ⟨(hb.cell (p := ⟨b, _, none⟩) hlt).trans (hc i x hx).1, (hb.cell (p := ⟨b, _, none⟩) hlt).trans (hc i x hx).2⟩⟩
theorem TabAt.drew {B b m : Nat} {l : List Pr} (h : TabAt w B b m l) : TabAt w.drew B b m l := ⟨h.cell.drew, h.tab.drew, h.lb, h.lm, h.ne⟩
theorem TabAt.mono {B B' b m : Nat} {l : List Pr} (h : TabAt w B b m l) (hB : B' ≤ B) : TabAt w B' b m l := ⟨h.cell, h.tab, Nat.le_trans hB h.lb, Nat.le_trans hB h.lm, h.ne⟩
theorem TabAt.far {B b m m' : Nat} {l : List Pr} (h : TabAt w B b m l) (hg : w.grownBy w' (some m')) (h1 : b ≠ m') (h2 : m ≠ m') : TabAt w' B b m l :=
  ⟨h.cell.grown hg (by intro e; injection e with e; exact h1 e), h.tab.kept hg (by intro e; injection e with e; exact h2 e), h.lb, h.lm, h.ne⟩
theorem newS_ok (hp : PS w v ps) (hn : NewOk ps) : Calls Try.prog 23 #[v] w fun e w' =>
    e = .returned (.tuple #[.pointer (some ⟨w.heap.size + 1, 0, none⟩), .int .i64 0]) ∧ TabAt w' w.heap.size (w.heap.size + 1) w.heap.size ps ∧ Below w.heap.size w w' := by
  obtain ⟨A, c, rfl, h1, h2, h3, h4⟩ := hp
  refine (new_any A ps c w _ (Nat.le_refl _) ⟨h1, h2⟩ h4).mono ?_
  rintro e w' ⟨hb, ⟨_, he, ht⟩ | ⟨hno, _⟩⟩
  · exact ⟨he, ht, hb⟩
  · exact absurd hn hno
theorem newS_no (hp : PS w v ps) (hn : ¬ NewOk ps) : Calls Try.prog 23 #[v] w fun e w' =>
    e = .returned (.tuple #[.pointer none, .int .i64 92]) ∧ Below w.heap.size w w' := by
  obtain ⟨A, c, rfl, h1, h2, h3, h4⟩ := hp
  refine (new_any A ps c w _ (Nat.le_refl _) ⟨h1, h2⟩ h4).mono ?_
  rintro e w' ⟨hb, ⟨hno, _⟩ | ⟨_, he⟩⟩
  · exact absurd hno hn
  · exact ⟨he, hb⟩
end
end Go.Proofs.Ytmcahimapoddfaa
