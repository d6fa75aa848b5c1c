/- The walk of 'StreamFeeds' for whatever is handed in. Conditions: none. -/
import Derived.Test.YtkllgmhfjibajaaFeedsLaw
import Derived.Test.YtkllgmhfjibajaaUntold
import Derived.Test.YtkllgmhfjibajaaArgs
namespace Go.Proofs.Ytkllgmhfjibajaa
open Go.ChangeShapes Go.WideShapes Go.RowKit Ar St
theorem bytes5' : Try.prog.bytesOf 5 = 1 := by kernel_rfl
theorem bytes22' : Try.prog.bytesOf 22 = 24 := by kernel_rfl
theorem lenD_weight {H : Type} (d : DataW H) (hw : ∀ n ∈ d.weights Try.prog 22, n ≤ reachBytes) : lenD d ≤ 140737488355328 := by
  cases d with
  | slice e s =>
    have := hw ((e.length + s.length) * Try.prog.bytesOf 5) (by simp [DataW.weights, Try.underlying22])
    rw [bytes5'] at this
    simp only [reachBytes, Nat.mul_one] at this
    show e.length ≤ _
    omega
  | lit l => exact Nat.zero_le _
  | nil => exact Nat.zero_le _
  | ptr d => exact Nat.zero_le _
  | agg parts => exact Nat.zero_le _
  | iface t d => exact Nat.zero_le _
  | map entries => exact Nat.zero_le _
  | held h => exact Nat.zero_le _
theorem weightsAll_mem {H : Type} (P : Program) (e : TypeId) : ∀ (L : List (DataW H)) (d : DataW H) (n : Nat), d ∈ L → n ∈ d.weights P e → n ∈ DataW.weightsAll P e L
  | [], _, _, h, _ => by cases h
  | d' :: L, d, n, h, hn => by
    simp only [DataW.weightsAll]
    rcases List.mem_cons.1 h with rfl | h
    · exact List.mem_append_left _ hn
    · exact List.mem_append_right _ (weightsAll_mem P e L d n h hn)
theorem cells22' : Try.prog.cellsOf 22 = 1 := by kernel_rfl
/-- Lists of bytes. -/
theorem open_bss3 {H : Type} {enc : TypeId × Value → H} {w : World} {base : Nat} {spare : Nat → Bool} {held : Bool} {fuel : Nat} {cs : List Value} {x : DataW H × List MemPlace} (h : DataW.trod enc Try.prog w base spare held fuel 28 cs = some x) (hw : ∀ n ∈ x.1.weights Try.prog 28, n ≤ reachBytes) :
    ∃ A l c, cs = [.slice A (List.length l) c] ∧ l.length ≤ c ∧ c ≤ maxLen ∧ Rows3 w A l ∧ l.length ≤ 140737488355328 ∧ ∀ p ∈ l, p.1.length ≤ 140737488355328 := by
  rcases Go.Deep.open_slice1 Try.underlying28 cells22' h with ⟨rfl, hx⟩ | ⟨a, len, cap, m, n, V, D, Pl, rfl, hb, hl, hm, hmm, hx, hi⟩
  · exact ⟨none, [], 0, rfl, Nat.zero_le _, Nat.zero_le _, ⟨⟨fun h => absurd h (by simp), (fun p hp => by cases hp), (fun p hp => by cases hp)⟩, fun p hp => by cases hp⟩, by simp, fun p hp => by cases hp⟩
  · have hle : len ≤ m := by rw [hmm]; split <;> omega
    have hch : ∀ i, i < len → ∃ p : BV, w.cell? (a.add i) = some p.2 ∧ Sl w p.2 p.1 ∧ Byt p.1 ∧ p.1.length = lenD (D i) ∧ ∀ n c, p.2 = .slice none n c → c = 0 := fun i hi' => by
      obtain ⟨h1, h2⟩ := hi i (by omega)
      obtain ⟨A, xs, c, e, k1, k2, k3, k4, k5, k6⟩ := open_bytes h2
      have e' := (List.cons.inj e).1
      refine ⟨(xs, V i), h1, ⟨A, c, e', k1, k2, k4⟩, k5, k6, fun n c' e2 => ?_⟩
      have e3 : Value.slice A xs.length c = .slice none n c' := e'.symm.trans e2
      injection e3 with e4 _ e5
      rw [← e5]
      exact k3 e4
    obtain ⟨F, hF⟩ := Go.Deep.choose_lt hch
    refine ⟨some a, (List.range len).map F, cap, by simp, by simpa using hl, hm, ⟨⟨fun h0 => ?_, fun p hp => ?_, fun p hp => ?_⟩, fun p hp => ?_⟩, ?_, fun p hp => ?_⟩
    · have h0' : 0 < len := by simpa using h0
      have hc0 := (hF 0 h0').1
      obtain ⟨b, o, spot⟩ := a
      have hspot : spot = none := by simpa [Addr.add] using World.cell?_spot hc0
      subst hspot
      have hlt : b < w.heap.size := by
        have := World.block_lt_of_cell? w _ hc0
        simpa [Addr.add] using this
      refine ⟨b, o, rfl, hlt, fun i p hp => ?_⟩
      have hi' : i < len := by have := (List.getElem?_eq_some_iff.1 hp).1; simpa using this
      have e : F i = p := by simpa [List.getElem?_map, List.getElem?_range hi'] using hp
      have := (hF i hi').1
      rw [Go.WideShapes.add_plain, e] at this
      exact this
    · obtain ⟨i, hi', rfl⟩ := List.mem_map.1 hp
      exact (hF i (List.mem_range.1 hi')).2.1
    · obtain ⟨i, hi', rfl⟩ := List.mem_map.1 hp
      exact (hF i (List.mem_range.1 hi')).2.2.1
    · obtain ⟨i, hi', rfl⟩ := List.mem_map.1 hp
      exact (hF i (List.mem_range.1 hi')).2.2.2.2
    · have := hw ((((List.range len).map D).length + ((List.range (m - len)).map fun j => D (len + j)).length) * Try.prog.bytesOf 22) (by rw [hx]; simp [DataW.weights, Try.underlying28])
      rw [bytes22'] at this
      simp only [reachBytes, List.length_map, List.length_range] at this ⊢
      omega
    · obtain ⟨i, hi', rfl⟩ := List.mem_map.1 hp
      rw [(hF i (List.mem_range.1 hi')).2.2.2.1]
      refine lenD_weight _ fun n hn => hw n ?_
      rw [hx]
      simp only [DataW.weights, Try.underlying28]
      exact List.mem_cons_of_mem _ (List.mem_append_left _ (weightsAll_mem _ _ _ _ _ (List.mem_map.2 ⟨i, hi', rfl⟩) hn))
set_option maxRecDepth 100000 in
theorem feeds_walk {H : Type} (enc : TypeId × Value → H) (W : World) (base : Nat) (args : Array Value) (ds gs : List (DataW H)) (before : List MemPlace)
    (hval : ∀ (j : Nat) t v, Try.f4.params[j]? = some t → args[j]? = some v → Value.okWide Try.prog W .any base t v)
    (hW : DataW.Whole enc Try.prog Try.f4.params.toList Rows.streamFeedsSpec.vars false W args.toList ds gs before)
    (hsz : (DataW.weightsEach Try.prog (Try.f4.params.toList ++ Rows.streamFeedsSpec.plain.varTypes Try.prog) (ds ++ gs)).all (· ≤ reachBytes) = true) :
    Calls Try.prog 4 args W fun e W' => e = .returned (.bool true) ∧ Below W.heap.size W W' := by
  obtain ⟨p, q, hA0, hV, rfl, hfz, hnd⟩ := hW
  have hA : DataW.TrodAll enc Try.prog W 0 (fun _ => true) true Try.f4.params.toList args.toList ds p := hA0
  rw [Try.params4] at hA hval hsz
  obtain ⟨v0, vs0, d0, ds0, p0, q0, hargs, rfl, rfl, h0, r0⟩ := trodAll_cons hA
  obtain ⟨v1, vs1, d1, ds1, p1, q1, rfl, rfl, rfl, h1, r1⟩ := trodAll_cons r0
  obtain ⟨rfl, rfl, rfl⟩ := trodAll_nil r1
  obtain rfl : args = #[v0, v1] := by cases args; simp_all
  have hw1 : ∀ n ∈ d1.weights Try.prog 28, n ≤ reachBytes := fun n hn => by
    have hm : n ∈ DataW.weightsEach Try.prog ([3, 28] ++ Rows.streamFeedsSpec.plain.varTypes Try.prog) ([d0, d1] ++ gs) := DataW.weights_mem_each (ts := [3, 28] ++ Rows.streamFeedsSpec.plain.varTypes Try.prog) (ds := [d0, d1] ++ gs) (j := 1) rfl rfl n hn
    exact of_decide_eq_true (List.all_eq_true.1 hsz n hm)
  obtain ⟨f1, hf1⟩ := h1
  obtain ⟨A1, l1, c1, e1, a1, a2, a3, a4, a5⟩ := open_bss3 hf1 hw1
  obtain ⟨lim, rfl⟩ := okWide_int Try.underlying3 (hval 0 3 v0 rfl rfl)
  obtain ⟨A1', n1', c1', rfl⟩ := okWide_slice Try.underlying28 (hval 1 28 v1 rfl rfl)
  simp only [Value.cells, List.cons.injEq, and_true] at e1
  rw [e1]
  exact feeds_all lim A1 l1 c1 W a3 a4 a5 (fun hbey wx hb => untold_any lim A1 l1 c1 wx (a3.below hb) hbey)
end Go.Proofs.Ytkllgmhfjibajaa
