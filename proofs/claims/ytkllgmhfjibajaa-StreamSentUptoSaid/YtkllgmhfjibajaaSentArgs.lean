/- The walk of 'StreamSent' for whatever is handed in, of bulk at most 1048576. Conditions: that bound. -/
import Derived.Test.YtkllgmhfjibajaaSentLaw
import Derived.Test.YtkllgmhfjibajaaArgs
namespace Go.Proofs.Ytkllgmhfjibajaa
open Go.ChangeShapes Go.WideShapes Go.RowKit Ar St
theorem tot_bulk {H : Type} (F : Nat → BV) (D : Nat → DataW H) : ∀ L : List Nat, (∀ i ∈ L, (F i).1.length = lenD (D i)) → tot ((L.map F).map (·.1)) ≤ 10 * Rows.uptoBulkAll (L.map D)
  | [], _ => by simp [tot]
  | i :: L, h => by
    have h1 := tot_bulk F D L (fun j hj => h j (List.mem_cons_of_mem _ hj))
    have h2 := h i List.mem_cons_self
    have h3 := lenD_le (D i)
    have h4 := bulks.one_le (D i)
    simp only [List.map_cons, tot, Rows.uptoBulkAll]
    omega
theorem cells22 : Try.prog.cellsOf 22 = 1 := by kernel_rfl
/-- Lists of bytes. -/
theorem open_bss {H : Type} {enc : TypeId × Value → H} {w : World} {base : Nat} {spare : Nat → Bool} {held : Bool} {fuel : Nat} {cs : List Value} {x : DataW H × List MemPlace} (h : DataW.trod enc Try.prog w base spare held fuel 28 cs = some x) :
    ∃ A l c, cs = [.slice A (List.length l) c] ∧ l.length ≤ c ∧ c ≤ maxLen ∧ Rows2 w A l ∧ tot (l.map (·.1)) ≤ 10 * Rows.uptoBulk x.1 := by
  rcases Go.Deep.open_slice1 Try.underlying28 cells22 h with ⟨rfl, hx⟩ | ⟨a, len, cap, m, n, V, D, Pl, rfl, hb, hl, hm, hmm, hx, hi⟩
  · exact ⟨none, [], 0, rfl, Nat.zero_le _, Nat.zero_le _, ⟨fun h => absurd h (by simp), (fun p hp => by cases hp), (fun p hp => by cases hp)⟩, by simp [tot]⟩
  · have hle : len ≤ m := by rw [hmm]; split <;> omega
    have hch : ∀ i, i < len → ∃ p : BV, w.cell? (a.add i) = some p.2 ∧ Sl w p.2 p.1 ∧ Byt p.1 ∧ p.1.length = lenD (D i) := fun i hi' => by
      obtain ⟨h1, h2⟩ := hi i (by omega)
      obtain ⟨A, xs, c, e, k1, k2, k3, k4, k5, k6⟩ := open_bytes h2
      have e' := (List.cons.inj e).1
      exact ⟨(xs, V i), h1, ⟨A, c, e', k1, k2, k4⟩, k5, k6⟩
    obtain ⟨F, hF⟩ := Go.Deep.choose_lt hch
    refine ⟨some a, (List.range len).map F, cap, by simp, by simpa using hl, hm, ⟨fun h0 => ?_, fun p hp => ?_, fun p hp => ?_⟩, ?_⟩
    · have h0' : 0 < len := by simpa using h0
      have hc0 := (hF 0 h0').1
      obtain ⟨b, o, spot⟩ := a
      have hspot : spot = none := by simpa [Addr.add] using World.cell?_spot hc0
      subst hspot
      have hlt : b < w.heap.size := by
        have := World.block_lt_of_cell? w _ hc0
        simpa [Addr.add] using this
      refine ⟨b, o, rfl, hlt, fun i p hp => ?_⟩
      have hi' : i < len := by have := (List.getElem?_eq_some_iff.1 hp).1; simpa using this
      have e : F i = p := by simpa [List.getElem?_map, List.getElem?_range hi'] using hp
      have := (hF i hi').1
      rw [Go.WideShapes.add_plain, e] at this
      exact this
    · obtain ⟨i, hi', rfl⟩ := List.mem_map.1 hp
      exact (hF i (List.mem_range.1 hi')).2.1
    · obtain ⟨i, hi', rfl⟩ := List.mem_map.1 hp
      exact (hF i (List.mem_range.1 hi')).2.2.1
    · rw [hx]
      have h1 := tot_bulk F D (List.range len) (fun i hi' => (hF i (List.mem_range.1 hi')).2.2.2)
      have h2 := bulks.slice_elems ((List.range len).map D) ((List.range (m - len)).map fun j => D (len + j))
      simp only
      omega
set_option maxRecDepth 100000 in
theorem sent_walk {H : Type} (enc : TypeId × Value → H) (W : World) (base : Nat) (args : Array Value) (ds gs : List (DataW H)) (before : List MemPlace)
    (hval : ∀ (j : Nat) t v, Try.f9.params[j]? = some t → args[j]? = some v → Value.okWide Try.prog W .any base t v)
    (hW : DataW.Whole enc Try.prog Try.f9.params.toList Rows.streamSentSpec.vars false W args.toList ds gs before)
    (hsz : (DataW.weightsEach Try.prog (Try.f9.params.toList ++ Rows.streamSentSpec.plain.varTypes Try.prog) (ds ++ gs)).all (· ≤ reachBytes) = true)
    (hk : Rows.uptoSmall H (ds ++ gs) = true) :
    Calls Try.prog 9 args W fun e W' => e = .returned (.bool true) ∧ Below W.heap.size W W' := by
  obtain ⟨p, q, hA0, hV, rfl, hfz, hnd⟩ := hW
  have hA : DataW.TrodAll enc Try.prog W 0 (fun _ => true) true Try.f9.params.toList args.toList ds p := hA0
  rw [Try.params9] at hA hval hsz
  obtain ⟨v0, vs0, d0, ds0, p0, q0, hargs, rfl, rfl, h0, r0⟩ := trodAll_cons hA
  obtain ⟨v1, vs1, d1, ds1, p1, q1, rfl, rfl, rfl, h1, r1⟩ := trodAll_cons r0
  obtain ⟨v2, vs2, d2, ds2, p2, q2, rfl, rfl, rfl, h2, r2⟩ := trodAll_cons r1
  obtain ⟨v3, vs3, d3, ds3, p3, q3, rfl, rfl, rfl, h3, r3⟩ := trodAll_cons r2
  obtain ⟨v4, vs4, d4, ds4, p4, q4, rfl, rfl, rfl, h4, r4⟩ := trodAll_cons r3
  obtain ⟨v5, vs5, d5, ds5, p5, q5, rfl, rfl, rfl, h5, r5⟩ := trodAll_cons r4
  obtain ⟨rfl, rfl, rfl⟩ := trodAll_nil r5
  obtain rfl : args = #[v0, v1, v2, v3, v4, v5] := by cases args; simp_all
  have hb : Rows.uptoBulkAll ([d0, d1, d2, d3, d4, d5] ++ gs) ≤ 1048576 := of_decide_eq_true hk
  simp only [List.cons_append, Rows.uptoBulkAll] at hb
  have hw2 : ∀ n ∈ d2.weights Try.prog 49, n ≤ reachBytes := fun n hn => by
    have hm : n ∈ DataW.weightsEach Try.prog ([28, 3, 49, 3, 3, 5] ++ Rows.streamSentSpec.plain.varTypes Try.prog) ([d0, d1, d2, d3, d4, d5] ++ gs) := DataW.weights_mem_each (ts := [28, 3, 49, 3, 3, 5] ++ Rows.streamSentSpec.plain.varTypes Try.prog) (ds := [d0, d1, d2, d3, d4, d5] ++ gs) (j := 2) rfl rfl n hn
    exact of_decide_eq_true (List.all_eq_true.1 hsz n hm)
  obtain ⟨f0, hf0⟩ := h0
  obtain ⟨A0, l0, c0, e0, a1, a2, a3, a4⟩ := open_bss hf0
  obtain ⟨A0', n0', c0', rfl⟩ := okWide_slice Try.underlying28 (hval 0 28 v0 rfl rfl)
  obtain ⟨lim, rfl⟩ := okWide_int Try.underlying3 (hval 1 3 v1 rfl rfl)
  obtain ⟨f2, hf2⟩ := h2
  obtain ⟨A2, xs2, c2, e2, k1, k2, k3, k4, k5⟩ := open_ints hf2 hw2
  obtain ⟨A2', n2', c2', rfl⟩ := okWide_slice Try.underlying49 (hval 2 49 v2 rfl rfl)
  obtain ⟨wh, rfl⟩ := okWide_int Try.underlying3 (hval 3 3 v3 rfl rfl)
  obtain ⟨at_, rfl⟩ := okWide_int Try.underlying3 (hval 4 3 v4 rfl rfl)
  obtain ⟨tt, rfl⟩ := okWide_int Try.underlying5 (hval 5 5 v5 rfl rfl)
  obtain ⟨f5, hf5⟩ := h5
  obtain ⟨z, hz, _, hwf⟩ := DataW.trod_int Try.underlying5 hf5
  simp [Value.cells] at hz
  subst hz
  simp only [Value.cells, List.cons.injEq, and_true] at e0 e2
  have htot : tot (l0.map (·.1)) ≤ 2147483647 := by simp only at a4; omega
  rw [e0, e2]
  exact sentlaw_any lim wh at_ tt A0 A2 l0 xs2 c0 c2 W ⟨a1, a2⟩ a3 htot (wf_u8 hwf) k3 k5 k4
end Go.Proofs.Ytkllgmhfjibajaa
