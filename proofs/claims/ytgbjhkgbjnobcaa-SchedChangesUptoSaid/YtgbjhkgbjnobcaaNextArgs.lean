/- The walk of 'SchedNext', for whatever is handed in. Conditions: none. -/
import Derived.Test.YtgbjhkgbjnobcaaNextLaw
import Derived.Test.YtgbjhkgbjnobcaaTurnsArgs
namespace Go.Proofs.Ytgbjhkgbjnobcaa
open Go.ChangeShapes Go.WideShapes Go.RowKit Trn
theorem bytes51 : Try.prog.bytesOf 51 = 48 := by kernel_rfl
section
variable {H : Type} {enc : TypeId × Value → H} {w : World} {base : Nat} {spare : Nat → Bool} {held : Bool}
theorem len_queues {fuel : Nat} {cs : List Value} {x : DataW H × List MemPlace} (h : DataW.trod enc Try.prog w base spare held fuel 32 cs = some x) (hw : ∀ n ∈ x.1.weights Try.prog 32, n ≤ reachBytes) :
    ∃ A n c, cs = [.slice A n c] ∧ n * 48 ≤ 140737488351232 := by
  rcases Go.Deep.open_slice Try.underlying32 h with ⟨rfl, hx⟩ | ⟨a, len, cap, m, n, D, Pl, rfl, hb, hl, hm, hmm, hx, hi⟩
  · exact ⟨none, 0, 0, rfl, by omega⟩
  · refine ⟨some a, len, cap, rfl, ?_⟩
    rw [hx] at hw
    have := hw _ (by simp only [DataW.weights, Try.underlying32]; exact List.mem_cons_self)
    rw [bytes51] at this
    simp only [reachBytes, List.length_map, List.length_range] at this
    omega
theorem len_turns {v : Value} {d : DataW H} {p : List MemPlace} (hv : Value.okWide Try.prog w .any base 34 v) (h : DataW.Trod enc Try.prog w 0 (fun _ => true) true 34 v d p) (hw : ∀ n ∈ d.weights Try.prog 34, n ≤ reachBytes) :
    ∃ A n c a b, v = .agg #[.slice A n c, a, b] ∧ n * 48 ≤ 140737488351232 := by
  obtain ⟨cs, rfl, _⟩ := okWide_struct Try.underlying34 hv
  obtain ⟨fuel, hf⟩ := h
  obtain ⟨y0, y1, y2, n, hd, hl, h0, h1, h2⟩ := Go.Deep.trod_struct3 Try.underlying34 hf
  injection hd with hd _
  subst hd
  rw [cells34] at hl
  simp only [Value.cells, cells32, cells3, cells4, List.drop_zero] at hl h0 h1 h2
  obtain ⟨l⟩ := cs
  match l, hl with
  | [a, b, c], _ =>
    simp only [List.drop_succ_cons, List.drop_zero, List.take_succ_cons, List.take_zero] at h0 h1 h2
    obtain ⟨A, m, cc, e0, k1⟩ := len_queues h0 (fun n hn => hw n (by simp [DataW.weights, DataW.weightsEach, Try.underlying34, hn]))
    injection e0 with e0
    exact ⟨A, m, cc, b, c, by rw [e0], k1⟩
end
theorem tu_len {w : World} {B : Nat} {A : Option Addr} {n c : Nat} {a b : Value} {t : Tu} (h : TuAt w B (.agg #[.slice A n c, a, b]) t) : t.qs.length = n := by
  obtain ⟨A', c', e, _⟩ := h
  injection e with e
  have := congrArg (fun x : Array Value => x[0]?) e
  simp only [List.getElem?_toArray, List.getElem?_cons_zero] at this
  injection this with this
  injection this with _ this _
  exact this.symm
theorem schednext_walk {H : Type} (enc : TypeId × Value → H) (W : World) (base : Nat) (args : Array Value) (ds gs : List (DataW H)) (before : List MemPlace)
    (hval : ∀ (j : Nat) t v, Try.f5.params[j]? = some t → args[j]? = some v → Value.okWide Try.prog W .any base t v)
    (hW : DataW.Whole enc Try.prog Try.f5.params.toList Rows.schedNextSpec.vars false W args.toList ds gs before)
    (hsz : (DataW.weightsEach Try.prog (Try.f5.params.toList ++ Rows.schedNextSpec.plain.varTypes Try.prog) (ds ++ gs)).all (· ≤ reachBytes) = true)
    (_ : Rows.uptoSmall H (ds ++ gs) = true) :
    Calls Try.prog 5 args W fun e W' => e = .returned (.bool true) ∧ Below W.heap.size W W' := by
  obtain ⟨p, q, hA0, hV, rfl, hfz, hnd⟩ := hW
  have hA : DataW.TrodAll enc Try.prog W 0 (fun _ => true) true Try.f5.params.toList args.toList ds p := hA0
  rw [Try.params5] at hA hval hsz
  obtain ⟨v0, vs0, d0, ds0, p0, q0, hargs, rfl, rfl, h0, r0⟩ := trodAll_cons hA
  obtain ⟨rfl, rfl, rfl⟩ := trodAll_nil r0
  obtain rfl : args = #[v0] := by cases args; simp_all
  have hw0 : ∀ n ∈ d0.weights Try.prog 34, n ≤ reachBytes := fun n hn => by
    have := List.all_eq_true.1 hsz n (DataW.weights_mem_each (j := 0) rfl rfl n hn)
    simpa using this
  obtain ⟨t, ht, hr, _⟩ := open_turns (hval 0 34 v0 rfl rfl) h0 hw0
  obtain ⟨A, n, c, a, b, rfl, hn⟩ := len_turns (hval 0 34 v0 rfl rfl) h0 hw0
  exact schednext_any _ t W ht hr (by rw [tu_len ht]; exact hn)
end Go.Proofs.Ytgbjhkgbjnobcaa
