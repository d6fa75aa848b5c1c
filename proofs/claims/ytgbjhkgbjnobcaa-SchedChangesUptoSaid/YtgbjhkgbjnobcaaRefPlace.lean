/- The walk of the document's place; an append to one list at a step that draws its order. Conditions: the turns are readable. -/
import Derived.Test.YtgbjhkgbjnobcaaRoomy
import Derived.Test.YtgbjhkgbjnobcaaAskOwn
namespace Go.Proofs.Ytgbjhkgbjnobcaa
open Go.RowKit Trn

/-- Where the queue of an id stands. -/
def Trn.PlaceIs (qs : List Qu) (id r : Int) : Prop :=
  (r = -1 ∧ ∀ (i : Nat) (q : Qu), qs[i]? = some q → q.id ≠ id) ∨ ∃ (a : Nat) (q : Qu), r = a ∧ qs[a]? = some q ∧ q.id = id ∧ ∀ (i : Nat) (q' : Qu), i < a → qs[i]? = some q' → q'.id ≠ id
set_option maxRecDepth 100000 in
set_option maxHeartbeats 4000000 in
theorem place_any (v : Value) (t : Tu) (id : Int) (w : World) (B : Nat) (hB : B ≤ w.heap.size) (hv : TuAt w B v t) (r : Int) (hr : PlaceIs t.qs id r) :
    Calls Try.prog 42 #[v, .int .i64 id] w fun e w' => e = .returned (.int .i64 r) ∧ Below w.heap.size w w' := by
  obtain ⟨A, c, rfl, hlc, hcm, hq⟩ := hv
  unfold maxLen at hcm
  have Hr := Lib.hid hr
  have Hq := Lib.hid hq
  have hx := Boxed.start w A t.qs.length c t.at_ t.fr
  obtain ⟨x0, x1, x2⟩ := hx.cells
  clear hr hq
  go_enter Try.func42, Try.ntmps42
  go_upto_region 1 with fail
  generalize hw1 : w.alloc (.cells #[.slice A t.qs.length c, .int .i64 t.at_, .bool t.fr] 34) = w1 at *
  clear hw1
  have HX := Lib.hid hx
  clear hx x1 x2
  go_wp2
  go_loopg [5] t.qs.length (fun g vi wx => ∃ k : Nat, g + k = t.qs.length ∧ vi = .int .i64 (k : Nat) ∧ (∀ (j : Nat) (q : Qu), j < k → t.qs[j]? = some q → q.id ≠ id) ∧ w1 = wx)
  case atStart => exact ⟨0, by omega, rfl, (by intro j q hj; omega), rfl⟩
  case round =>
    obtain ⟨k, hk, rfl, hno, rfl⟩ := hrel
    have hkn : k ≤ t.qs.length := by omega
    have Hk := Lib.hid hk
    have Hno := Lib.hid hno
    clear hk hno
    by_cases hkl : k < t.qs.length
    · have hki : (k : Int) < t.qs.length := by omega
      have hq' := Hq.out.below (HX.out.below.mono hB)
      obtain ⟨b, o, q, rfl, hbl, hqk, q0, q1, q2, Aq, cq, q3, hcq, hcqm, hin⟩ := hq'.at_ hkl
      have Hqk := Lib.hid hqk
      clear hq' hqk hin
      by_cases hl : q.id = id
      · have hl' : (q.id == id) = true := by simp [hl]
        have hrk : r = (k : Int) := by
          rcases Hr.out with ⟨_, h⟩ | ⟨a, qa, e, h1, h2, h3⟩
          · exact absurd hl (h k q Hqk.out)
          · rw [e]
            rcases Nat.lt_trichotomy a k with h | h | h
            · exact absurd h2 (Hno.out a qa h h1)
            · rw [h]
            · exact absurd hl (h3 k q h Hqk.out)
        subst hrk
        clear hl
        go_wp2
        go_ret
        exact ⟨rfl, HX.out.below⟩
      · have hl' : (q.id == id) = false := by simp [hl]
        have Hl := Lib.hid hl
        clear hl
        go_wp2
        have hk := Hk.out
        go_roundg (gk - 1)
        case measure => omega
        case rel => exact ⟨k + 1, by omega, by go_num, fun j p hj hp => by
          rcases Nat.lt_or_ge j k with h | h
          · exact Hno.out j p h hp
          · obtain rfl : j = k := by omega
            rw [Hqk.out] at hp
            injection hp with hp
            subst hp
            exact Hl.out, rfl⟩
    · have hki : ¬ (k : Int) < t.qs.length := by omega
      have hrf : r = -1 := by
        rcases Hr.out with ⟨h, _⟩ | ⟨a, qa, e, h1, h2, h3⟩
        · exact h
        · exact absurd h2 (Hno.out a qa (by have := (List.getElem?_eq_some_iff.1 h1).1; omega) h1)
      subst hrf
      clear hkl hkn
      go_wp2
      go_ret
      exact ⟨rfl, HX.out.below⟩
section
variable {P : Program} (w : World)
theorem step_append_ir {ops : Array Oper} {o : Oper} {a : Act} {K : Act → World → Prop} {Q : Exit → Act → World → Prop} {E : Prop} (hgd : o.guard = none) (s x : Operand) (t : TypeId)
    (ho : o.op = .call { callee := .builtin .append, args := #[s, x], argTypes := #[t, t] })
    (i : TypeInfo) (z : Value) (ht : P.underlying t = some (.slice 3)) (hi : P.info? 3 = some i) (hz : i.zero = some z) (hsize : i.size = 1) (hby : i.bytes = 8) (hzs : z.cells.size = 1)
    {lo : Nat} {v : Value} {xs : List Int} (hs : a.eval s = v) (h : IR w lo v xs []) (hlo : lo ≤ w.heap.size) (ad : Addr) (m c : Nat) (news : List Int) (hx : a.eval x = .slice (some ad) m c) (hm : m = news.length) (hnews : ∀ j u, (news.map (Value.int .i64))[j]? = some u → w.cell? (ad.add j) = some u)
    (h63 : xs.length + m ≤ maxLen) (hbytes : (xs.length + m) * 8 ≤ 140737488355328)
    (hK : ∀ A' c' w', IR w' lo (.slice A' (xs.length + m) c') (xs ++ news) [] → w.grownBy w' v.ownBlock →
      ((∃ b o c, v = .slice (some ⟨b, o, none⟩) xs.length c ∧ Value.slice A' (xs.length + m) c' = .slice (some ⟨b, o, none⟩) (xs.length + m) c) ∨ ∀ b, (Value.slice A' (xs.length + m) c').ownBlock = some b → w.heap.size ≤ b) →
      (∀ v0 xs0, IR w lo v0 xs0 [] → (∀ b o c, v = .slice (some ⟨b, o, none⟩) xs.length c → ∀ o0 c0, v0 = .slice (some ⟨b, o0, none⟩) xs0.length c0 → o0 + xs0.length ≤ o + xs.length) → IR w' lo v0 xs0 []) →
      K (a.put o.dst (.slice A' (xs.length + m) c')) w') :
    if Region.wanted o (yielded ops a.tmps) = true then Oper.wp P o a w K Q else E := by
  have hw : Region.wanted o (yielded ops a.tmps) = true := by simp [Region.wanted, hgd]
  rw [if_pos hw]
  obtain ⟨v', w', hr, h2, h3, h4, h5⟩ := run_append_ir (P := P) w t o.type i z ht hi hz hsize hby hzs h hlo ad m c news hm hnews h63 hbytes
  obtain ⟨A', c', rfl, _, _⟩ := h2.shape
  rw [List.length_append, ← hm] at h2 hr h4
  unfold Oper.wp execOp
  simp only [ho, resolve, invoke, builtin, Sem.run_bind, Sem.run_pure, Result.andThen_ok, List.map_toArray, List.map_cons, List.map_nil, hs, hx, hr]
  exact hK A' c' w' h2 h3 h4 h5
end
/-- The appended list stored. -/
theorem RN.put_more {w wr wb w1 : World} {cb : Nat} {vq : Value} {l : List QV} {at_ : Int} {fr : Bool} {i g n c : Nat} {q : Qu} {u : Value} {x : Int} {A' : Option Addr} {c' : Nat} (h : RN w cb vq l at_ fr wr) (hb : Below wr.heap.size wr wb) (hp : l[i]? = some (q, u, [])) (hv : vq = .slice (some ⟨g, 0, none⟩) n c)
    (hi : IR w1 (w.heap.size + 2) (.slice A' (q.cs.length + 1) c') (q.cs ++ [x]) []) (hg : wb.grownBy w1 u.ownBlock)
    (hat : (∃ b o c, u = .slice (some ⟨b, o, none⟩) q.cs.length c ∧ Value.slice A' (q.cs.length + 1) c' = .slice (some ⟨b, o, none⟩) (q.cs.length + 1) c) ∨ ∀ b, (Value.slice A' (q.cs.length + 1) c').ownBlock = some b → wb.heap.size ≤ b)
    (ho : ∀ v0 xs0, IR wb (w.heap.size + 2) v0 xs0 [] → (∀ b o c, u = .slice (some ⟨b, o, none⟩) q.cs.length c → ∀ o0 c0, v0 = .slice (some ⟨b, o0, none⟩) xs0.length c0 → o0 + xs0.length ≤ o + q.cs.length) → IR w1 (w.heap.size + 2) v0 xs0 []) :
    RN w cb vq (l.set i ({ q with cs := q.cs ++ [x] }, .slice A' (q.cs.length + 1) c', [])) at_ fr (w1.setCell ⟨g, i * 4 + 3, none⟩ (.slice A' (q.cs.length + 1) c')) := by
  have hmb := h.more hb
  have hir : IR wb (w.heap.size + 2) u q.cs [] := hmb.tq.own i _ hp
  have hm1 := hmb.grown (s := wr.heap.size) hp rfl hir (hir.atv _) (fun b hb => (h.tq.lt hb).2) hg ho
  have hbf : ∀ b, (Value.slice A' (q.cs.length + 1) c').ownBlock = some b → u.ownBlock = some b ∨ ∀ (j : Nat) (p' : QV), l[j]? = some p' → p'.2.1.ownBlock ≠ some b := fun b hb' => by
    rcases hat with ⟨b', o', c2, e1, e2⟩ | h'
    · left
      rw [e2] at hb'
      rw [e1]
      exact hb'
    · right
      intro j p' hj he
      have h1 := h' b hb'
      have h2 := (h.tq.lt (.inr ⟨j, p', hj, he⟩)).2
      have := hb.size
      omega
  refine hm1.fin hv ((Touch.refl _ _).set_ _ _) (hm1.tq.putNew (q := { q with cs := q.cs ++ [x] }) hp hv (fun b hb => Below.heap_setCell w1 _ _ b hb) (fun R hq hr => hq.set3 hr _) (hi.keep fun b hb' => Below.heap_setCell w1 _ _ b fun e => ?_) hbf)
  have e : b = g := e
  rcases hm1.tq.row with ⟨e', _⟩ | ⟨g', c2, R, e', _, hq, _⟩
  · rw [hv] at e'; cases e'
  · have hgg : g = g' := by
      rw [hv] at e'
      injection e' with e' _ _
      injection e' with e'
      injection e'
    exact hi.ne_blk hq (by decide) (by rw [hb', e, hgg])
end Go.Proofs.Ytgbjhkgbjnobcaa
