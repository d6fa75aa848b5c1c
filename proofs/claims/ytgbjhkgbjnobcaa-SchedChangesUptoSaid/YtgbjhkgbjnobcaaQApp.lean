/- Appends to integers with room, and to the queues' row. Conditions: the lengths are within reach. -/
import Derived.Test.YtgbjhkgbjnobcaaQOwn
import Derived.ArgAppend
namespace Go.Proofs.Ytgbjhkgbjnobcaa
open Go.RowKit Trn

/-- Cells written one behind the other. -/
theorem Blk.cellsIn {g : Nat} {ty : TypeId} : ∀ (vs : List Value) (o : Nat) (w : World) (cs : Array Value), Blk w g ty cs → o + vs.length ≤ cs.size →
    ∃ cs', Blk (w.setCells g o vs) g ty cs' ∧ cs'.size = cs.size ∧ (∀ j, j < o → cs'[j]? = cs[j]?) ∧ (∀ j u, vs[j]? = some u → cs'[o + j]? = some u) ∧ (∀ k, k ≠ g → (w.setCells g o vs).heap[k]? = w.heap[k]?)
  | [], _, _, cs, h, _ => ⟨cs, h, rfl, fun _ _ => rfl, fun j u hj => by simp at hj, fun _ _ => rfl⟩
  | v :: r, o, w, cs, h, hl => by
    simp only [List.length_cons] at hl
    obtain ⟨cs', h1, h2, h3, h4, h5⟩ := Blk.cellsIn r (o + 1) (w.setCell ⟨g, o, none⟩ v) _ (h.set_ o v) (by rw [Array.size_setIfInBounds]; omega)
    refine ⟨cs', h1, by rw [h2, Array.size_setIfInBounds], fun j hj => ?_, fun j u hj => ?_, fun k hk => (h5 k hk).trans (Below.heap_setCell _ _ _ k hk)⟩
    · rw [h3 j (by omega), Array.getElem?_setIfInBounds, if_neg (by omega)]
    · cases j with
      | zero =>
        rw [List.getElem?_cons_zero] at hj
        injection hj with hj
        subst hj
        rw [Nat.add_zero, h3 o (by omega), Array.getElem?_setIfInBounds, if_pos rfl, if_pos (by omega)]
      | succ j =>
        rw [List.getElem?_cons_succ] at hj
        have := h4 j u hj
        rwa [show o + (j + 1) = o + 1 + j by omega]
theorem sizeCells {g : Nat} : ∀ (vs : List Value) (o : Nat) (w : World), (w.setCells g o vs).heap.size = w.heap.size
  | [], _, _ => rfl
  | v :: r, o, w => by rw [World.setCells, sizeCells r]; simp
theorem tapeCells {g : Nat} : ∀ (vs : List Value) (o : Nat) (w : World), (w.setCells g o vs).tape = w.tape
  | [], _, _ => rfl
  | v :: r, o, w => by rw [World.setCells, tapeCells r]; simp
section
variable {P : Program} (w : World)
/-- An append to integers with room. -/
theorem run_append_ir (t ty : TypeId) (i : TypeInfo) (z : Value) (ht : P.underlying t = some (.slice 3)) (hi : P.info? 3 = some i) (hz : i.zero = some z) (hsize : i.size = 1) (hby : i.bytes = 8) (hzs : z.cells.size = 1)
    {lo : Nat} {v : Value} {xs : List Int} (h : IR w lo v xs []) (hlo : lo ≤ w.heap.size) (ad : Addr) (m c : Nat) (news : List Int) (hm : m = news.length) (hnews : ∀ j u, (news.map (Value.int .i64))[j]? = some u → w.cell? (ad.add j) = some u)
    (h63 : xs.length + m ≤ maxLen) (hbytes : (xs.length + m) * 8 ≤ 140737488355328) :
    ∃ v' w', (Builtin.append_ #[t, t] ty #[v, .slice (some ad) m c]).run P w = .ok v' w' ∧ IR w' lo v' (xs ++ news) [] ∧ w.grownBy w' v.ownBlock ∧
      ((∃ b o c, v = .slice (some ⟨b, o, none⟩) xs.length c ∧ v' = .slice (some ⟨b, o, none⟩) (xs.length + m) c) ∨ ∀ b, v'.ownBlock = some b → w.heap.size ≤ b) ∧
      (∀ v0 xs0, IR w lo v0 xs0 [] → (∀ b o c, v = .slice (some ⟨b, o, none⟩) xs.length c → ∀ o0 c0, v0 = .slice (some ⟨b, o0, none⟩) xs0.length c0 → o0 + xs0.length ≤ o + xs.length) → IR w' lo v0 xs0 []) := by
  subst hm
  have h1 : ∀ u ∈ news.map (Value.int .i64), u.oneCell' = true := by
    intro u hu
    obtain ⟨x, _, rfl⟩ := List.mem_map.1 hu
    rfl
  have hfin : ∀ v' w', w'.ownsRow w.heap.size 3 1 v' (xs.length + news.length) (xs.map (Value.int .i64) ++ news.map (Value.int .i64)) → IR w' lo v' (xs ++ news) [] := fun v' w' ho => by
    have h0 : OwnInts w' w.heap.size v' (xs ++ news) := by
      show w'.ownsRow w.heap.size 3 1 v' _ _
      rw [List.length_append, List.map_append]
      exact ho
    exact (IR.of_own h0).mono hlo
  rcases h with ⟨rfl, rfl, _⟩ | ⟨b, o, cap, cur, rfl, hb, hh, hc1, hc2, hc3, hc4⟩
  · obtain ⟨v', w', hr, r1, r2, _⟩ := run_append_own (P := P) w w.heap.size t ty 3 i z 1 8 ht hi hz hsize hby hzs (by decide) (.slice none 0 0) 0 [] (World.ownsRow_nil w _ 3 1) ad news.length c (news.map (Value.int .i64)) (by simp) hnews h1 (by simpa using h63) (by simpa using hbytes) (Nat.le_refl _)
    refine ⟨v', w', hr, hfin v' w' (by simpa using r1), r2, .inr fun b hb => (r1.lt b hb).1, fun v0 xs0 h0 _ => h0.keep fun b hb => r2.block b (h0.lt hb).2 (by simp [Value.ownBlock])⟩
  · simp only [List.length_nil, Nat.add_zero] at hc1
    by_cases hroom : xs.length + news.length ≤ cap
    · have hrun := run_append_room_cells (P := P) w t ty 3 i ht hi b o xs.length cap ad news.length c (news.map (Value.int .i64)) (by rw [hsize]; simp) hnews h1 hroom
        (fun j hj => by
          rw [hsize, Nat.mul_one, Blk.cell hh]
          rw [List.length_map] at hj
          simp only [Option.isSome_iff_exists]
          exact ⟨_, Array.getElem?_eq_getElem (by omega)⟩)
        (fun j hj => Blk.frozen hh _)
      rw [hsize, Nat.mul_one] at hrun
      obtain ⟨cur', k1, k2, k3, k4, k5⟩ := Blk.cellsIn (news.map (Value.int .i64)) (o + xs.length) w cur hh (by rw [List.length_map]; omega)
      have hg : w.grownBy (w.setCells b (o + xs.length) (news.map (Value.int .i64))) (some b) := ⟨World.os_setCells _ _ _ _, tapeCells _ _ _, World.output_setCells _ _ _ _, by rw [sizeCells]; exact Nat.le_refl _, fun k _ hk => k5 k (fun e => hk (by rw [e]))⟩
      refine ⟨_, _, hrun, .inr ⟨b, o, cap, cur', by rw [List.length_append], hb, k1, by simpa using hroom, hc2, by omega, fun j x hj => ?_⟩, hg, .inl ⟨b, o, cap, rfl, rfl⟩, fun v0 xs0 h0 hA => ?_⟩
      · rw [List.append_nil] at hj
        rcases Nat.lt_or_ge j xs.length with hl | hl
        · rw [List.getElem?_append_left hl] at hj
          rw [k3 _ (by omega)]
          exact hc4 j x (by rw [List.append_nil]; exact hj)
        · rw [List.getElem?_append_right hl] at hj
          have := k4 (j - xs.length) (.int .i64 x) (by rw [List.getElem?_map, hj]; rfl)
          rwa [show o + xs.length + (j - xs.length) = o + j by omega] at this
      · by_cases he : v0.ownBlock = some b
        · rcases h0 with ⟨rfl, _⟩ | ⟨b0, o0, c0, cur0, rfl, hb0, hh0, g1, g2, g3, g4⟩
          · cases he
          · injection he with he
            subst he
            have hcc : cur0 = cur := by
              have e1 : w.heap[b0]? = some (.cells cur0 3 (0, 0)) := hh0
              have e2 : w.heap[b0]? = some (.cells cur 3 (0, 0)) := hh
              rw [e1] at e2
              injection e2 with e2
              injection e2
            subst hcc
            have hle := hA b0 o cap rfl o0 c0 rfl
            refine .inr ⟨b0, o0, c0, cur', rfl, hb0, k1, g1, g2, by omega, fun j x hj => ?_⟩
            have hj' := (List.getElem?_eq_some_iff.1 hj).1
            rw [List.append_nil] at hj'
            rw [k3 _ (by omega)]
            exact g4 j x hj
        · exact h0.keep fun b' hb' => k5 b' (fun e => he (by rw [hb', e]))
    · have hlen : (xs.map (Value.int .i64)).length = xs.length * 1 := by simp
      obtain ⟨v', w', hr, r1, r2⟩ := run_append_arg_grows (P := P) w t ty 3 i z 1 8 ht hi hz hsize hby hzs (by decide) ⟨b, o, none⟩ xs.length cap (xs.map (Value.int .i64)) hlen
        (fun j u hj => by
          rw [List.getElem?_map] at hj
          obtain ⟨x, hx, rfl⟩ := Option.map_eq_some_iff.1 hj
          rw [Addr.add_lit, Blk.cell hh]
          exact hc4 j x (by rw [List.append_nil]; exact hx))
        ad news.length c (news.map (Value.int .i64)) (by simp) hnews (by omega) h63 hbytes
      refine ⟨v', w', hr, hfin v' w' r1, ⟨r2.os, r2.tape, r2.output, r2.size, fun k hk _ => r2.block k hk (by simp)⟩, .inr fun b hb => (r1.lt b hb).1, fun v0 xs0 h0 _ => h0.keep fun b hb => r2.block b (h0.lt hb).2 (by simp)⟩
theorem wpList_append_ir {ops : Array Oper} {rest : List Oper} {o : Oper} {a : Act} {Q : Exit → Act → World → Prop} (hgd : o.guard = none) (s x : Operand) (t : TypeId)
    (ho : o.op = .call { callee := .builtin .append, args := #[s, x], argTypes := #[t, t] })
    (i : TypeInfo) (z : Value) (ht : P.underlying t = some (.slice 3)) (hi : P.info? 3 = some i) (hz : i.zero = some z) (hsize : i.size = 1) (hby : i.bytes = 8) (hzs : z.cells.size = 1)
    {lo : Nat} {v : Value} {xs : List Int} (hs : a.eval s = v) (h : IR w lo v xs []) (hlo : lo ≤ w.heap.size) (ad : Addr) (m c : Nat) (news : List Int) (hx : a.eval x = .slice (some ad) m c) (hm : m = news.length) (hnews : ∀ j u, (news.map (Value.int .i64))[j]? = some u → w.cell? (ad.add j) = some u)
    (h63 : xs.length + m ≤ maxLen) (hbytes : (xs.length + m) * 8 ≤ 140737488355328)
    (hK : ∀ A' c' w', IR w' lo (.slice A' (xs.length + m) c') (xs ++ news) [] → w.grownBy w' v.ownBlock →
      ((∃ b o c, v = .slice (some ⟨b, o, none⟩) xs.length c ∧ Value.slice A' (xs.length + m) c' = .slice (some ⟨b, o, none⟩) (xs.length + m) c) ∨ ∀ b, (Value.slice A' (xs.length + m) c').ownBlock = some b → w.heap.size ≤ b) →
      (∀ v0 xs0, IR w lo v0 xs0 [] → (∀ b o c, v = .slice (some ⟨b, o, none⟩) xs.length c → ∀ o0 c0, v0 = .slice (some ⟨b, o0, none⟩) xs0.length c0 → o0 + xs0.length ≤ o + xs.length) → IR w' lo v0 xs0 []) →
      wpList P ops Q rest (a.put o.dst (.slice A' (xs.length + m) c')) w') :
    wpList P ops Q (o :: rest) a w := by
  refine wpList_plain hgd fun K hK' => ?_
  obtain ⟨v', w', hr, h2, h3, h4, h5⟩ := run_append_ir (P := P) w t o.type i z ht hi hz hsize hby hzs h hlo ad m c news hm hnews h63 hbytes
  obtain ⟨A', c', rfl, _, _⟩ := h2.shape
  rw [List.length_append, ← hm] at h2 hr h4
  unfold Oper.wp execOp
  simp only [ho, resolve, invoke, builtin, Sem.run_bind, Sem.run_pure, Result.andThen_ok, List.map_toArray, List.map_cons, List.map_nil, hs, hx, hr]
  exact hK' _ _ (hK A' c' w' h2 h3 h4 h5)
end

/-- Where a longer list lies: where the shorter one lay, or in blocks from s on. -/
def AtV (v0 : Value) (n0 : Nat) (v : Value) (s : Nat) : Prop := (∃ b o c n, v0 = .slice (some ⟨b, o, none⟩) n0 c ∧ v = .slice (some ⟨b, o, none⟩) n c ∧ n0 ≤ n) ∨ ∀ b, v.ownBlock = some b → s ≤ b
section
variable {w w' : World} {lo s : Nat} {v vl : Value} {l : List QV} {tl : List R4}
theorem AtV.more {v0 v' : Value} {n0 n m : Nat} (h : AtV v0 n0 vl s) (hs : s ≤ w.heap.size)
    (h4 : (∃ b o c, vl = .slice (some ⟨b, o, none⟩) n c ∧ v' = .slice (some ⟨b, o, none⟩) (n + m) c) ∨ ∀ b, v'.ownBlock = some b → w.heap.size ≤ b) : AtV v0 n0 v' s := by
  rcases h4 with ⟨b, o, c, e1, e2⟩ | h4
  · rcases h with ⟨b', o', c', n', f1, f2, f3⟩ | h
    · rw [e1] at f2
      injection f2 with f2 f4 f5
      injection f2 with f2
      injection f2 with f2 f6 _
      subst f2 f4 f5 f6
      exact .inl ⟨b, o, c, n + m, f1, e2, by omega⟩
    · refine .inr fun b' hb' => h b' ?_
      rw [e1]
      rw [e2] at hb'
      exact hb'
  · exact .inr fun b hb => Nat.le_trans hs (h4 b hb)
/-- What an append to a list of one queue keeps. -/
theorem TQ.after (h : TQ w lo v l tl) {i : Nat} {p : QV} (hp : l[i]? = some p) (hsp : p.2.2 = []) {ys : List Int} (hvl : IR w lo vl ys []) (hat : AtV p.2.1 p.1.cs.length vl s) (hs : ∀ b, FQ v l b → b < s)
    (hg : w.grownBy w' vl.ownBlock) (ho : ∀ v0 xs0, IR w lo v0 xs0 [] → (∀ b o c, vl = .slice (some ⟨b, o, none⟩) ys.length c → ∀ o0 c0, v0 = .slice (some ⟨b, o0, none⟩) xs0.length c0 → o0 + xs0.length ≤ o + ys.length) → IR w' lo v0 xs0 []) : TQ w' lo v l tl := by
  have hvb : ∀ b, vl.ownBlock = some b → p.2.1.ownBlock = some b ∨ s ≤ b := fun b hb => by
    rcases hat with ⟨b', o, c, n, e1, e2, _⟩ | hat
    · rw [e2] at hb
      injection hb with hb
      subst hb
      exact .inl (by rw [e1]; rfl)
    · exact .inr (hat b hb)
  refine ⟨?_, fun j q hq => ?_, h.apart⟩
  · rcases h.row with h1 | ⟨g, c, R, e, hgl, hq, r⟩
    · exact .inl h1
    · exact .inr ⟨g, c, R, e, hgl, (hg.block g (Blk.lt hq) (fun e' => hvl.ne_blk hq (by decide) e'.symm)).trans hq, r⟩
  · by_cases hji : j = i
    · subst hji
      rw [hp] at hq
      injection hq with hq
      subst hq
      have h0 := h.own j p hp
      rw [hsp] at h0 ⊢
      refine ho _ _ h0 fun b o c ev o0 c0 e0 => ?_
      rcases hat with ⟨b', o', c', n, e1, e2, hn⟩ | hat
      · rw [ev] at e2
        injection e2 with e2 e3 e4
        injection e2 with e2
        injection e2 with e2 e5 _
        rw [e1] at e0
        injection e0 with e0 e6 e7
        injection e0 with e0
        injection e0 with e0 e8 _
        omega
      · have h1 := hat b (by rw [ev]; rfl)
        have h2 := hs b (.inr ⟨j, p, hp, by rw [e0]; rfl⟩)
        omega
    · refine (h.own j q hq).keep fun b hb => hg.block b ((h.own j q hq).lt hb).2 fun e' => ?_
      rcases hvb b e'.symm with h1 | h1
      · exact h.apart j i q p hji hq hp b hb h1
      · have := hs b (.inr ⟨j, q, hq, hb⟩)
        omega
/-- The queues' row is owned. -/
theorem TQ.owns (h : TQ w lo v l []) : w.ownsRow lo 51 4 v l.length (flat (l.map qrow)) := by
  refine ⟨by rw [flat_len, List.length_map], ?_⟩
  rcases h.row with ⟨rfl, rfl, _⟩ | ⟨g, c, R, rfl, hg, hq, hR, h1, h2, h3⟩
  · exact .inl ⟨rfl, rfl⟩
  · refine .inr ⟨g, c, (flat R).toArray, rfl, hg, hq, by simpa using h1, h2, by simp [flat_len, hR], ?_⟩
    show (flat R).take _ = _
    rw [flat_take]
    congr 1
    apply List.ext_getElem?
    intro i
    rcases Nat.lt_or_ge i l.length with hl | hl
    · rw [List.getElem?_take_of_lt hl, List.getElem?_map, List.getElem?_eq_getElem hl]
      exact h3 i _ (by rw [List.append_nil, List.getElem?_map, List.getElem?_eq_getElem hl]; rfl)
    · rw [List.getElem?_eq_none (by simp; omega), List.getElem?_eq_none (by simpa using hl)]
/-- A longer row, and the shorter list of it. -/
theorem TQ.grow {A : Option Addr} {n m c : Nat} (h : TQ w lo v l []) (hn : n = l.length) (hm : 0 < m) (hr : w'.ownsRow lo 51 4 (.slice A m c) m (flat (l.map qrow ++ tl))) (hg : w.grownBy w' v.ownBlock) : TQ w' lo (.slice A n c) l tl := by
  subst hn
  have hml : m = l.length + tl.length := by
    have := hr.1
    rw [flat_len, List.length_append, List.length_map] at this
    omega
  refine ⟨?_, fun j q hq => (h.own j q hq).keep fun b hb => hg.block b ((h.own j q hq).lt hb).2 fun e => ?_, h.apart⟩
  · rcases hr.2 with ⟨_, h0⟩ | ⟨g, cap, cur, e, hgl, hh, hn, hmx, hcs, ht⟩
    · omega
    · injection e with e _ e3
      subst e e3
      obtain ⟨R, h1, h2⟩ := unflat c cur.toList (by simpa using hcs)
      refine .inr ⟨g, c, R, rfl, hgl, ?_, h2, by omega, hmx, fun i r hr' => ?_⟩
      · show w'.heap[g]? = _
        rw [h1, hh]
      · rw [← h1, flat_take] at ht
        have ht := flat_inj _ _ ht
        rw [← ht] at hr'
        have hi := (List.getElem?_eq_some_iff.1 hr').1
        simp at hi
        rwa [List.getElem?_take_of_lt (by omega)] at hr'
  · rcases h.row with ⟨rfl, _⟩ | ⟨g, c', R, rfl, _, hq', _⟩
    · cases e
    · injection e with e
      subst e
      exact (h.own j q hq).ne_blk hq' (by decide) hb
/-- Without the marks. -/
theorem IR.bare {xs sp : List Int} (h : IR w lo v xs sp) : IR w lo v xs [] := by
  rcases h with ⟨e, e1, _⟩ | ⟨b, o, c, cur, e, hb, hh, h1, h2, h3, h4⟩
  · exact .inl ⟨e, e1, rfl⟩
  · exact .inr ⟨b, o, c, cur, e, hb, hh, by simp; omega, h2, h3, fun j x hj => h4 j x (by
      rw [List.append_nil] at hj
      rw [List.getElem?_append_left (List.getElem?_eq_some_iff.1 hj).1]
      exact hj)⟩
theorem TQ.bare (h : TQ w lo v l tl) : TQ w lo v (l.map fun p => (p.1, p.2.1, [])) [] := by
  have hold : ∀ (i : Nat) (p : QV), (l.map fun p => ((p.1, p.2.1, []) : QV))[i]? = some p → ∃ p0, l[i]? = some p0 ∧ p = (p0.1, p0.2.1, []) := fun i p hp => by
    rw [List.getElem?_map] at hp
    obtain ⟨p0, h1, h2⟩ := Option.map_eq_some_iff.1 hp
    exact ⟨p0, h1, h2.symm⟩
  refine ⟨?_, fun i p hp => ?_, fun i j p q hij hp hq => ?_⟩
  · rcases h.row with ⟨e, rfl, _⟩ | ⟨g, c, R, e, hg, hq, hR, h1, h2, h3⟩
    · exact .inl ⟨e, rfl, rfl⟩
    · refine .inr ⟨g, c, R, by rw [List.length_map]; exact e, hg, hq, hR, by simp; omega, h2, fun i r hr => h3 i r ?_⟩
      rw [List.append_nil, List.map_map] at hr
      have hi := (List.getElem?_eq_some_iff.1 hr).1
      rw [List.getElem?_append_left (by simpa using hi)]
      exact hr
  · obtain ⟨p0, h1, rfl⟩ := hold i p hp
    exact (h.own i p0 h1).bare
  · obtain ⟨p0, h1, rfl⟩ := hold i p hp
    obtain ⟨q0, h2, rfl⟩ := hold j q hq
    exact h.apart i j p0 q0 hij h1 h2
theorem FQ.bare {b : Nat} : FQ v (l.map fun p => (p.1, p.2.1, [])) b ↔ FQ v l b := by
  constructor
  · rintro (h | ⟨i, p, hp, hb⟩)
    · exact .inl h
    · rw [List.getElem?_map] at hp
      obtain ⟨p0, h1, rfl⟩ := Option.map_eq_some_iff.1 hp
      exact .inr ⟨i, p0, h1, hb⟩
  · rintro (h | ⟨i, p, hp, hb⟩)
    · exact .inl h
    · exact .inr ⟨i, (p.1, p.2.1, []), by rw [List.getElem?_map, hp]; rfl, hb⟩
end
end Go.Proofs.Ytgbjhkgbjnobcaa
