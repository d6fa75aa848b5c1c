/- Memory: records that are owned; an append of a slice that can be read; 'joined'. Conditions: the lists are readable, their sum is no more than a slice bears. -/
import Derived.Test.YtmcahimapoddfaaSorted
namespace Go.Proofs.Ytmcahimapoddfaa
open Go.RowKit Go.Maps Go.Sort Go.Shelf

section
variable {P : Program} (w : World)
/-- An append of any slice that can be read, the nil one too. -/
theorem run_append_any (base : Nat) (t ty e : TypeId) (i : TypeInfo) (z : Value) (size bytes : Nat) (ht : P.underlying t = some (.slice e)) (hi : P.info? e = some i) (hz : i.zero = some z)
    (hsize : i.size = size) (hby : i.bytes = bytes) (hzs : z.cells.size = size) (hsz : 0 < size)
    (v : Value) (n : Nat) (xs : List Value) (hown : w.ownsRow base e size v n xs)
    (A : Option Addr) (m c : Nat) (hA : A = none → m = 0 ∧ c = 0) (news : List Value) (hl : news.length = m * size) (hnews : ∀ a, A = some a → ∀ j u, news[j]? = some u → w.cell? (a.add j) = some u) (h1 : ∀ u ∈ news, u.oneCell' = true)
    (h63 : n + m ≤ maxLen) (hbytes : (n + m) * bytes ≤ 140737488355328) (hbase : base ≤ w.heap.size) :
    ∃ v' w', (Builtin.append_ #[t, t] ty #[v, .slice A m c]).run P w = .ok v' w' ∧ w'.ownsRow base e size v' (n + m) (xs ++ news) ∧ w.grownBy w' v.ownBlock ∧ (v'.ownBlock = v.ownBlock ∨ v'.ownBlock = some w.heap.size) := by
  cases A with
  | none =>
    obtain ⟨rfl, rfl⟩ := hA rfl
    have hr := run_append_owned_none (P := P) w base t ty e i size ht hi v n xs hown
    have hn : news = [] := List.eq_nil_of_length_eq_zero (by omega)
    subst hn
    refine ⟨v, w, hr, by simpa using hown, ⟨rfl, rfl, rfl, Nat.le_refl _, fun _ _ _ => rfl⟩, .inl rfl⟩
  | some a =>
    obtain ⟨v', w', hr, h2, h3, _, h5⟩ := run_append_own_at (P := P) w base t ty e i z size bytes ht hi hz hsize hby hzs hsz v n xs hown a m c news hl (hnews a rfl) h1 h63 hbytes hbase
    exact ⟨v', w', hr, h2, h3, h5⟩
theorem wpList_append_any {ops : Array Oper} {rest : List Oper} {o : Oper} {a : Act} {Q : Exit → Act → World → Prop} (hgd : o.guard = none) (s x : Operand) (t : TypeId)
    (ho : o.op = .call { callee := .builtin .append, args := #[s, x], argTypes := #[t, t] })
    (base : Nat) (e : TypeId) (i : TypeInfo) (z : Value) (size bytes : Nat) (ht : P.underlying t = some (.slice e)) (hi : P.info? e = some i) (hz : i.zero = some z)
    (hsize : i.size = size) (hby : i.bytes = bytes) (hzs : z.cells.size = size) (hsz : 0 < size)
    (v : Value) (n : Nat) (xs : List Value) (hs : a.eval s = v) (hown : w.ownsRow base e size v n xs)
    (A : Option Addr) (m c : Nat) (hx : a.eval x = .slice A m c) (hA : A = none → m = 0 ∧ c = 0) (news : List Value) (hl : news.length = m * size) (hnews : ∀ a, A = some a → ∀ j u, news[j]? = some u → w.cell? (a.add j) = some u) (h1 : ∀ u ∈ news, u.oneCell' = true)
    (h63 : n + m ≤ maxLen) (hbytes : (n + m) * bytes ≤ 140737488355328) (hbase : base ≤ w.heap.size)
    (h : ∀ v' w', w'.ownsRow base e size v' (n + m) (xs ++ news) → w.grownBy w' v.ownBlock → (v'.ownBlock = v.ownBlock ∨ v'.ownBlock = some w.heap.size) → wpList P ops Q rest (a.put o.dst v') w') :
    wpList P ops Q (o :: rest) a w := by
  refine wpList_plain hgd fun K hK => ?_
  obtain ⟨v', w', hr, h2, h3, h4⟩ := run_append_any (P := P) w base t o.type e i z size bytes ht hi hz hsize hby hzs hsz v n xs hown A m c hA news hl hnews h1 h63 hbytes hbase
  unfold Oper.wp execOp
  simp only [ho, resolve, invoke, builtin, Sem.run_bind, Sem.run_pure, Result.andThen_ok, List.map_toArray, List.map_cons, List.map_nil, hs, hx, hr]
  exact hK _ _ (h v' w' h2 h3 h4)
end

def rcCells (r : Rc) : List Value := [.int .i64 r.kind, .int .i64 r.off, .int .i64 r.tim, .int .i64 r.pid, .int .i64 r.seq, .string r.key, .string r.val]
/-- A slice that owns the records ps, in blocks from base on. -/
def OwnR (w : World) (base : Nat) (v : Value) (ps : List Rc) : Prop := w.ownsRow base 32 7 v ps.length (ps.flatMap rcCells)
theorem flat_lenR : ∀ ps : List Rc, (ps.flatMap rcCells).length = ps.length * 7
  | [] => rfl
  | p :: r => by
    rw [List.flatMap_cons, List.length_append, flat_lenR r, List.length_cons]
    show 7 + _ = _
    omega
theorem flat_getR : ∀ (ps : List Rc) (i : Nat) (p : Rc), ps[i]? = some p → ∀ j, j < 7 → (ps.flatMap rcCells)[i * 7 + j]? = (rcCells p)[j]?
  | [], i, p, h, _, _ => by simp at h
  | q :: r, 0, p, h, j, hj => by
    simp only [List.getElem?_cons_zero, Option.some.injEq] at h
    subst h
    rw [List.flatMap_cons, Nat.zero_mul, Nat.zero_add, List.getElem?_append_left (by show j < 7; exact hj)]
  | q :: r, i + 1, p, h, j, hj => by
    rw [List.flatMap_cons, List.getElem?_append_right (by show 7 ≤ _; omega)]
    have e : (i + 1) * 7 + j - (rcCells q).length = i * 7 + j := by show (i + 1) * 7 + j - 7 = _; omega
    rw [e]
    exact flat_getR r i p (by simpa using h) j hj
section
variable {w w' : World} {base B : Nat} {v : Value} {ps : List Rc}
theorem OwnR.nil (w : World) (base : Nat) : OwnR w base (.slice none 0 0) [] := World.ownsRow_nil _ _ 32 7
theorem OwnR.keep (h : OwnR w base v ps) (hk : ∀ b, v.ownBlock = some b → w'.heap[b]? = w.heap[b]?) : OwnR w' base v ps := by
  obtain ⟨hl, h⟩ := h
  refine ⟨hl, ?_⟩
  rcases h with h | ⟨b, cap, cur, rfl, hb, hh, r⟩
  · exact .inl h
  · exact .inr ⟨b, cap, cur, rfl, hb, (hk b rfl).trans hh, r⟩
theorem OwnR.lt (h : OwnR w base v ps) {b : Nat} (hb : v.ownBlock = some b) : base ≤ b ∧ b < w.heap.size := by
  obtain ⟨_, h⟩ := h
  rcases h with ⟨rfl, _⟩ | ⟨b', cap, cur, rfl, hb', hh, _⟩
  · cases hb
  · injection hb with hb
    subst hb
    exact ⟨hb', (Blk.lt (w := w) (t := 32) (cs := cur) hh)⟩
theorem OwnR.below (h : OwnR w base v ps) (hb : Below B w w') (hB : w.heap.size ≤ B) : OwnR w' base v ps :=
  h.keep fun b he => hb.block b (by have := (h.lt he).2; omega)
theorem OwnR.mono {base' : Nat} (h : OwnR w base v ps) (hb : base' ≤ base) : OwnR w base' v ps := by
  obtain ⟨hl, h⟩ := h
  refine ⟨hl, ?_⟩
  rcases h with h | ⟨b, cap, cur, rfl, hb', r⟩
  · exact .inl h
  · exact .inr ⟨b, cap, cur, rfl, by omega, r⟩
/-- What is owned can be read. -/
theorem OwnR.read (h : OwnR w base v ps) (hB : w.heap.size ≤ B) : ∃ A c, v = .slice A ps.length c ∧ ps.length ≤ c ∧ c ≤ maxLen ∧ RecsAt w B A ps := by
  obtain ⟨_, h⟩ := h
  rcases h with ⟨rfl, h0⟩ | ⟨b, cap, cur, rfl, hb, hh, hn, hm, hcs, ht⟩
  · rw [h0]
    exact ⟨none, 0, rfl, Nat.le_refl _, Nat.zero_le _, fun h => absurd h (by omega)⟩
  · refine ⟨some ⟨b, 0, none⟩, cap, rfl, hn, hm, fun _ => ⟨b, 0, rfl, by have := Blk.lt (w := w) (t := 32) (cs := cur) hh; omega, fun i p hp => ?_⟩⟩
    have hi := (List.getElem?_eq_some_iff.1 hp).1
    have hc : ∀ j, j < 7 → w.cell? ⟨b, 0 + i * 7 + j, none⟩ = (rcCells p)[j]? := fun j hj => by
      rw [Nat.zero_add, Blk.cell (t := 32) (cs := cur) hh, ← flat_getR ps i p hp j hj, ← ht, List.getElem?_take_of_lt (by omega), Array.getElem?_toList]
    exact ⟨hc 0 (by omega), hc 1 (by omega), hc 2 (by omega), hc 3 (by omega), hc 4 (by omega), hc 5 (by omega), hc 6 (by omega)⟩
end
theorem info32 : (Try.prog.info? 32).map (fun i => (i.zero, i.size, i.bytes)) = some (some (.agg #[.int .i64 0, .int .i64 0, .int .i64 0, .int .i64 0, .int .i64 0, .string ByteArray.empty, .string ByteArray.empty]), 7, 72) := by kernel_rfl
theorem rc_one {r : Rc} : ∀ u ∈ rcCells r, u.oneCell' = true := by
  intro u hu
  simp only [rcCells, List.mem_cons, List.not_mem_nil, or_false] at hu
  rcases hu with rfl | rfl | rfl | rfl | rfl | rfl | rfl <;> rfl
theorem recs_one {rs : List Rc} : ∀ u ∈ rs.flatMap rcCells, u.oneCell' = true := by
  intro u hu
  obtain ⟨r, _, h⟩ := List.mem_flatMap.1 hu
  exact rc_one u h
theorem pr_one {p : Pr} : ∀ u ∈ prCells p, u.oneCell' = true := by
  intro u hu
  simp only [prCells, List.mem_cons, List.not_mem_nil, or_false] at hu
  rcases hu with rfl | rfl | rfl <;> rfl
theorem prods_one {ps : List Pr} : ∀ u ∈ ps.flatMap prCells, u.oneCell' = true := by
  intro u hu
  obtain ⟨r, _, h⟩ := List.mem_flatMap.1 hu
  exact pr_one u h
/-- The records' cells, as an append reads them. -/
theorem recs_news {w : World} {B : Nat} {A : Option Addr} {rs : List Rc} (h : RecsAt w B A rs) : ∀ a, A = some a → ∀ j u, (rs.flatMap rcCells)[j]? = some u → w.cell? (a.add j) = some u := by
  intro a ha j u hu
  have hj := (List.getElem?_eq_some_iff.1 hu).1
  rw [flat_lenR] at hj
  obtain ⟨b, o, e, _, hc⟩ := h (by omega)
  rw [ha] at e
  injection e with e
  subst e
  rw [Go.WideShapes.add_plain]
  have hi : j / 7 < rs.length := by omega
  have hr : rs[j / 7]? = some rs[j / 7] := List.getElem?_eq_getElem hi
  have hm : j % 7 < 7 := Nat.mod_lt _ (by omega)
  have e2 : j / 7 * 7 + j % 7 = j := by omega
  have hg := flat_getR rs (j / 7) _ hr (j % 7) hm
  rw [e2, hu] at hg
  obtain ⟨c0, c1, c2, c3, c4, c5, c6⟩ := hc _ _ hr
  have e3 : o + j = o + j / 7 * 7 + j % 7 := by omega
  rw [e3, hg]
  have hcase : j % 7 = 0 ∨ j % 7 = 1 ∨ j % 7 = 2 ∨ j % 7 = 3 ∨ j % 7 = 4 ∨ j % 7 = 5 ∨ j % 7 = 6 := by omega
  rcases hcase with h | h | h | h | h | h | h <;> rw [h]
  · exact c0
  · exact c1
  · exact c2
  · exact c3
  · exact c4
  · exact c5
  · exact c6
theorem prods_news {w : World} {B : Nat} {A : Option Addr} {ps : List Pr} (h : ProdsAt w B A ps) : ∀ a, A = some a → ∀ j u, (ps.flatMap prCells)[j]? = some u → w.cell? (a.add j) = some u := by
  intro a ha j u hu
  have hj := (List.getElem?_eq_some_iff.1 hu).1
  rw [flat_len] at hj
  obtain ⟨b, o, e, _, hc⟩ := h (by omega)
  rw [ha] at e
  injection e with e
  subst e
  rw [Go.WideShapes.add_plain]
  have hi : j / 3 < ps.length := by omega
  have hr : ps[j / 3]? = some ps[j / 3] := List.getElem?_eq_getElem hi
  have hm : j % 3 < 3 := Nat.mod_lt _ (by omega)
  have e2 : j / 3 * 3 + j % 3 = j := by omega
  have hg := flat_get ps (j / 3) _ hr (j % 3) hm
  rw [e2, hu] at hg
  obtain ⟨c0, c1, c2⟩ := hc _ _ hr
  have e3 : o + j = o + j / 3 * 3 + j % 3 := by omega
  rw [e3, hg]
  have hcase : j % 3 = 0 ∨ j % 3 = 1 ∨ j % 3 = 2 := by omega
  rcases hcase with h | h | h <;> rw [h]
  · exact c0
  · exact c1
  · exact c2

set_option maxRecDepth 100000 in
set_option maxHeartbeats 4000000 in
theorem joined_any (A1 A2 : Option Addr) (xs ys : List Rc) (c1 c2 : Nat) (w : World) (B1 B2 : Nat) (hB1 : B1 ≤ w.heap.size) (hB2 : B2 ≤ w.heap.size) (hn1 : A1 = none → xs.length = 0 ∧ c1 = 0) (hn2 : A2 = none → ys.length = 0 ∧ c2 = 0)
    (hx : RecsAt w B1 A1 xs) (hy : RecsAt w B2 A2 ys) (hb : (xs.length + ys.length) * 72 ≤ 140737488355328) :
    Calls Try.prog 17 #[.slice A1 xs.length c1, .slice A2 ys.length c2] w fun e w' => ∃ v, e = .returned v ∧ OwnR w' w.heap.size v (xs ++ ys) ∧ Below w.heap.size w w' := by
  obtain ⟨i0, hi, hz0, hz1, hz2⟩ := info_parts info32
  have hx' : RecsAt (w.alloc (.cells #[] 32)) B1 A1 xs := hx.below ((Below.refl w.heap.size w).alloc (Nat.le_refl _) _ |>.mono hB1)
  have hem : (w.alloc (.cells #[] 32)).ownsRow w.heap.size 32 7 (.slice (some ⟨w.heap.size, 0, none⟩) 0 0) 0 [] := World.ownsRow_lit w #[] 0 (Nat.le_refl _) (by unfold maxLen; omega) (by simp)
  have Hy := Lib.hid hy
  have hsz : w.heap.size ≤ (w.alloc (.cells #[] 32)).heap.size := by simp
  have Hbw := Lib.hid ((Below.refl w.heap.size w).alloc (Nat.le_refl _) (.cells #[] 32))
  go_enter Try.func17, Try.ntmps17
  go_upto_region 2 with (first
    | (at_builtin; refine wpList_append_any _ rfl _ _ 23 rfl w.heap.size 32 i0 _ 7 72 Try.underlying23 hi hz0 hz1 hz2 rfl (by decide) _ 0 [] rfl hem A1 xs.length c1 rfl hn1 (xs.flatMap rcCells) (flat_lenR xs) (recs_news hx') recs_one
        (by unfold maxLen; omega) (by omega) hsz ?_; intro v1 w1 hown1 hgr1 hat1))
  have hb1 : Below w.heap.size w w1 := Hbw.out.grown hgr1 hsz (fun j hj => by have h : some w.heap.size = some j := hj; injection h with h; omega)
  have hy1 : RecsAt w1 B2 A2 ys := Hy.out.below (hb1.mono hB2)
  have hown2 : OwnR w1 w.heap.size v1 xs := by
    rw [Nat.zero_add, List.nil_append] at hown1
    exact hown1
  have Hb1 := Lib.hid hb1
  clear hown1 hgr1 hat1 hem hx' hsz hb1
  go_wp2_with (first
    | (at_builtin; refine wpList_append_any _ rfl _ _ 23 rfl w.heap.size 32 i0 _ 7 72 Try.underlying23 hi hz0 hz1 hz2 rfl (by decide) _ xs.length (xs.flatMap rcCells) rfl hown2 A2 ys.length c2 rfl hn2 (ys.flatMap rcCells) (flat_lenR ys) (recs_news hy1) recs_one
        (by unfold maxLen; omega) hb Hb1.out.size ?_; intro v2 w2 hown3 hgr3 hat3))
  go_ret
  refine ⟨v2, rfl, ?_, Hb1.out.grown hgr3 Hb1.out.size (fun j hj => (hown2.lt hj).1)⟩
  unfold OwnR
  rw [List.length_append, List.flatMap_append]
  exact hown3
end Go.Proofs.Ytmcahimapoddfaa
