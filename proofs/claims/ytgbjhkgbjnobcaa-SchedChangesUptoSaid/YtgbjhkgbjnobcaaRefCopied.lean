/- The walk of the document's Copied: the turns in memory of their own. Conditions: the turns are readable, their lists within reach. -/
import Derived.Test.YtgbjhkgbjnobcaaQMem
import Derived.Deep.AppendLies
namespace Go.Proofs.Ytgbjhkgbjnobcaa
open Go.RowKit Trn

section
variable {P : Program} (w : World)
/-- An append of a list of nothing. -/
theorem run_append_none_any (base : Nat) (t ty e : TypeId) (i : TypeInfo) (size : Nat) (ht : P.underlying t = some (.slice e)) (hi : P.info? e = some i)
    (v : Value) (n : Nat) (xs : List Value) (c : Nat) (hown : w.ownsRow base e size v n xs) :
    (Builtin.append_ #[t, t] ty #[v, .slice none 0 c]).run P w = .ok v w := by
  rcases hown.2 with ⟨rfl, rfl⟩ | ⟨g, cap, cur, rfl, _, _, hnc, _⟩
  · simp [Builtin.append_, run_underlying ht, sizeOf, typeInfo, hi, Builtin.lenOf, Builtin.firstCells]
  · simp [Builtin.append_, run_underlying ht, sizeOf, typeInfo, hi, Builtin.lenOf, Builtin.firstCells, hnc, storeCells]
/-- An append of any slice that can be read, the nil one too. -/
theorem run_append_any (base : Nat) (t ty e : TypeId) (i : TypeInfo) (z : Value) (size bytes : Nat) (ht : P.underlying t = some (.slice e)) (hi : P.info? e = some i) (hz : i.zero = some z)
    (hsize : i.size = size) (hby : i.bytes = bytes) (hzs : z.cells.size = size) (hsz : 0 < size)
    (v : Value) (n : Nat) (xs : List Value) (hown : w.ownsRow base e size v n xs)
    (A : Option Addr) (m c : Nat) (hA : A = none → m = 0) (news : List Value) (hl : news.length = m * size) (hnews : ∀ a, A = some a → ∀ j u, news[j]? = some u → w.cell? (a.add j) = some u) (h1 : ∀ u ∈ news, u.oneCell' = true)
    (h63 : n + m ≤ maxLen) (hbytes : (n + m) * bytes ≤ 140737488355328) (hbase : base ≤ w.heap.size) :
    ∃ v' w', (Builtin.append_ #[t, t] ty #[v, .slice A m c]).run P w = .ok v' w' ∧ w'.ownsRow base e size v' (n + m) (xs ++ news) ∧ w.grownBy w' v.ownBlock ∧ (v'.ownBlock = v.ownBlock ∨ v'.ownBlock = some w.heap.size) := by
  cases A with
  | none =>
    obtain rfl := hA rfl
    have hr := run_append_none_any (P := P) w base t ty e i size ht hi v n xs c hown
    have hn : news = [] := List.eq_nil_of_length_eq_zero (by omega)
    subst hn
    refine ⟨v, w, hr, by simpa using hown, ⟨rfl, rfl, rfl, Nat.le_refl _, fun _ _ _ => rfl⟩, .inl rfl⟩
  | some a =>
    obtain ⟨v', w', hr, h2, h3, _, h5⟩ := run_append_own_at (P := P) w base t ty e i z size bytes ht hi hz hsize hby hzs hsz v n xs hown a m c news hl (hnews a rfl) h1 h63 hbytes hbase
    exact ⟨v', w', hr, h2, h3, h5⟩
theorem wpList_append_any {ops : Array Oper} {rest : List Oper} {o : Oper} {a : Act} {Q : Exit → Act → World → Prop} (hgd : o.guard = none) (s x : Operand) (t : TypeId)
    (ho : o.op = .call { callee := .builtin .append, args := #[s, x], argTypes := #[t, t] })
    (base : Nat) (e : TypeId) (i : TypeInfo) (z : Value) (size bytes : Nat) (ht : P.underlying t = some (.slice e)) (hi : P.info? e = some i) (hz : i.zero = some z)
    (hsize : i.size = size) (hby : i.bytes = bytes) (hzs : z.cells.size = size) (hsz : 0 < size)
    (v : Value) (n : Nat) (xs : List Value) (hs : a.eval s = v) (hown : w.ownsRow base e size v n xs)
    (A : Option Addr) (m c : Nat) (hx : a.eval x = .slice A m c) (hA : A = none → m = 0) (news : List Value) (hl : news.length = m * size) (hnews : ∀ a, A = some a → ∀ j u, news[j]? = some u → w.cell? (a.add j) = some u) (h1 : ∀ u ∈ news, u.oneCell' = true)
    (h63 : n + m ≤ maxLen) (hbytes : (n + m) * bytes ≤ 140737488355328) (hbase : base ≤ w.heap.size)
    (h : ∀ v' w', w'.ownsRow base e size v' (n + m) (xs ++ news) → w.grownBy w' v.ownBlock → (v'.ownBlock = v.ownBlock ∨ v'.ownBlock = some w.heap.size) → wpList P ops Q rest (a.put o.dst v') w') :
    wpList P ops Q (o :: rest) a w := by
  refine wpList_plain hgd fun K hK => ?_
  obtain ⟨v', w', hr, h2, h3, h4⟩ := run_append_any (P := P) w base t o.type e i z size bytes ht hi hz hsize hby hzs hsz v n xs hown A m c hA news hl hnews h1 h63 hbytes hbase
  unfold Oper.wp execOp
  simp only [ho, resolve, invoke, builtin, Sem.run_bind, Sem.run_pure, Result.andThen_ok, List.map_toArray, List.map_cons, List.map_nil, hs, hx, hr]
  exact hK _ _ (h v' w' h2 h3 h4)
end

theorem OwnInts.toAt {w : World} {base : Nat} {v : Value} {xs : List Int} (h : OwnInts w base v xs) : ∃ A c, v = .slice A xs.length c ∧ xs.length ≤ c ∧ c ≤ maxLen ∧ IntsAt w w.heap.size A xs := h.read (Nat.le_refl _)
/-- Turns of their own: the queues' row, and what it says. -/
def TuG (w : World) (base : Nat) (v : Value) (t : Tu) : Prop := ∃ vq l, v = .agg #[vq, .int .i64 t.at_, .bool t.fr] ∧ GQ w base vq l ∧ l.map (·.1) = t.qs

set_option maxRecDepth 100000 in
set_option maxHeartbeats 8000000 in
theorem refcopied_any (v : Value) (t : Tu) (w : World) (B : Nat) (hB : B ≤ w.heap.size) (hv : TuAt w B v t) (hr : Reach t) (hlen : t.qs.length * 48 ≤ 140737488355328) :
    Calls Try.prog 31 #[v] w fun e w' => ∃ v', e = .returned v' ∧ TuG w' (w.heap.size + 3) v' t ∧ Below w.heap.size w w' := by
  obtain ⟨A, c, rfl, hlc, hcm, hq⟩ := hv
  unfold maxLen at hcm
  obtain ⟨i0, hi, hz0, hz1, hz2⟩ := info_parts info3
  obtain ⟨i1, hi', hz0', hz1', hz2'⟩ := info_parts info51
  have Hq := Lib.hid hq
  have Hr := Lib.hid hr
  have hx := ((Boxed.start w A t.qs.length c t.at_ t.fr).alloc (.cells #[.slice none 0 0, .int .i64 0, .bool false] 34)).alloc (.cells #[.slice none 0 0, .int .i64 t.at_, .bool t.fr] 34)
  have hres := (Blk.new (w.alloc (.cells #[.slice A t.qs.length c, .int .i64 t.at_, .bool t.fr] 34)) 34 #[.slice none 0 0, .int .i64 0, .bool false]).alloc (.cells #[.slice none 0 0, .int .i64 t.at_, .bool t.fr] 34)
  have hcb := Blk.new ((w.alloc (.cells #[.slice A t.qs.length c, .int .i64 t.at_, .bool t.fr] 34)).alloc (.cells #[.slice none 0 0, .int .i64 0, .bool false] 34)) 34 #[.slice none 0 0, .int .i64 t.at_, .bool t.fr]
  rw [World.size_alloc] at hres
  rw [World.size_alloc, World.size_alloc] at hcb
  clear hq hr
  go_enter Try.func31, Try.ntmps31
  go_upto_region 2 with fail
  generalize hW1 : World.alloc (World.alloc (World.alloc _ _) _) _ = W1 at *
  clear hW1
  have HX := Lib.hid hx
  have HR := Lib.hid hres
  have HC := Lib.hid hcb
  clear hx hres hcb
  go_wp2
  go_loopg [4] t.qs.length (fun g vi wr => ∃ (k : Nat) (vq : Value) (l : List (Qu × Value)), g + k = t.qs.length ∧ vi = .int .i64 (k : Nat) ∧ GQ wr (w.heap.size + 3) vq l ∧ l.map (·.1) = t.qs.take k ∧
    Blk wr (w.heap.size + 1 + 1) 34 #[vq, .int .i64 t.at_, .bool t.fr] ∧ Blk wr (w.heap.size + 1) 34 #[.slice none 0 0, .int .i64 0, .bool false] ∧ Boxed w A t.qs.length c t.at_ t.fr wr)
  case atStart => exact ⟨0, .slice none 0 0, [], by omega, rfl, GQ.nil _ _, by simp, HC.out, HR.out, HX.out⟩
  case round =>
    obtain ⟨k, vq, l, hk, rfl, hG, hl, hcb, hres, hm⟩ := hrel
    have hkn : k ≤ t.qs.length := by omega
    have Hk := Lib.hid hk
    have HG := Lib.hid hG
    have Hl := Lib.hid hl
    have HC := Lib.hid hcb
    have HR := Lib.hid hres
    have Hm := Lib.hid hm
    have hll : l.length = k := by have := congrArg List.length hl; simp at this; omega
    obtain ⟨x0, x1, x2⟩ := hm.cells
    have Hll := Lib.hid hll
    clear hll
    by_cases hkl : k < t.qs.length
    · have hki : (k : Int) < t.qs.length := by omega
      have hq' := Hq.out.below (hm.below.mono hB)
      obtain ⟨b, o, q, rfl, hbl, hqk, q0, q1, q2, Aq, cq, q3, hcq, hcqm, hin⟩ := hq'.at_ hkl
      have Hqk := Lib.hid hqk
      have hrq := Hr.out q (List.mem_of_getElem? hqk)
      have hbw : b < wr.heap.size := by have := hm.below.size; omega
      have hAq : Aq = none → q.cs.length = 0 := fun e => by
        rcases Nat.eq_zero_or_pos q.cs.length with h0 | h0
        · exact h0
        · obtain ⟨_, _, e', _⟩ := hin h0
          rw [e] at e'
          cases e'
      have Hin := Lib.hid hin
      have HAq := Lib.hid hAq
      have hws : w.heap.size + 1 + 1 < wr.heap.size := hcb.lt
      clear hq' hqk hin hAq hk hG hl hcb hres hm
      unfold maxLen at hcqm
      go_upto_region 6 with fail
      have hba := (Below.refl wr.heap.size wr).alloc (Nat.le_refl _) (.cells #[.int .i64 q.id, .int .i64 q.qu, .int .i64 q.de, .slice Aq q.cs.length cq] 51)
      have hb6 := Blk.new wr 51 #[.int .i64 q.id, .int .i64 q.qu, .int .i64 q.de, .slice Aq q.cs.length cq]
      have q3a := (hba.cell (p := ⟨b, o + k * 4 + 3, none⟩) hbw).trans q3
      have hsa : (wr.alloc (.cells #[.int .i64 q.id, .int .i64 q.qu, .int .i64 q.de, .slice Aq q.cs.length cq] 51)).heap.size = wr.heap.size + 1 := by simp
      clear q0 q1 q2 q3 x0 x1 x2
      generalize hWa : wr.alloc (.cells #[.int .i64 q.id, .int .i64 q.qu, .int .i64 q.de, .slice Aq q.cs.length cq] 51) = wa at *
      clear hWa
      have hbb := (Below.refl wa.heap.size wa).alloc (Nat.le_refl _) (.cells #[] 3)
      have hab := hba.trans (hbb.mono (by omega))
      have q3b := (hbb.cell (p := ⟨b, o + k * 4 + 3, none⟩) (by show b < _; omega)).trans q3a
      have hmb := Hm.out.more hab
      have hinb := Hin.out.below (hab.mono (by have := Hm.out.below.size; omega))
      have hnews : ∀ a, Aq = some a → ∀ j u, (q.cs.map (Value.int .i64))[j]? = some u → (wa.alloc (.cells #[] 3)).cell? (a.add j) = some u := fun a e => by subst e; exact ints_news hinb
      have hem : (wa.alloc (.cells #[] 3)).ownsRow wa.heap.size 3 1 (.slice (some ⟨wa.heap.size, 0, none⟩) 0 0) 0 [] := World.ownsRow_lit wa #[] 0 (Nat.le_refl _) (by unfold maxLen; omega) (by simp)
      have Hb6 := Lib.hid hb6
      have Hbb := Lib.hid hbb
      have Hba := Lib.hid hba
      obtain ⟨x0, x1, x2⟩ := hmb.cells
      have Hsa := Lib.hid hsa
      clear hab hmb hinb hbb hba q3a hsa
      go_upto_region 7 with (first
        | (at_builtin; refine wpList_append_any _ rfl _ _ 30 rfl wa.heap.size 3 i0 (.int .i64 0) 1 8 Try.underlying30 hi hz0 hz1 hz2 rfl (by decide) _ 0 [] rfl hem Aq q.cs.length cq rfl HAq.out (q.cs.map (Value.int .i64)) (by simp) hnews (by intro u hu; obtain ⟨x, _, rfl⟩ := List.mem_map.1 hu; rfl) (by unfold maxLen; omega) (by omega) (by simp) ?_; intro u w6 hown hgr hat; rw [Nat.zero_add] at hown; obtain ⟨Au, cu, hu, _, _⟩ := row_shape hown; subst hu; have h66 := (Hb6.out.alloc (.cells #[] 3)).grownBy hgr (by intro e; have e' : some wa.heap.size = some wr.heap.size := e; injection e' with e'; have := Hsa.out; omega); have t0 := h66.cell 0; have t1 := h66.cell 1; have t2 := h66.cell 2; have t3 := h66.cell 3; have tf := h66.frozen 3; simp only [List.getElem?_toArray, List.getElem?_cons_zero, List.getElem?_cons_succ] at t0 t1 t2 t3; have Hown := Lib.hid hown; have Hgr := Lib.hid hgr; have H66 := Lib.hid h66; clear hown hgr hat h66 hem hnews q3b))
      have hsa := Hsa.out
      have hbr : Below wr.heap.size wr (w6.setCell ⟨wr.heap.size, 3, none⟩ (.slice Au q.cs.length cu)) := ((Hba.out.trans (Hbb.out.mono (by omega))).grown Hgr.out (by simp; omega) (fun j hj => by have e : some wa.heap.size = some j := hj; injection e with e; omega)).setCell (p := ⟨wr.heap.size, 3, none⟩) (Nat.le_refl _) _
      have h77 : Blk (w6.setCell ⟨wr.heap.size, 3, none⟩ (.slice Au q.cs.length cu)) wr.heap.size 51 #[.int .i64 q.id, .int .i64 q.qu, .int .i64 q.de, .slice Au q.cs.length cu] := by
        have := H66.out.set_ 3 (.slice Au q.cs.length cu)
        simpa using this
      have hou : OwnInts (w6.setCell ⟨wr.heap.size, 3, none⟩ (.slice Au q.cs.length cu)) wa.heap.size (.slice Au q.cs.length cu) q.cs := by
        have h1 : OwnInts w6 wa.heap.size (.slice Au q.cs.length cu) q.cs := Hown.out
        exact h1.setCell (fun e => by have e' : (Value.slice Au q.cs.length cu).ownBlock = some wr.heap.size := e; have := (h1.lt e').1; omega) _
      clear t0 t1 t2 t3 tf x0 x1 x2 H66 Hown Hgr Hba Hbb Hb6
      generalize hW7 : w6.setCell ⟨wr.heap.size, 3, none⟩ (.slice Au q.cs.length cu) = w7 at *
      clear hW7
      have hG7 := HG.out.below hbr
      have hC7 := HC.out.below hbr HC.out.lt
      have hR7 := HR.out.below hbr HR.out.lt
      have hm7 := Hm.out.more hbr
      obtain ⟨Av, cv, hvq, _, _⟩ := row_shape hG7.row
      subst hvq
      have t0 := h77.cell 0
      have t1 := h77.cell 1
      have t2 := h77.cell 2
      have t3 := h77.cell 3
      simp only [List.getElem?_toArray, List.getElem?_cons_zero, List.getElem?_cons_succ] at t0 t1 t2 t3
      have y0 := hC7.cell 0
      simp only [List.getElem?_toArray, List.getElem?_cons_zero] at y0
      have hs7 : wr.heap.size ≤ w7.heap.size := hbr.size
      have HG7 := Lib.hid hG7
      have HC7 := Lib.hid hC7
      have HR7 := Lib.hid hR7
      have Hm7 := Lib.hid hm7
      have Hou := Lib.hid hou
      have Hbr := Lib.hid hbr
      clear h77 hG7 hC7 hR7 hm7 hou hbr
      go_wp2_with (first
        | (at_builtin; refine wpList_append_lies _ rfl _ _ 32 rfl (w.heap.size + 3) 51 i1 (.agg #[.int .i64 0, .int .i64 0, .int .i64 0, .slice none 0 0]) 4 48 Try.underlying32 hi' hz0' hz1' hz2' rfl (by decide) _ l.length (l.flatMap quCells) rfl (World.ownsRow.alloc HG7.out.row _) ⟨w7.heap.size, 0, none⟩ 1 1 (quCells (q, .slice Au q.cs.length cu)) rfl rfl (World.news_of_block (heap_alloc_new _ _)) (by simp [quCells, Value.oneCell']) (by decide) (by have := Hll.out; unfold maxLen; omega) (by have := Hll.out; omega) (by simp; omega) _ rfl ?_; intro g9 cap9 w9 hown9 hgr9 hat9 hlt9; have hC9 := (HC7.out.alloc (.cells #[.int .i64 q.id, .int .i64 q.qu, .int .i64 q.de, .slice Au q.cs.length cu] 51)).grownBy hgr9 (by intro e; have := (HG7.out.lt (.inl e)).1; omega); have z0 := hC9.cell 0; have zf := hC9.frozen 0; simp only [List.getElem?_toArray, List.getElem?_cons_zero] at z0; have HC9 := Lib.hid hC9; have Hown9 := Lib.hid hown9; have Hgr9 := Lib.hid hgr9; have Hat9 := Lib.hid hat9; clear hC9 hown9 hgr9 hat9))
      have hk := Hk.out
      have hab := Hbr.out.alloc Hbr.out.size (.cells #[.int .i64 q.id, .int .i64 q.qu, .int .i64 q.de, .slice Au q.cs.length cu] 51)
      have hgr9 : (w7.alloc (.cells #[.int .i64 q.id, .int .i64 q.qu, .int .i64 q.de, .slice Au q.cs.length cu] 51)).grownBy w9 (Value.slice Av l.length cv).ownBlock := Hgr9.out
      have hat9 : (Value.slice Av l.length cv).ownBlock = some g9 ∨ g9 = (w7.alloc (.cells #[.int .i64 q.id, .int .i64 q.qu, .int .i64 q.de, .slice Au q.cs.length cu] 51)).heap.size := Hat9.out
      have hGN := GQ.add (q := q) (u := .slice Au q.cs.length cu) HG.out hab ((Hou.out.mono (by have := Hsa.out; omega)).keep fun j hj => Below.heap_alloc w7 _ j (Hou.out.lt hj).2) (fun j hj => by have := (Hou.out.lt hj).1; have := Hsa.out; omega) Hown9.out rfl hgr9 (by
        rcases hat9 with h | h
        · exact .inl h.symm
        · exact .inr (by rw [← h]; rfl))
      have hbig : ∀ b', (Value.slice Av l.length cv).ownBlock = some b' → w.heap.size + 3 ≤ b' := fun b' hb' => (HG.out.lt (.inl hb')).1
      have hR9 := (HR7.out.alloc (.cells #[.int .i64 q.id, .int .i64 q.qu, .int .i64 q.de, .slice Au q.cs.length cu] 51)).grownBy hgr9 (by intro e; have := hbig _ e; omega)
      have hm9 : Boxed w (some { block := b, off := o }) t.qs.length c t.at_ t.fr w9 := by
        have h1 := Hm7.out.alloc (.cells #[.int .i64 q.id, .int .i64 q.qu, .int .i64 q.de, .slice Au q.cs.length cu] 51)
        exact ⟨h1.box.grownBy hgr9 (by intro e; have := hbig _ e; omega), h1.below.grown hgr9 h1.below.size (fun j hj => by have := hbig j hj; omega)⟩
      have hcs := HC9.out.set_ 0 (.slice (some ⟨g9, 0, none⟩) (l.length + 1) cap9)
      have hGf : GQ (w9.setCell ⟨w.heap.size + 1 + 1, 0, none⟩ (.slice (some ⟨g9, 0, none⟩) (l.length + 1) cap9)) (w.heap.size + 3) (.slice (some ⟨g9, 0, none⟩) (l.length + 1) cap9) (l ++ [(q, .slice Au q.cs.length cu)]) :=
        hGN.keep fun j hj => Below.heap_setCell w9 _ _ j (by have := (hGN.lt hj).1; simp; omega)
      go_roundg (gk - 1)
      case measure => omega
      case rel => exact ⟨k + 1, _, _, by omega, by go_num, hGf, by rw [List.map_append, Hl.out, List.take_add_one, Hqk.out]; rfl, by simpa using hcs, hR9.far (by simp <;> omega) _, ⟨hm9.box.far (by simp <;> omega) _, hm9.below.setCell (by simp; omega) _⟩⟩
    · have hki : ¬ (k : Int) < t.qs.length := by omega
      have hke : k = t.qs.length := by omega
      have y0 := HC.out.cell 0
      have y1 := HC.out.cell 1
      have y2 := HC.out.cell 2
      simp only [List.getElem?_toArray, List.getElem?_cons_zero, List.getElem?_cons_succ] at y0 y1 y2
      have r0 := HR.out.cell 0
      have r1 := HR.out.cell 1
      have r2 := HR.out.cell 2
      simp only [List.getElem?_toArray, List.getElem?_cons_zero, List.getElem?_cons_succ] at r0 r1 r2
      have f0 := HR.out.frozen 0
      have f1 := HR.out.frozen 1
      have f2 := HR.out.frozen 2
      obtain ⟨Av, cv, hvq, _, _⟩ := row_shape HG.out.row
      subst hvq
      clear hke
      go_wp2
      have hfin := ((HR.out.set_ 0 (.slice Av l.length cv)).set_ 1 (.int .i64 t.at_)).set_ 2 (.bool t.fr)
      have s0 := hfin.cell 0
      have s1 := hfin.cell 1
      have s2 := hfin.cell 2
      simp at s0 s1 s2
      have ht : Touch (w.heap.size + 1) wr (((wr.setCell ⟨w.heap.size + 1, 0, none⟩ (.slice Av l.length cv)).setCell ⟨w.heap.size + 1, 1, none⟩ (.int .i64 t.at_)).setCell ⟨w.heap.size + 1, 2, none⟩ (.bool t.fr)) := (((Touch.refl _ _).set_ 0 _).set_ 1 _).set_ 2 _
      have hk := Hk.out
      refine bodyPost_ret (v := .agg #[.slice Av l.length cv, .int .i64 t.at_, .bool t.fr]) (by simp [results, Try.results31, go_sem, s0, s1, s2]) rfl
        ⟨_, rfl, ⟨_, l, rfl, HG.out.keep fun j hj => ht.block j (by have := (HG.out.lt hj).1; omega), ?_⟩, Hm.out.below.trans (ht.below (by omega))⟩
      rw [Hl.out, List.take_of_length_le (by omega)]
end Go.Proofs.Ytgbjhkgbjnobcaa
