/- Memory: blocks, producers and records in a row, the table as a map. Conditions: none. -/
import Derived.Test.YtmcahimapoddfaaPlain
import Derived.Test.YtmcahimapoddfaaShelf
import Derived.WalkKit
import Derived.BigQuiet
import Derived.Lib.Hide
import Derived.Deep.LoopGhost
import Derived.Deep.DeepCutAuto
import Derived.Deep.AppendLies
import Derived.OwnWalk
import Derived.StillTailTactics
import Derived.Maps.OwnSet
import Derived.Maps.Ext
namespace Go.Proofs.Ytmcahimapoddfaa
open Go.RowKit Go.Maps Go.Sort Go.Shelf

/-- Block g is just the cells cs of element type t, none frozen. -/
def Blk (w : World) (g : Nat) (t : TypeId) (cs : Array Value) : Prop := w.heap[g]? = some (.cells cs t (0, 0))
section
variable {w w' : World} {g : Nat} {t : TypeId} {cs : Array Value}
theorem Blk.lt (h : Blk w g t cs) : g < w.heap.size := by
  rcases Nat.lt_or_ge g w.heap.size with hlt | hge
  · exact hlt
  · unfold Blk at h; rw [Array.getElem?_eq_none hge] at h; cases h
theorem Blk.cell (h : Blk w g t cs) (i : Nat) : w.cell? ⟨g, i, none⟩ = cs[i]? := cell_of_row w g i cs t (0, 0) h
theorem Blk.frozen (h : Blk w g t cs) (i : Nat) : w.frozen? ⟨g, i, none⟩ = false := by
  unfold Blk at h
  simp [World.frozen?, h]
theorem Blk.new (w : World) (t : TypeId) (cs : Array Value) : Blk (w.alloc (.cells cs t)) w.heap.size t cs := heap_alloc_new w _
theorem Blk.drew (h : Blk w g t cs) : Blk w.drew g t cs := h
theorem Blk.drewN (h : Blk w g t cs) (n : Nat) : Blk (w.drewN n) g t cs := h
theorem Blk.alloc (h : Blk w g t cs) (o : Obj) : Blk (w.alloc o) g t cs := (Below.heap_alloc w o g h.lt).trans h
theorem Blk.set_ (h : Blk w g t cs) (i : Nat) (u : Value) : Blk (w.setCell ⟨g, i, none⟩ u) g t (cs.setIfInBounds i u) := by
  unfold Blk at h ⊢
  simp [World.setCell, Array.getElem?_modify, h]
theorem Blk.far (h : Blk w g t cs) {p : Addr} (hp : g ≠ p.block) (u : Value) : Blk (w.setCell p u) g t cs := (Below.heap_setCell w p u g hp).trans h
theorem Blk.below {B : Nat} (h : Blk w g t cs) (hb : Below B w w') (hg : g < B) : Blk w' g t cs := (hb.block g hg).trans h
theorem Blk.grown {row : Option Nat} (h : Blk w g t cs) (hb : w.grownBy w' row) (hg : some g ≠ row) : Blk w' g t cs := (hb.block g h.lt hg).trans h
end

def prCells (p : Pr) : List Value := [.int .i64 p.pid, .int .i64 p.seq, .int .i64 p.off]
def prV (p : Pr) : Value := .agg #[.int .i64 p.pid, .int .i64 p.seq, .int .i64 p.off]
def prD (p : Pr) : DataW Unit := .agg [.lit (.int .i64 p.pid), .lit (.int .i64 p.seq), .lit (.int .i64 p.off)]
/-- How an element of the table reads. -/
def R3 (v : Value) : Option (DataW Unit × List MemPlace) :=
  match v with
  | .agg a => match a.toList with
    | [.int .i64 x, .int .i64 y, .int .i64 z] => some (prD ⟨x, y, z⟩, [])
    | _ => none
  | _ => none
theorem R3_mk (p : Pr) : R3 (prV p) = some (prD p, []) := rfl
theorem R3_inv {v : Value} {z : DataW Unit × List MemPlace} (h : R3 v = some z) : ∃ p, v = prV p ∧ z = (prD p, []) := by
  unfold R3 at h
  split at h
  · split at h
    · rename_i a _ x y z' e
      injection h with h
      refine ⟨⟨x, y, z'⟩, ?_, h.symm⟩
      obtain ⟨lst⟩ := a
      have e' : lst = _ := e
      subst e'
      rfl
    · cases h
  · cases h
theorem prD_inj {p q : Pr} (h : prD p = prD q) : p = q := by
  obtain ⟨a, b, c⟩ := p
  obtain ⟨a', b', c'⟩ := q
  simp only [prD, DataW.agg.injEq, List.cons.injEq, DataW.lit.injEq, Lit.int.injEq, true_and, and_true] at h
  obtain ⟨rfl, rfl, rfl⟩ := h
  rfl
def ent (p : Pr) : Lit × DataW Unit := (.int .i64 p.pid, prD p)
def tabD (l : List Pr) : DataW Unit := .map (l.map ent)

theorem same_int (a b : Int) : (Lit.int .i64 a).sameKey (.int .i64 b) = (a == b) := by
  show decide (IntKind.i64 = IntKind.i64 ∧ a = b) = (a == b)
  by_cases h : a = b <;> simp [h]
theorem ins_ent (p : Pr) : ∀ l : List Pr, DataW.insert (ent p) (l.map ent) = (ins p l).map ent
  | [] => rfl
  | y :: r => by
    show DataW.insert (ent p) (ent y :: r.map ent) = _
    unfold DataW.insert ins
    have hb : (ent p).1.before (ent y).1 = decide (p.pid < y.pid) := rfl
    rw [hb]
    by_cases h : p.pid < y.pid
    · rw [if_pos (by simpa using h), if_pos h]; rfl
    · rw [if_neg (by simpa using h), if_neg h, ins_ent p r]; rfl
theorem put_tab (l : List Pr) (p : Pr) : (tabD l).put (.int .i64 p.pid) (prD p) = tabD (put l p) := by
  show DataW.map (DataW.insert (ent p) ((l.map ent).filter fun q => !q.1.sameKey (.int .i64 p.pid))) = DataW.map ((put l p).map ent)
  rw [List.filter_map, ins_ent]
  unfold put
  congr 3
  congr 1
  funext y
  simp only [Function.comp, ent, same_int]
theorem find_ent (k : Int) : ∀ l : List Pr, (l.map ent).find? (fun q => q.1.sameKey (.int .i64 k)) = (look l k).map ent
  | [] => rfl
  | y :: r => by
    unfold look
    rw [List.map_cons, List.find?_cons, List.find?_cons]
    have : (ent y).1.sameKey (.int .i64 k) = (y.pid == k) := same_int _ _
    rw [this]
    cases (y.pid == k)
    · exact find_ent k r
    · rfl
theorem at_tab (l : List Pr) (k : Int) (z : DataW Unit) : (tabD l).atKey (.int .i64 k) z = match look l k with | some p => prD p | none => z := by
  unfold tabD DataW.atKey
  dsimp only
  rw [find_ent]
  cases look l k <;> rfl
theorem has_tab (l : List Pr) (k : Int) : has (tabD l) (.int .i64 k) = (look l k).isSome := by
  show ((l.map ent).any fun q => q.1.sameKey (.int .i64 k)) = _
  rw [← List.isSome_find?, find_ent]
  cases look l k <;> rfl
theorem size_tab (l : List Pr) : Maps.size (tabD l) = l.length := by
  show (l.map ent).length = _
  simp
theorem keys_tab (l : List Pr) : intKeys (tabD l) = l.map (·.pid) := by
  unfold tabD intKeys
  dsimp only
  rw [List.map_map]
  rfl
theorem tabD_inj {l l' : List Pr} (h : tabD l = tabD l') : l = l' := by
  injection h with h
  induction l generalizing l' with
  | nil => cases l' with
    | nil => rfl
    | cons y r => cases h
  | cons x r ih => cases l' with
    | nil => cases h
    | cons y s =>
      injection h with h1 h2
      rw [ih h2, prD_inj (congrArg Prod.snd h1)]

theorem K2 : Keyed Try.prog 2 := int_keyed Try.underlying2
theorem key2 {k : Int} (h : -9223372036854775808 ≤ k ∧ k ≤ 9223372036854775807) : keyOf Try.prog 2 (.int .i64 k) = some (.int .i64 k) :=
  keyOf_int_mk Try.underlying2 (WalkArith.wf_i64 h)
def zPr : Pr := ⟨0, 0, 0⟩
theorem zero67 (w : World) : (zeroValue 67).run Try.prog w = .ok (prV zPr) w := by kernel_rfl

/-- Block m is the table l. -/
def Tab (w : World) (m : Nat) (l : List Pr) : Prop := w.ownsMap Try.prog 2 R3 m l.length (tabD l)
section
variable {w w' : World} {m : Nat} {l : List Pr}
theorem tight {n : Nat} {D : DataW Unit} (h : w.ownsMap Try.prog 2 R3 m n D) : w.ownsMap Try.prog 2 R3 m (Maps.size D) D := by
  obtain ⟨es, clock, hb, F, _, rfl⟩ := h
  exact ⟨es, clock, hb, F, by simp [Maps.size, length_sorted], rfl⟩
theorem Tab.of {n : Nat} (h : w.ownsMap Try.prog 2 R3 m n (tabD l)) : Tab w m l := by
  have := tight h
  rwa [size_tab] at this
theorem Tab.lt (h : Tab w m l) : m < w.heap.size := World.ownsMap.lt h
theorem Tab.below {B : Nat} (h : Tab w m l) (hb : Below B w w') (hg : m < B) : Tab w' m l := by
  obtain ⟨es, clock, hm, r⟩ := h
  exact ⟨es, clock, (hb.block m hg).trans hm, r⟩
theorem Tab.kept {row : Option Nat} (h : Tab w m l) (hg : w.grownBy w' row) (hne : some m ≠ row) : Tab w' m l := World.ownsMap.kept h hg hne
theorem Tab.alloc (h : Tab w m l) (o : Obj) : Tab (w.alloc o) m l := World.ownsMap.alloc h o
theorem Tab.drew (h : Tab w m l) : Tab w.drew m l := h
theorem Tab.drewN (h : Tab w m l) (n : Nat) : Tab (w.drewN n) m l := h
theorem Tab.setCell (h : Tab w m l) {a : Addr} (ha : m ≠ a.block) (u : Value) : Tab (w.setCell a u) m l := World.ownsMap.setCell h ha u
theorem Tab.made (w : World) : Tab (w.alloc (.map #[] 0)) w.heap.size [] := World.ownsMap_made w _ _ _
theorem Tab.rising (h : Tab w m l) : Rising l := by
  obtain ⟨es, he, hr, _⟩ := World.ownsMap.canon h K2
  injection he with he
  subst he
  have := List.pairwise_map.1 hr
  exact this.imp fun {a b} h => by
    have h' : decide (a.pid < b.pid) = true := h
    simpa using h'
theorem Tab.size_le (h : Tab w m l) : l.length ≤ maxLen := by
  obtain ⟨es, clock, _, F, _, e⟩ := h
  have : Maps.size (tabD l) = es.size := by rw [e]; simp [Maps.size, length_sorted]
  rw [size_tab] at this
  rw [this]
  exact F.size
/-- 'v, ok := t[k]'. -/
theorem Tab.look (h : Tab w m l) {k : Int} (hk : -9223372036854775808 ≤ k ∧ k ≤ 9223372036854775807) :
    (Instr.lookup 73 (.map (some m)) (.int .i64 k) true).run Try.prog w = .ok (.tuple #[prV ((look l k).getD zPr), .bool (look l k).isSome]) w := by
  obtain ⟨v, ps, hr, hv⟩ := World.ownsMap.look_ok h K2 Try.underlying73 (zero67 w) (R3_mk zPr) (key2 hk)
  obtain ⟨p, rfl, e⟩ := R3_inv hv
  rw [hr, has_tab]
  have e1 : (tabD l).atKey (.int .i64 k) (prD zPr) = prD p := congrArg Prod.fst e
  rw [at_tab] at e1
  have e2 : (Ytmcahimapoddfaa.look l k).getD zPr = p := by
    cases hf : Ytmcahimapoddfaa.look l k <;> rw [hf] at e1 <;> exact prD_inj e1
  rw [e2]
/-- 't[k]'. -/
theorem Tab.get (h : Tab w m l) {k : Int} (hk : -9223372036854775808 ≤ k ∧ k ≤ 9223372036854775807) :
    (Instr.lookup 73 (.map (some m)) (.int .i64 k) false).run Try.prog w = .ok (prV ((Ytmcahimapoddfaa.look l k).getD zPr)) w := by
  obtain ⟨v, ps, hr, hv⟩ := World.ownsMap.lookup h K2 Try.underlying73 (zero67 w) (R3_mk zPr) (key2 hk)
  obtain ⟨p, rfl, e⟩ := R3_inv hv
  rw [hr]
  have e1 : (tabD l).atKey (.int .i64 k) (prD zPr) = prD p := congrArg Prod.fst e
  rw [at_tab] at e1
  have e2 : (Ytmcahimapoddfaa.look l k).getD zPr = p := by
    cases hf : Ytmcahimapoddfaa.look l k <;> rw [hf] at e1 <;> exact prD_inj e1
  rw [e2]
theorem Tab.len (h : Tab w m l) (ty : TypeId) : (Builtin.len_ #[73] ty #[.map (some m)]).run Try.prog w = .ok (.int .i64 l.length) w := by
  have := World.ownsMap.len h Try.underlying73 ty
  rwa [size_tab] at this
/-- 't[p.Pid] = p'. -/
theorem Tab.store (h : Tab w m l) (hl : l.length < maxLen) {p : Pr} (hk : -9223372036854775808 ≤ p.pid ∧ p.pid ≤ 9223372036854775807) :
    ∃ w', (Instr.mapUpdate 73 (.map (some m)) (.int .i64 p.pid) (prV p)).run Try.prog w = .ok () w' ∧ Tab w' m (put l p) ∧ w.mapTurned w' m := by
  obtain ⟨w', hr, ho, ht⟩ := World.ownsMap.store h K2 Try.underlying73 hl (key2 hk) (R3_mk p)
  rw [put_tab] at ho
  exact ⟨w', hr, .of ho, ht⟩
end
/-- Behind address A lie the producers ps, below block B. -/
def ProdsAt (w : World) (B : Nat) (A : Option Addr) (ps : List Pr) : Prop :=
  0 < ps.length → ∃ b o, A = some ⟨b, o, none⟩ ∧ b < B ∧ ∀ i p, ps[i]? = some p →
    w.cell? ⟨b, o + i * 3, none⟩ = some (.int .i64 p.pid) ∧ w.cell? ⟨b, o + i * 3 + 1, none⟩ = some (.int .i64 p.seq) ∧ w.cell? ⟨b, o + i * 3 + 2, none⟩ = some (.int .i64 p.off)
/-- .. the records rs. -/
def RecsAt (w : World) (B : Nat) (A : Option Addr) (rs : List Rc) : Prop :=
  0 < rs.length → ∃ b o, A = some ⟨b, o, none⟩ ∧ b < B ∧ ∀ i r, rs[i]? = some r →
    w.cell? ⟨b, o + i * 7, none⟩ = some (.int .i64 r.kind) ∧ w.cell? ⟨b, o + i * 7 + 1, none⟩ = some (.int .i64 r.off) ∧ w.cell? ⟨b, o + i * 7 + 2, none⟩ = some (.int .i64 r.tim) ∧
    w.cell? ⟨b, o + i * 7 + 3, none⟩ = some (.int .i64 r.pid) ∧ w.cell? ⟨b, o + i * 7 + 4, none⟩ = some (.int .i64 r.seq) ∧
    w.cell? ⟨b, o + i * 7 + 5, none⟩ = some (.string r.key) ∧ w.cell? ⟨b, o + i * 7 + 6, none⟩ = some (.string r.val)
section
variable {w w' : World} {B B' : Nat}
theorem ProdsAt.below {A : Option Addr} {ps : List Pr} (h : ProdsAt w B A ps) (hb : Below B w w') : ProdsAt w' B A ps := fun h0 => by
  obtain ⟨b, o, e, hlt, hc⟩ := h h0
  exact ⟨b, o, e, hlt, fun i p hp => ⟨(hb.cell (p := ⟨b, _, none⟩) hlt).trans (hc i p hp).1, (hb.cell (p := ⟨b, _, none⟩) hlt).trans (hc i p hp).2.1, (hb.cell (p := ⟨b, _, none⟩) hlt).trans (hc i p hp).2.2⟩⟩
theorem ProdsAt.mono {A : Option Addr} {ps : List Pr} (h : ProdsAt w B A ps) (hB : B ≤ B') : ProdsAt w B' A ps := fun h0 => by
  obtain ⟨b, o, e, hlt, hc⟩ := h h0
  exact ⟨b, o, e, by omega, hc⟩
theorem RecsAt.below {A : Option Addr} {rs : List Rc} (h : RecsAt w B A rs) (hb : Below B w w') : RecsAt w' B A rs := fun h0 => by
  obtain ⟨b, o, e, hlt, hc⟩ := h h0
  have hx : ∀ j, w'.cell? ⟨b, j, none⟩ = w.cell? ⟨b, j, none⟩ := fun j => hb.cell (p := ⟨b, j, none⟩) hlt
  refine ⟨b, o, e, hlt, fun i r hr => ?_⟩
  simp only [hx]
  exact hc i r hr
theorem RecsAt.mono {A : Option Addr} {rs : List Rc} (h : RecsAt w B A rs) (hB : B ≤ B') : RecsAt w B' A rs := fun h0 => by
  obtain ⟨b, o, e, hlt, hc⟩ := h h0
  exact ⟨b, o, e, by omega, hc⟩
end
/-- A table behind a pointer: its cell b, its map m, both from block B on. -/
structure TabAt (w : World) (B b m : Nat) (l : List Pr) : Prop where
  cell : Blk w b 75 #[.map (some m)]
  tab : Tab w m l
  lb : B ≤ b
  lm : B ≤ m
  ne : b ≠ m
section
variable {w w' : World} {B b m : Nat} {l : List Pr}
theorem TabAt.below {C : Nat} (h : TabAt w B b m l) (hb : Below C w w') (hC : w.heap.size ≤ C) : TabAt w' B b m l :=
  ⟨h.cell.below hb (by have := h.cell.lt; omega), h.tab.below hb (by have := h.tab.lt; omega), h.lb, h.lm, h.ne⟩
theorem TabAt.turned {l' : List Pr} (h : TabAt w B b m l) (ht : w.mapTurned w' m) (hn : Tab w' m l') : TabAt w' B b m l' :=
  ⟨h.cell.grown ht.grown (by intro e; injection e with e; exact h.ne e), hn, h.lb, h.lm, h.ne⟩
end
theorem below_drewN {B : Nat} {a w : World} (h : Below B a w) (n : Nat) : Below B a (w.drewN n) := h.trans ⟨rfl, rfl, rfl, Nat.le_refl _, fun _ _ => rfl⟩
theorem below_turned {B m : Nat} {a w w' : World} (h : Below B a w) (ht : w.mapTurned w' m) (hm : B ≤ m) (hB : B ≤ w.heap.size) : Below B a w' :=
  h.grown ht.grown hB (fun j hj => by injection hj with hj; omega)
end Go.Proofs.Ytmcahimapoddfaa
