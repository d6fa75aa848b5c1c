/- The memory of sched.Next while it looks. Conditions: the turns are readable, their lists within reach. -/
import Derived.Test.YtgbjhkgbjnobcaaGoOn
namespace Go.Proofs.Ytgbjhkgbjnobcaa
open Go.RowKit Trn

theorem OwnInts.ne_blk {w : World} {base x : Nat} {v : Value} {xs : List Int} {ty : TypeId} {cs : Array Value} (h : OwnInts w base v xs) (hx : Blk w x ty cs) (ht : ty ≠ 3) : v.ownBlock ≠ some x := by
  obtain ⟨_, h⟩ := h
  rcases h with ⟨rfl, _⟩ | ⟨b', cap, cur, rfl, _, hh, _⟩
  · simp [Value.ownBlock]
  · intro he
    injection he with he
    subst he
    have hq' : w.heap[b']? = some (.cells cs ty (0, 0)) := hx
    rw [hh] at hq'
    injection hq' with hq'
    injection hq' with _ h2 _
    exact ht h2.symm
theorem Blk.ne {w : World} {x y : Nat} {s t : TypeId} {cs ds : Array Value} (h : Blk w x s cs) (k : Blk w y t ds) (hst : s ≠ t) : x ≠ y := by
  intro e
  subst e
  have h1 : w.heap[x]? = some (.cells cs s (0, 0)) := h
  have h2 : w.heap[x]? = some (.cells ds t (0, 0)) := k
  rw [h1] at h2
  injection h2 with h2
  injection h2 with _ h2 _
  exact hst h2
/-- The memory while it looks. -/
structure NM (w : World) (g cb : Nat) (t : Tu) (wr : World) : Prop where
  below : Below w.heap.size w wr
  res : Blk wr (w.heap.size + 1) 34 #[.slice none 0 0, .int .i64 0, .bool false]
  gg : w.heap.size + 1 < g
  gc : w.heap.size + 1 < cb
  cblk : Blk wr cb 34 #[.slice (some ⟨g, 0, none⟩) t.qs.length t.qs.length, .int .i64 t.at_, .bool t.fr]
  own : ∃ l, OwnQs wr (w.heap.size + 2) g l ∧ l.map (·.1) = t.qs
section
variable {w wr w1 : World} {g cb : Nat} {t : Tu}
theorem NM.ne (h : NM w g cb t wr) : g ≠ cb := by
  obtain ⟨l, ho, _⟩ := h.own
  exact Blk.ne ho.blk h.cblk (by decide)
/-- The box of the turns is written. -/
theorem NM.touch (h : NM w g cb t wr) (ht : Touch cb wr w1) {at_ : Int} {fr : Bool} (hc : Blk w1 cb 34 #[.slice (some ⟨g, 0, none⟩) t.qs.length t.qs.length, .int .i64 at_, .bool fr]) :
    NM w g cb { t with at_ := at_, fr := fr } w1 := by
  obtain ⟨l, ho, hl⟩ := h.own
  have hlt := h.gc
  refine ⟨h.below.trans (ht.below (by omega)), ht.blk h.res (by omega), h.gg, h.gc, hc, l, ⟨ht.blk ho.blk h.ne, ho.ge, fun i p hp => (ho.own i p hp).keep fun b hb => ht.block b ?_, ho.apart⟩, hl⟩
  exact fun e => (ho.own i p hp).ne_blk h.cblk (by decide) (by rw [hb, e])
theorem NM.drew (h : NM w g cb t wr) : NM w g cb t wr.drew := by
  have := h.touch (Touch.refl cb wr).drew (Blk.drew h.cblk)
  exact this
theorem NM.fresh (h : NM w g cb t wr) (b : Bool) : NM w g cb { t with fr := b } (wr.setCell ⟨cb, 2, none⟩ (.bool b)) := by
  have h1 := h.cblk.set_ 2 (.bool b)
  have h2 : Blk (wr.setCell ⟨cb, 2, none⟩ (.bool b)) cb 34 #[.slice (some ⟨g, 0, none⟩) t.qs.length t.qs.length, .int .i64 t.at_, .bool b] := by simpa using h1
  exact h.touch ((Touch.refl cb wr).set_ 2 _) h2
/-- A row's cells. -/
theorem NM.row_at (h : NM w g cb t wr) {a : Nat} {q : Qu} (hq : t.qs[a]? = some q) : ∃ A c, q.cs.length ≤ c ∧ c ≤ maxLen ∧ IntsAt wr wr.heap.size A q.cs ∧
    wr.cell? ⟨g, a * 4, none⟩ = some (.int .i64 q.id) ∧ wr.cell? ⟨g, a * 4 + 1, none⟩ = some (.int .i64 q.qu) ∧ wr.cell? ⟨g, a * 4 + 2, none⟩ = some (.int .i64 q.de) ∧ wr.cell? ⟨g, a * 4 + 3, none⟩ = some (.slice A q.cs.length c) := by
  obtain ⟨l, ho, hl⟩ := h.own
  have hr := ho.read (Nat.le_refl _)
  rw [hl] at hr
  obtain ⟨b, o, e, hb, hc⟩ := hr (by have := (List.getElem?_eq_some_iff.1 hq).1; omega)
  injection e with e
  injection e with e1 e2 _
  subst e1 e2
  obtain ⟨c0, c1, c2, A, c, c3, h4, h5, h6⟩ := hc a q hq
  rw [Nat.zero_add] at c0 c1 c2 c3
  exact ⟨A, c, h4, h5, h6, c0, c1, c2, c3⟩
theorem NM.row_free (h : NM w g cb t wr) (i : Nat) : wr.frozen? ⟨g, i, none⟩ = false := by
  obtain ⟨l, ho, hl⟩ := h.own
  exact Blk.frozen ho.blk i
/-- A deficit is written. -/
theorem NM.setDe (h : NM w g cb t wr) {a : Nat} {q : Qu} (hq : t.qs[a]? = some q) (d : Int) : NM w g cb { t with qs := t.qs.set a { q with de := d } } (wr.setCell ⟨g, a * 4 + 2, none⟩ (.int .i64 d)) := by
  obtain ⟨l, ho, hl⟩ := h.own
  have hgg := h.gg
  have hne := h.ne
  have hla : ∃ v, l[a]? = some (q, v) := by
    rw [← hl, List.getElem?_map] at hq
    obtain ⟨p, hp, hpq⟩ := Option.map_eq_some_iff.1 hq
    exact ⟨p.2, by rw [hp, ← hpq]⟩
  obtain ⟨v, hv⟩ := hla
  have hrow : (rows l)[a]? = some (row q v) := by rw [rows, List.getElem?_map, hv]; rfl
  refine ⟨h.below.setCell (by simp <;> omega) _, h.res.far (by simp <;> omega) _, h.gg, h.gc, ?_, l.set a ({ q with de := d }, v), ⟨?_, ho.ge, ?_, ?_⟩, ?_⟩
  · have := h.cblk.far (p := ⟨g, a * 4 + 2, none⟩) (fun e => hne e.symm) (.int .i64 d)
    simpa using this
  · have := ho.blk.set2 hrow (.int .i64 d)
    rw [rows, List.map_set]
    exact this
  · intro i p hp
    have hp' : ∃ p0, l[i]? = some p0 ∧ p0.2 = p.2 ∧ p0.1.cs = p.1.cs := by
      by_cases hi : a = i
      · subst hi
        rw [List.getElem?_set_self (List.getElem?_eq_some_iff.1 hv).1] at hp
        injection hp with hp
        subst hp
        exact ⟨_, hv, rfl, rfl⟩
      · rw [List.getElem?_set_ne hi] at hp
        exact ⟨p, hp, rfl, rfl⟩
    obtain ⟨p0, h1, h2, h3⟩ := hp'
    have := ho.own i p0 h1
    rw [h2, h3] at this
    exact this.setCell (this.ne_q ho.blk) _
  · have old : ∀ (i : Nat) (p : Qu × Value), (l.set a ({ q with de := d }, v))[i]? = some p → ∃ p0, l[i]? = some p0 ∧ p0.2 = p.2 := by
      intro i p hp
      by_cases hi : a = i
      · subst hi
        rw [List.getElem?_set_self (List.getElem?_eq_some_iff.1 hv).1] at hp
        injection hp with hp
        subst hp
        exact ⟨_, hv, rfl⟩
      · rw [List.getElem?_set_ne hi] at hp
        exact ⟨p, hp, rfl⟩
    intro i j p p' hij hi hj b hb hb'
    obtain ⟨p0, h1, h2⟩ := old i p hi
    obtain ⟨p1, h3, h4⟩ := old j p' hj
    exact ho.apart i j p0 p1 hij h1 h3 b (by rw [h2]; exact hb) (by rw [h4]; exact hb')
  · rw [List.map_set, hl]
theorem OwnQs.keep {w w' : World} {base g : Nat} {l : List (Qu × Value)} (h : OwnQs w base g l) (hk : ∀ b, base ≤ b → b < w.heap.size → w'.heap[b]? = w.heap[b]?) : OwnQs w' base g l :=
  ⟨(hk g h.ge (Blk.lt h.blk)).trans h.blk, h.ge, fun i p hp => (h.own i p hp).keep fun b hb => hk b ((h.own i p hp).lt hb).1 ((h.own i p hp).lt hb).2, h.apart⟩
theorem OwnQs.mono {w : World} {base base' g : Nat} {l : List (Qu × Value)} (h : OwnQs w base g l) (hb : base' ≤ base) : OwnQs w base' g l :=
  ⟨h.blk, by have := h.ge; omega, fun i p hp => (h.own i p hp).mono hb, h.apart⟩
theorem NM.more (h : NM w g cb t wr) (hb : Below wr.heap.size wr w1) : NM w g cb t w1 := by
  obtain ⟨l, ho, hl⟩ := h.own
  exact ⟨h.below.trans (hb.mono h.below.size), h.res.below hb h.res.lt, h.gg, h.gc, h.cblk.below hb h.cblk.lt, l, ho.keep fun b _ h2 => hb.block b h2, hl⟩
/-- The memory as it starts. -/
theorem NM.start {W0 w2 : World} {l : List (Qu × Value)} (hb0 : Below w.heap.size w W0) (hr : Blk W0 (w.heap.size + 1) 34 #[.slice none 0 0, .int .i64 0, .bool false]) (hb1 : Below W0.heap.size W0 w1)
    (hb2 : Below w1.heap.size w1 w2) (ho : OwnQs w2 w1.heap.size g l) (hl : l.map (·.1) = t.qs) :
    NM w g w2.heap.size t (w2.alloc (.cells #[.slice (some ⟨g, 0, none⟩) t.qs.length t.qs.length, .int .i64 t.at_, .bool t.fr] 34)) := by
  have h1 := hr.lt
  have h2 := hb1.size
  have h3 := hb2.size
  have h4 := ho.ge
  have h5 := hb0.size
  refine ⟨((hb0.trans (hb1.mono h5)).trans (hb2.mono (by omega))).alloc (by omega) _, ((hr.below hb1 h1).below hb2 (by omega)).alloc _, by omega, by omega, Blk.new _ _ _, l, ?_, hl⟩
  exact (ho.mono (by omega)).keep fun b _ hb => Below.heap_alloc w2 _ b hb
theorem NM.read (h : NM w g cb t wr) : QsAt wr wr.heap.size (some ⟨g, 0, none⟩) t.qs := by
  obtain ⟨l, ho, hl⟩ := h.own
  rw [← hl]
  exact ho.read (Nat.le_refl _)
end
/-- The addresses lie from block lo on. -/
def QsFrom (w : World) (lo : Nat) (A : Option Addr) (qs : List Qu) : Prop :=
  0 < qs.length → ∃ b o, A = some ⟨b, o, none⟩ ∧ lo ≤ b ∧ ∀ (i : Nat) (q : Qu), qs[i]? = some q → 0 < q.cs.length → ∃ b' o' n' c', w.cell? ⟨b, o + i * 4 + 3, none⟩ = some (.slice (some ⟨b', o', none⟩) n' c') ∧ lo ≤ b'
/-- Queues that are read from blocks lo, .., B - 1. -/
def QsNew (w : World) (lo B : Nat) (A : Option Addr) (qs : List Qu) : Prop := QsAt w B A qs ∧ QsFrom w lo A qs
theorem QsNew.mono {w : World} {lo B B' : Nat} {A : Option Addr} {qs : List Qu} (h : QsNew w lo B A qs) (hB : B ≤ B') : QsNew w lo B' A qs := ⟨h.1.mono hB, h.2⟩
theorem QsNew.nil {w : World} {lo B : Nat} {A : Option Addr} {qs : List Qu} (h : qs.length = 0) : QsNew w lo B A qs := ⟨fun h0 => absurd h0 (by omega), fun h0 => absurd h0 (by omega)⟩
/-- Turns that are read from blocks lo, .., B - 1. -/
def TuNew (w : World) (lo B : Nat) (v : Value) (t : Tu) : Prop :=
  ∃ A c, v = .agg #[.slice A t.qs.length c, .int .i64 t.at_, .bool t.fr] ∧ t.qs.length ≤ c ∧ c ≤ maxLen ∧ QsNew w lo B A t.qs
theorem TuNew.at_ {w : World} {lo B : Nat} {v : Value} {t : Tu} (h : TuNew w lo B v t) : TuAt w B v t := by
  obtain ⟨A, c, e, h1, h2, h3⟩ := h
  exact ⟨A, c, e, h1, h2, h3.1⟩
/-- A block below lo is written. -/
theorem QsNew.touch {w w' : World} {lo B x : Nat} {A : Option Addr} {qs : List Qu} (h : QsNew w lo B A qs) (ht : Touch x w w') (hx : x < lo) : QsNew w' lo B A qs := by
  have hcell : ∀ b o, b ≠ x → w'.cell? ⟨b, o, none⟩ = w.cell? ⟨b, o, none⟩ := fun b o hb => World.cell?_of_block (a := ⟨b, o, none⟩) (ht.block b hb)
  refine ⟨fun h0 => ?_, fun h0 => ?_⟩
  · obtain ⟨b, o, e, hlt, hc⟩ := h.1 h0
    obtain ⟨b2, o2, e2, hlo, hf⟩ := h.2 h0
    rw [e] at e2
    injection e2 with e2
    injection e2 with e2 e3 _
    subst e2 e3
    refine ⟨b, o, e, hlt, fun i q hq => ?_⟩
    obtain ⟨c0, c1, c2, A', c', c3, h4, h5, h6⟩ := hc i q hq
    refine ⟨(hcell _ _ (by omega)).trans c0, (hcell _ _ (by omega)).trans c1, (hcell _ _ (by omega)).trans c2, A', c', (hcell _ _ (by omega)).trans c3, h4, h5, fun hp => ?_⟩
    obtain ⟨b', o', e', hb', hx'⟩ := h6 hp
    obtain ⟨b'', o'', n'', c'', c3', hlo'⟩ := hf i q hq hp
    rw [c3] at c3'
    injection c3' with c3'
    injection c3' with c3' _ _
    rw [e'] at c3'
    injection c3' with c3'
    injection c3' with c4 c5 _
    subst c4 c5
    exact ⟨b', o', e', hb', fun j x hj => (hcell _ _ (by omega)).trans (hx' j x hj)⟩
  · obtain ⟨b2, o2, e2, hlo, hf⟩ := h.2 h0
    refine ⟨b2, o2, e2, hlo, fun i q hq hp => ?_⟩
    obtain ⟨b'', o'', n'', c'', c3', hlo'⟩ := hf i q hq hp
    exact ⟨b'', o'', n'', c'', (hcell _ _ (by omega)).trans c3', hlo'⟩
theorem TuNew.touch {w w' : World} {lo B x : Nat} {v : Value} {t : Tu} (h : TuNew w lo B v t) (ht : Touch x w w') (hx : x < lo) : TuNew w' lo B v t := by
  obtain ⟨A, c, e, h1, h2, h3⟩ := h
  exact ⟨A, c, e, h1, h2, h3.touch ht hx⟩
/-- A row without its first integer. -/
def Tail (v : Value) (p : Value × List Int) (cs : List Int) : Prop :=
  ∃ c b cap, p.2 = c :: cs ∧ p.1 = .slice (some ⟨b, 0, none⟩) p.2.length cap ∧ ((0 < cs.length ∧ v = .slice (some ⟨b, 1, none⟩) cs.length (cap - 1)) ∨ (cs.length = 0 ∧ ∃ A k, v = .slice A 0 k ∧ k ≤ maxLen))
/-- Rows and owned integers are these queues. -/
def Fits (vs : List (Value × List Int)) (R : List R4) (qs : List Qu) : Prop :=
  ∀ (i : Nat) (q : Qu), qs[i]? = some q → ∃ v p, R[i]? = some (row q v) ∧ vs[i]? = some p ∧ ((v = p.1 ∧ p.2 = q.cs) ∨ Tail v p q.cs)
/-- The memory at the serving: rows, and the integers owned. -/
structure NB (w : World) (g cb : Nat) (vs : List (Value × List Int)) (R : List R4) (n : Nat) (at_ : Int) (fr : Bool) (wr : World) : Prop where
  below : Below w.heap.size w wr
  res : Blk wr (w.heap.size + 1) 34 #[.slice none 0 0, .int .i64 0, .bool false]
  gg : w.heap.size + 1 < g
  gc : w.heap.size + 1 < cb
  cblk : Blk wr cb 34 #[.slice (some ⟨g, 0, none⟩) n n, .int .i64 at_, .bool fr]
  blk : QBlk wr g R
  own : ∀ (i : Nat) (p : Value × List Int), vs[i]? = some p → OwnInts wr (w.heap.size + 2) p.1 p.2
section
variable {w wr w1 : World} {g cb n : Nat} {t : Tu} {vs : List (Value × List Int)} {R R' : List R4} {at_ : Int} {fr : Bool}
theorem NM.nb (h : NM w g cb t wr) : ∃ vs R, NB w g cb vs R t.qs.length t.at_ t.fr wr ∧ Fits vs R t.qs := by
  obtain ⟨l, ho, hl⟩ := h.own
  refine ⟨l.map (fun p => (p.2, p.1.cs)), rows l, ⟨h.below, h.res, h.gg, h.gc, h.cblk, ho.blk, fun i p hp => ?_⟩, fun i q hq => ?_⟩
  · rw [List.getElem?_map] at hp
    obtain ⟨p0, hp0, rfl⟩ := Option.map_eq_some_iff.1 hp
    exact ho.own i p0 hp0
  · rw [← hl, List.getElem?_map] at hq
    obtain ⟨p0, hp0, rfl⟩ := Option.map_eq_some_iff.1 hq
    exact ⟨p0.2, (p0.2, p0.1.cs), by rw [rows, List.getElem?_map, hp0]; rfl, by rw [List.getElem?_map, hp0]; rfl, .inl ⟨rfl, rfl⟩⟩
theorem NB.ne (h : NB w g cb vs R n at_ fr wr) : g ≠ cb := Blk.ne h.blk h.cblk (by decide)
theorem NB.store (h : NB w g cb vs R n at_ fr wr) (o : Nat) (u : Value) (hq : QBlk (wr.setCell ⟨g, o, none⟩ u) g R') : NB w g cb vs R' n at_ fr (wr.setCell ⟨g, o, none⟩ u) := by
  have hgg := h.gg
  have hne := h.ne
  exact ⟨h.below.setCell (by simp <;> omega) _, h.res.far (by simp <;> omega) _, h.gg, h.gc, h.cblk.far (fun e => hne e.symm) _, hq, fun i p hp => (h.own i p hp).setCell ((h.own i p hp).ne_q h.blk) _⟩
theorem NB.touch (h : NB w g cb vs R n at_ fr wr) (ht : Touch cb wr w1) {at' : Int} {fr' : Bool} (hc : Blk w1 cb 34 #[.slice (some ⟨g, 0, none⟩) n n, .int .i64 at', .bool fr']) : NB w g cb vs R n at' fr' w1 := by
  have hlt := h.gc
  exact ⟨h.below.trans (ht.below (by omega)), ht.blk h.res (by omega), h.gg, h.gc, hc, ht.blk h.blk h.ne, fun i p hp => (h.own i p hp).keep fun b hb => ht.block b fun e => (h.own i p hp).ne_blk h.cblk (by decide) (by rw [hb, e])⟩
theorem NB.drew (h : NB w g cb vs R n at_ fr wr) : NB w g cb vs R n at_ fr wr.drew := h.touch (Touch.refl cb wr).drew (Blk.drew h.cblk)
theorem qs_read {wz : World} {base : Nat} {qs : List Qu} (hb : QBlk wz g R) (ho : ∀ (i : Nat) (p : Value × List Int), vs[i]? = some p → OwnInts wz base p.1 p.2) (hf : Fits vs R qs) : QsAt wz wz.heap.size (some ⟨g, 0, none⟩) qs := fun _ => by
  refine ⟨g, 0, rfl, Blk.lt hb, fun i q hq => ?_⟩
  obtain ⟨v, p, hr, hp, hv⟩ := hf i q hq
  obtain ⟨h0, h1, h2, h3⟩ := QBlk.cells hb hr
  rw [Nat.zero_add]
  have hown := ho i p hp
  rcases hv with ⟨rfl, e⟩ | ⟨c, b, cap, e, ev, ht⟩
  · rw [e] at hown
    obtain ⟨A, c, hv, hc, hm, hi⟩ := hown.read (Nat.le_refl _)
    exact ⟨h0, h1, h2, A, c, by rw [h3]; exact congrArg some hv, hc, hm, hi⟩
  · rcases ht with ⟨hpos, rfl⟩ | ⟨hz, A, k, rfl, hk⟩
    · obtain ⟨A, c', hv, hc, hm, hi⟩ := hown.read (Nat.le_refl _)
      rw [ev] at hv
      injection hv with hA _ hcc
      subst hcc
      have hlen : p.2.length = q.cs.length + 1 := by rw [e]; rfl
      obtain ⟨b', o', e', hb', hx⟩ := hi (by omega)
      rw [← hA] at e'
      injection e' with e'
      injection e' with e1 e2 _
      subst e1 e2
      refine ⟨h0, h1, h2, _, _, by rw [h3]; rfl, by omega, by omega, fun _ => ⟨b, 1, rfl, hb', fun j x hj => ?_⟩⟩
      have := hx (j + 1) x (by rw [e, List.getElem?_cons_succ]; exact hj)
      rw [show 1 + j = 0 + (j + 1) by omega]
      exact this
    · exact ⟨h0, h1, h2, A, k, by rw [h3]; show some (Value.slice A 0 k) = _; rw [hz], by omega, hk, fun h => absurd h (by omega)⟩
theorem qs_from {wz : World} {base lo : Nat} {qs : List Qu} (hg : lo ≤ g) (hbl : lo ≤ base) (hb : QBlk wz g R) (ho : ∀ (i : Nat) (p : Value × List Int), vs[i]? = some p → OwnInts wz base p.1 p.2) (hf : Fits vs R qs) : QsFrom wz lo (some ⟨g, 0, none⟩) qs := fun _ => by
  refine ⟨g, 0, rfl, hg, fun i q hq hpos => ?_⟩
  obtain ⟨v, p, hr, hp, hv⟩ := hf i q hq
  obtain ⟨h0, h1, h2, h3⟩ := QBlk.cells hb hr
  rw [Nat.zero_add]
  have hown := ho i p hp
  have hsh : 0 < p.2.length → ∃ b cap, p.1 = .slice (some ⟨b, 0, none⟩) p.2.length cap ∧ base ≤ b := fun hl => by
    obtain ⟨_, hh⟩ := hown
    rcases hh with ⟨_, e⟩ | ⟨b', cap', cur', e, hb', _⟩
    · omega
    · exact ⟨b', cap', e, hb'⟩
  rcases hv with ⟨rfl, e⟩ | ⟨c, b, cap, e, ev, ht⟩
  · rw [← e] at hpos
    obtain ⟨b, cap, e1, hb1⟩ := hsh hpos
    exact ⟨b, 0, _, cap, by rw [h3]; exact congrArg some e1, by omega⟩
  · rcases ht with ⟨_, rfl⟩ | ⟨hz, _⟩
    · obtain ⟨b2, cap2, e1, hb1⟩ := hsh (by rw [e]; simp)
      rw [ev] at e1
      injection e1 with e1 _ _
      injection e1 with e1
      injection e1 with e1 _ _
      subst e1
      exact ⟨b, 1, _, _, by rw [h3]; rfl, by omega⟩
    · omega
/-- The answer is written. -/
theorem NB.ret (h : NB w g cb vs R n at_ fr wr) {qs : List Qu} (hf : Fits vs R qs) (u0 u1 u2 : Value) :
    QsNew (((wr.setCell ⟨w.heap.size + 1, 0, none⟩ u0).setCell ⟨w.heap.size + 1, 1, none⟩ u1).setCell ⟨w.heap.size + 1, 2, none⟩ u2) w.heap.size wr.heap.size (some ⟨g, 0, none⟩) qs ∧
    Below w.heap.size w (((wr.setCell ⟨w.heap.size + 1, 0, none⟩ u0).setCell ⟨w.heap.size + 1, 1, none⟩ u1).setCell ⟨w.heap.size + 1, 2, none⟩ u2) ∧
    Blk (((wr.setCell ⟨w.heap.size + 1, 0, none⟩ u0).setCell ⟨w.heap.size + 1, 1, none⟩ u1).setCell ⟨w.heap.size + 1, 2, none⟩ u2) (w.heap.size + 1) 34 #[u0, u1, u2] := by
  have hgg := h.gg
  have ht : Touch (w.heap.size + 1) wr (((wr.setCell ⟨w.heap.size + 1, 0, none⟩ u0).setCell ⟨w.heap.size + 1, 1, none⟩ u1).setCell ⟨w.heap.size + 1, 2, none⟩ u2) :=
    (((Touch.refl _ _).set_ 0 u0).set_ 1 u1).set_ 2 u2
  refine ⟨?_, h.below.trans (ht.below (by omega)), ?_⟩
  · have hown2 : ∀ (i : Nat) (p : Value × List Int), vs[i]? = some p → OwnInts _ (w.heap.size + 2) p.1 p.2 := fun i p hp => (h.own i p hp).keep (w' := ((wr.setCell ⟨w.heap.size + 1, 0, none⟩ u0).setCell ⟨w.heap.size + 1, 1, none⟩ u1).setCell ⟨w.heap.size + 1, 2, none⟩ u2) fun b hb => ht.block b (by have := ((h.own i p hp).lt hb).1; omega)
    have := qs_read (vs := vs) (ht.blk h.blk (by omega)) hown2 hf
    rw [ht.size] at this
    exact ⟨this, qs_from (by omega) (by omega) (ht.blk h.blk (by omega)) hown2 hf⟩
  · have := ((h.res.set_ 0 u0).set_ 1 u1).set_ 2 u2
    simpa using this
/-- Rows and owned integers are these queues, each whole. -/
def Fits0 (vs : List (Value × List Int)) (R : List R4) (qs : List Qu) : Prop := ∀ (i : Nat) (q : Qu), qs[i]? = some q → ∃ v, R[i]? = some (row q v) ∧ vs[i]? = some (v, q.cs)
theorem Fits0.fits {qs : List Qu} (h : Fits0 vs R qs) : Fits vs R qs := fun i q hq => by
  obtain ⟨v, h1, h2⟩ := h i q hq
  exact ⟨v, _, h1, h2, .inl ⟨rfl, rfl⟩⟩
theorem NM.nb0 (h : NM w g cb t wr) : ∃ vs R, NB w g cb vs R t.qs.length t.at_ t.fr wr ∧ Fits0 vs R t.qs := by
  obtain ⟨l, ho, hl⟩ := h.own
  refine ⟨l.map (fun p => (p.2, p.1.cs)), rows l, ⟨h.below, h.res, h.gg, h.gc, h.cblk, ho.blk, fun i p hp => ?_⟩, fun i q hq => ?_⟩
  · rw [List.getElem?_map] at hp
    obtain ⟨p0, hp0, rfl⟩ := Option.map_eq_some_iff.1 hp
    exact ho.own i p0 hp0
  · rw [← hl, List.getElem?_map] at hq
    obtain ⟨p0, hp0, rfl⟩ := Option.map_eq_some_iff.1 hq
    exact ⟨p0.2, by rw [rows, List.getElem?_map, hp0]; rfl, by rw [List.getElem?_map, hp0]; rfl⟩
/-- A deficit, and the rest of the costs, are written. -/
theorem NB.tail (h : NB w g cb vs R n at_ fr wr) {qs : List Qu} (h0 : Fits0 vs R qs) {a b o cap : Nat} {q : Qu} {x : Int} {xs : List Int} (hq : qs[a]? = some q) (hc : wr.cell? ⟨g, a * 4 + 3, none⟩ = some (.slice (some ⟨b, o, none⟩) (xs.length + 1) cap))
    (hcs : q.cs = x :: xs) (d : Int) {Av : Option Addr} (hAv : 0 < xs.length → Av = some ⟨b, o + 1, none⟩) (hk : cap - 1 ≤ maxLen) :
    ∃ R', NB w g cb vs R' n at_ fr ((wr.setCell ⟨g, a * 4 + 2, none⟩ (.int .i64 d)).setCell ⟨g, a * 4 + 3, none⟩ (.slice Av xs.length (cap - 1))) ∧
      R'[a]? = some (row { q with de := d, cs := xs } (.slice Av xs.length (cap - 1))) ∧ Fits vs R' (qs.set a { q with de := d, cs := xs }) := by
  obtain ⟨v, hR, hv⟩ := h0 a q hq
  have hvc := (QBlk.cells h.blk hR).2.2.2
  rw [hc] at hvc
  injection hvc with hvc
  have hve : v = .slice (some ⟨b, o, none⟩) (xs.length + 1) cap := hvc.symm
  have s1 := h.store (a * 4 + 2) (.int .i64 d) (h.blk.set2 hR _)
  have s2 := s1.store (a * 4 + 3) (.slice Av xs.length (cap - 1)) (s1.blk.set3 (at_set hR _) _)
  have hRl := (List.getElem?_eq_some_iff.1 hR).1
  have hql := (List.getElem?_eq_some_iff.1 hq).1
  rw [List.set_set] at s2
  refine ⟨_, s2, by rw [List.getElem?_set_self hRl]; rfl, fun i q' hq' => ?_⟩
  by_cases hi : a = i
  · subst hi
    rw [List.getElem?_set_self hql] at hq'
    injection hq' with hq'
    subst hq'
    have hown := h.own a _ hv
    have ho : o = 0 := by
      obtain ⟨_, hh⟩ := hown
      rcases hh with ⟨e, _⟩ | ⟨b', cap', cur', e, _⟩
      · rw [hve] at e; cases e
      · rw [hve] at e
        injection e with e
        injection e with e
        injection e with _ e2 _
    subst ho
    refine ⟨_, _, by rw [List.getElem?_set_self hRl]; rfl, hv, .inr ⟨x, b, cap, hcs, by rw [hve, hcs]; rfl, ?_⟩⟩
    rcases Nat.eq_zero_or_pos xs.length with hz | hp
    · exact .inr ⟨hz, Av, cap - 1, by show Value.slice Av xs.length _ = _; rw [hz], hk⟩
    · exact .inl ⟨hp, by show Value.slice Av xs.length _ = _; rw [hAv hp, Nat.zero_add]⟩
  · rw [List.getElem?_set_ne hi] at hq'
    obtain ⟨v', h1, h2⟩ := h0 i q' hq'
    exact ⟨v', _, by rw [List.getElem?_set_ne hi]; exact h1, h2, .inl ⟨rfl, rfl⟩⟩
/-- A deficit is written. -/
theorem NB.setDe (h : NB w g cb vs R n at_ fr wr) {qs : List Qu} (h0 : Fits vs R qs) {a : Nat} {q : Qu} (hq : qs[a]? = some q) (d : Int) :
    ∃ R', NB w g cb vs R' n at_ fr (wr.setCell ⟨g, a * 4 + 2, none⟩ (.int .i64 d)) ∧ Fits vs R' (qs.set a { q with de := d }) := by
  obtain ⟨v, p, hR, hp, hv⟩ := h0 a q hq
  have s1 := h.store (a * 4 + 2) (.int .i64 d) (h.blk.set2 hR _)
  have hRl := (List.getElem?_eq_some_iff.1 hR).1
  have hql := (List.getElem?_eq_some_iff.1 hq).1
  refine ⟨_, s1, fun i q' hq' => ?_⟩
  by_cases hi : a = i
  · subst hi
    rw [List.getElem?_set_self hql] at hq'
    injection hq' with hq'
    subst hq'
    exact ⟨v, p, by rw [List.getElem?_set_self hRl]; rfl, hp, hv⟩
  · rw [List.getElem?_set_ne hi] at hq'
    obtain ⟨v', p', h1, h2, h3⟩ := h0 i q' hq'
    exact ⟨v', p', by rw [List.getElem?_set_ne hi]; exact h1, h2, h3⟩
end
end Go.Proofs.Ytgbjhkgbjnobcaa
