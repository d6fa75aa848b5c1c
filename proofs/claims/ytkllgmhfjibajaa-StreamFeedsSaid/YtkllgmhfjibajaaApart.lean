/- Things in memory that lie apart, for the law's untold. Conditions: all fits. -/
import Derived.Test.YtkllgmhfjibajaaFeeds
namespace Go.Proofs.Ytkllgmhfjibajaa
open Go.RowKit St
/-- A thing: what it says of a world, and the blocks that this leans on. -/
structure Th where
  P : World → Prop
  F : Nat → Prop
  lt : ∀ {w : World} {b : Nat}, P w → F b → b < w.heap.size
  kp : ∀ {S : Nat → Prop} {w w' : World}, P w → Kp S w w' → (∀ b, F b → ¬ S b) → P w'
abbrev TE := Value × List PV
def TP (base : Nat) (lim : Int) (p v : Value) (xs : List Int) : Th := ⟨fun w => PS w base lim p v xs, PB p v, fun h hb => h.lt hb, fun h hk hS => h.kp hk hS⟩
def TQ (base : Nat) (lim : Int) (p v : Value) (xs : List Int) : Th := ⟨fun w => QS w base lim p v xs, PB p v, fun h hb => h.lt hb, fun h hk hS => h.kp hk hS⟩
def TG (base : Nat) (e : TE) : Th := ⟨fun w => PL w base e.1 e.2, FP e.1 e.2, fun h hb => (h.lt hb).2, fun h hk hS => h.kp hk hS⟩
def TW (base : Nat) (e : TE) : Th := ⟨fun w => PR w base e.1 e.2, FP e.1 e.2, fun h hb => (h.lt hb).2, fun h hk hS => h.kp hk hS⟩
def TR (base : Nat) (v : Value) (vs : List Value) : Th := ⟨fun w => w.ownsRow base 24 1 v vs.length vs, fun b => v.ownBlock = some b, fun h hb => (h.lt _ hb).2, fun h hk hS => row_keep h fun b hb => hk.block b (h.lt b hb).2 (hS b hb)⟩
def TS (base g : Nat) (sv : Value) (l : List (Nat × Value)) : Th := ⟨fun w => SH w base g sv l, FS2 g sv l, fun h hb => h.lt hb, fun h hk hS => h.kp hk hS⟩
def Disj (a b : Th) : Prop := ∀ x, a.F x → ¬ b.F x
theorem Disj.symm {a b : Th} (h : Disj a b) : Disj b a := fun x hb ha => h x ha hb
/-- Things that lie apart. -/
structure Sep (base : Nat) (w : World) (L : List Th) : Prop where
  p : ∀ t ∈ L, t.P w
  d : L.Pairwise Disj
  lo : ∀ t ∈ L, ∀ b, t.F b → base ≤ b
section
variable {base : Nat} {w w' : World} {o : Th} {O L N : List Th}
theorem Sep.perm (h : Sep base w L) (hp : L.Perm N) : Sep base w N := ⟨fun t ht => h.p t (hp.mem_iff.2 ht), (hp.pairwise_iff (fun h => Disj.symm h)).1 h.d, fun t ht => h.lo t (hp.mem_iff.2 ht)⟩
theorem Sep.sub (h : Sep base w L) (hp : N.Sublist L) : Sep base w N := ⟨fun t ht => h.p t (hp.subset ht), h.d.sublist hp, fun t ht => h.lo t (hp.subset ht)⟩
theorem Sep.below (h : Sep base w L) (hb : Below w.heap.size w w') : Sep base w' L := ⟨fun t ht => t.kp (S := fun _ => False) (h.p t ht) (.of_below hb) (fun _ _ h => h), h.d, h.lo⟩
theorem Sep.step (h : Sep base w (O ++ L)) (hk : Kp (fun b => ∃ o ∈ O, o.F b) w w') (hbase : base ≤ w.heap.size) (hN : ∀ t ∈ N, t.P w') (hd : N.Pairwise Disj) (hb : ∀ t ∈ N, ∀ b, t.F b → (∃ o ∈ O, o.F b) ∨ w.heap.size ≤ b) : Sep base w' (N ++ L) := by
  have hOL : ∀ o ∈ O, ∀ t ∈ L, Disj o t := (List.pairwise_append.1 h.d).2.2
  refine ⟨fun t ht => ?_, List.pairwise_append.2 ⟨hd, (List.pairwise_append.1 h.d).2.1, fun n hn t ht x hx hc => ?_⟩, fun t ht b hf => ?_⟩
  · rcases List.mem_append.1 ht with ht | ht
    · exact hN t ht
    · exact t.kp (h.p t (List.mem_append_right _ ht)) hk fun b hf ⟨o, ho, hc⟩ => hOL o ho t ht b hc hf
  · rcases hb n hn x hx with ⟨o, ho, hc2⟩ | hge
    · exact hOL o ho t ht x hc2 hc
    · have := t.lt (h.p t (List.mem_append_right _ ht)) hc
      omega
  · rcases List.mem_append.1 ht with ht | ht
    · rcases hb t ht b hf with ⟨o, ho, hc⟩ | hge
      · exact h.lo o (List.mem_append_left _ ho) b hc
      · omega
    · exact h.lo t (List.mem_append_right _ ht) b hf
theorem Sep.to_below {w0 : World} (h : Sep w0.heap.size w (O ++ L)) (hb : Below w0.heap.size w0 w) (hk : Kp (fun b => ∃ o ∈ O, o.F b) w w') : Below w0.heap.size w0 w' :=
  Kp.to_below hb hk hb.size fun j ⟨o, ho, hc⟩ => h.lo o (List.mem_append_left _ ho) j hc
theorem kp_one {S : Nat → Prop} (hk : Kp S w w') (hS : ∀ b, S b → o.F b) : Kp (fun b => ∃ t ∈ [o], t.F b) w w' := hk.mono fun j hj => .inl ⟨o, List.mem_singleton.2 rfl, hS j hj⟩
variable {lim : Int} {p v q u v' u' tv : Value} {xs cs : List Int} {l1 : List PV} {vs vs' : List Value}
theorem Sep.rfed (h : Sep base w (TQ base lim q u xs :: L)) (hbase : base ≤ w.heap.size) (hR : RFed w base lim q u xs cs w' u' tv l1) : Sep base w' (L ++ [TQ base lim q u' (xs ++ cs), TW base (tv, l1)]) := by
  obtain ⟨r1, r2, r3, r4, r5, r6⟩ := hR
  refine (Sep.step (O := [TQ base lim q u xs]) (N := [TQ base lim q u' (xs ++ cs), TW base (tv, l1)]) h (kp_one r2 fun _ h => h) hbase (fun t ht => ?_) ?_ (fun t ht b hb => ?_)).perm List.perm_append_comm
  · rcases List.mem_cons.1 ht with rfl | ht
    · exact r1
    · obtain rfl := List.mem_singleton.1 ht
      exact r3.mono hbase
  · refine List.pairwise_pair.2 fun x hx hc => r6 x hc hx
  · rcases List.mem_cons.1 ht with rfl | ht
    · exact (r5 b hb).imp (fun h => ⟨_, List.mem_singleton.2 rfl, h⟩) id
    · obtain rfl := List.mem_singleton.1 ht
      exact .inr (r3.lt hb).1
theorem Sep.fed (h : Sep base w (TP base lim p v xs :: L)) (hbase : base ≤ w.heap.size) (hF : Fed w base lim p v xs cs w' v' tv l1) : Sep base w' (L ++ [TP base lim p v' (xs ++ cs), TG base (tv, l1)]) := by
  obtain ⟨r1, r2, r3, r4, r5, r6⟩ := hF
  refine (Sep.step (O := [TP base lim p v xs]) (N := [TP base lim p v' (xs ++ cs), TG base (tv, l1)]) h (kp_one r2 fun _ h => h) hbase (fun t ht => ?_) ?_ (fun t ht b hb => ?_)).perm List.perm_append_comm
  · rcases List.mem_cons.1 ht with rfl | ht
    · exact r1
    · obtain rfl := List.mem_singleton.1 ht
      exact r3.mono hbase
  · refine List.pairwise_pair.2 fun x hx hc => r6 x hc hx
  · rcases List.mem_cons.1 ht with rfl | ht
    · exact (r5 b hb).imp (fun h => ⟨_, List.mem_singleton.2 rfl, h⟩) id
    · obtain rfl := List.mem_singleton.1 ht
      exact .inr (r3.lt hb).1
theorem Sep.rowed (h : Sep base w (TR base v vs :: L)) (hbase : base ≤ w.heap.size) (hr : w'.ownsRow base 24 1 v' vs'.length vs') (hg : w.grownBy w' v.ownBlock) (hat : ∀ b, v'.ownBlock = some b → v.ownBlock = some b ∨ w.heap.size ≤ b) : Sep base w' (L ++ [TR base v' vs']) := by
  refine (Sep.step (O := [TR base v vs]) (N := [TR base v' vs']) h (kp_one (Kp.of_grown' hg) fun _ h => h) hbase (fun t ht => ?_) (List.pairwise_singleton _ _) (fun t ht b hb => ?_)).perm List.perm_append_comm
  · obtain rfl := List.mem_singleton.1 ht
    exact hr
  · obtain rfl := List.mem_singleton.1 ht
    exact (hat b hb).imp (fun h => ⟨_, List.mem_singleton.2 rfl, h⟩) id
end
/-- What was told of a chunk: to both readers of the program, and of the reference. -/
abbrev Ch := TE × TE × TE
def ges (ch : List Ch) : List TE := ch.flatMap fun c => [c.1, c.2.1]
def wes (ch : List Ch) : List TE := ch.flatMap fun c => [c.2.2, c.2.2]
def ths (base : Nat) (ch : List Ch) : List Th := ch.flatMap fun c => [TG base c.1, TG base c.2.1, TW base c.2.2]
theorem ges_app (ch : List Ch) (c : Ch) : ges (ch ++ [c]) = ges ch ++ [c.1, c.2.1] := by simp [ges]
theorem wes_app (ch : List Ch) (c : Ch) : wes (ch ++ [c]) = wes ch ++ [c.2.2, c.2.2] := by simp [wes]
theorem ths_app (base : Nat) (ch : List Ch) (c : Ch) : ths base (ch ++ [c]) = ths base ch ++ [TG base c.1, TG base c.2.1, TW base c.2.2] := by simp [ths]
theorem ges_len : ∀ ch : List Ch, (ges ch).length = 2 * ch.length
  | [] => rfl
  | c :: ch => by
    have := ges_len ch
    unfold ges at this ⊢
    simp only [List.flatMap_cons, List.length_append, List.length_cons, List.length_nil]
    omega
theorem wes_len : ∀ ch : List Ch, (wes ch).length = 2 * ch.length
  | [] => rfl
  | c :: ch => by
    have := wes_len ch
    unfold wes at this ⊢
    simp only [List.flatMap_cons, List.length_append, List.length_cons, List.length_nil]
    omega
/-- Entry by entry. -/
theorem ges_wes : ∀ (ch : List Ch) (n : Nat) (e : TE), (ges ch)[n]? = some e → ∃ c ∈ ch, (e = c.1 ∨ e = c.2.1) ∧ (wes ch)[n]? = some c.2.2
  | [], n, e, h => by simp [ges] at h
  | c :: ch, 0, e, h => by
    simp [ges] at h
    exact ⟨c, List.mem_cons_self, .inl h.symm, by simp [wes]⟩
  | c :: ch, 1, e, h => by
    simp [ges] at h
    exact ⟨c, List.mem_cons_self, .inr h.symm, by simp [wes]⟩
  | c :: ch, n + 2, e, h => by
    have h' : (ges ch)[n]? = some e := by
      unfold ges at h ⊢
      simpa using h
    obtain ⟨c', hc, he, hw⟩ := ges_wes ch n e h'
    refine ⟨c', List.mem_cons_of_mem _ hc, he, ?_⟩
    unfold wes at hw ⊢
    simpa using hw
theorem ths_ges (base : Nat) : ∀ ch : List Ch, ((ges ch).map (TG base)).Sublist (ths base ch)
  | [] => List.Sublist.refl _
  | c :: ch => by
    have h := ths_ges base ch
    show (TG base c.1 :: TG base c.2.1 :: (ges ch).map (TG base)).Sublist (TG base c.1 :: TG base c.2.1 :: TW base c.2.2 :: ths base ch)
    exact ((h.cons _).cons_cons _).cons_cons _
theorem ths_mem (base : Nat) {ch : List Ch} {c : Ch} (h : c ∈ ch) : TG base c.1 ∈ ths base ch ∧ TG base c.2.1 ∈ ths base ch ∧ TW base c.2.2 ∈ ths base ch := by
  unfold ths
  refine ⟨List.mem_flatMap.2 ⟨c, h, ?_⟩, List.mem_flatMap.2 ⟨c, h, ?_⟩, List.mem_flatMap.2 ⟨c, h, ?_⟩⟩ <;> simp
/-- What 'untold' holds. -/
structure UK (w0 w : World) (lim : Int) (q u p v p2 v2 gv wv : Value) (ch : List Ch) (xs : List Int) : Prop where
  sep : Sep w0.heap.size w (TQ w0.heap.size lim q u xs :: TP w0.heap.size lim p v xs :: TP w0.heap.size lim p2 v2 xs :: TR w0.heap.size gv ((ges ch).map (·.1)) :: TR w0.heap.size wv ((wes ch).map (·.1)) :: ths w0.heap.size ch)
  be : Below w0.heap.size w0 w
  eq : ∀ c ∈ ch, c.1.2.map (·.1) = c.2.2.2.map (·.1) ∧ c.2.1.2.map (·.1) = c.2.2.2.map (·.1)
  nb : ((ges ch).flatMap (·.2)).length ≤ 2 * xs.length
  bd : ∀ e ∈ ges ch, ∀ r ∈ e.2, r.1.body.length ≤ xs.length
theorem queue_perm {T : Type} (es : List T) (a b c d e f g h : T) : (es ++ [a, b] ++ [c, d] ++ [e, f] ++ [g] ++ [h]).Perm (a :: c :: e :: g :: h :: (es ++ [d, f, b])) := by
  have h1 : es ++ [a, b] ++ [c, d] ++ [e, f] ++ [g] ++ [h] = es ++ [a, b, c, d, e, f, g, h] := by simp
  have h2 : ([a, b, c, d, e, f, g, h]).Perm ([a, c, e, g, h] ++ [d, f, b]) := by
    refine List.Perm.cons a ?_
    have p1 : (b :: ([c, d, e, f, g, h] ++ [])).Perm ([c, d, e, f, g, h] ++ b :: []) := List.perm_middle.symm
    refine p1.trans ?_
    refine List.Perm.cons c ?_
    refine (List.Perm.swap e d [f, g, h, b]).trans (List.Perm.cons e ?_)
    exact (List.perm_append_comm (l₁ := [d, f]) (l₂ := [g, h])).append_right [b]
  rw [h1]
  refine (h2.append_left es).trans ?_
  exact List.perm_append_comm_assoc es [a, c, e, g, h] [d, f, b]
end Go.Proofs.Ytkllgmhfjibajaa
