/- The walk of the law's untold. Conditions: all fits. -/
import Derived.Test.YtkllgmhfjibajaaApart
namespace Go.Proofs.Ytkllgmhfjibajaa
open Go.RowKit St
theorem info24' : (Try.prog.info? 24).map (fun i => (i.zero, i.size, i.bytes)) = some (some (.slice none 0 0), 1, 24) := by kernel_rfl
/-- An append of two lists of pieces. -/
theorem wpList_appE {w : World} {ops : Array Oper} {rest : List Oper} {o : Oper} {a : Act} {Q : Exit → Act → World → Prop} (hgd : o.guard = none) (s x : Operand)
    (ho : o.op = .call { callee := .builtin .append, args := #[s, x], argTypes := #[73, 73] })
    {base : Nat} {v : Value} {xs : List Value} (hs : a.eval s = v) (hown : w.ownsRow base 24 1 v xs.length xs) (g0 : Nat) (A1 A2 : Option Addr) (n1 c1 n2 c2 : Nat) (c : Nat) (hx : a.eval x = .slice (some ⟨g0, 0, none⟩) 2 c) (hg0 : Blk w g0 24 #[.slice A1 n1 c1, .slice A2 n2 c2])
    (hlen : xs.length + 2 ≤ 4398046511104) (hbase : base ≤ w.heap.size)
    (h : ∀ g cap w', w'.ownsRow base 24 1 (.slice (some ⟨g, 0, none⟩) (xs.length + 2) cap) (xs.length + 2) (xs ++ [.slice A1 n1 c1, .slice A2 n2 c2]) → w.grownBy w' v.ownBlock → (v.ownBlock = some g ∨ g = w.heap.size) → g < w'.heap.size →
      wpList Try.prog ops Q rest (a.put o.dst (.slice (some ⟨g, 0, none⟩) (xs.length + 2) cap)) w') : wpList Try.prog ops Q (o :: rest) a w := by
  obtain ⟨i0, hi, hz0, hz1, hz2⟩ : ∃ i, Try.prog.info? 24 = some i ∧ i.zero = some (.slice none 0 0) ∧ i.size = 1 ∧ i.bytes = 24 := by
    have h := info24'
    cases hh : Try.prog.info? 24 with
    | none => rw [hh] at h; cases h
    | some i => rw [hh] at h; simp at h; exact ⟨i, rfl, h⟩
  refine wpList_append_lies w hgd s x 73 ho base 24 i0 (.slice none 0 0) 1 24 Try.underlying73 hi hz0 hz1 hz2 rfl (by decide) v xs.length xs hs hown _ 2 c [.slice A1 n1 c1, .slice A2 n2 c2] hx rfl (World.news_of_block hg0) (fun u hu => ?_) (by decide) (by unfold maxLen; omega) (by omega) hbase w.heap.size rfl fun g cap w' h1 h2 h3 h4 => h g cap w' h1 h2 h3 h4
  simp at hu
  rcases hu with rfl | rfl <;> rfl
/-- What is handed to one reader of the program, by way of a spare of the chunk. -/
structure Fd (w0 wr wx : World) (lim : Int) (p v' tv : Value) (l1 : List PV) (xs cs : List Int) (L : List Th) : Prop where
  sep : Sep w0.heap.size wx (L ++ [TP w0.heap.size lim p v' (xs ++ cs), TG w0.heap.size (tv, l1)])
  be : Below w0.heap.size w0 wx
  ps : l1.map (·.1) = tellx lim xs cs
theorem fd_of {w0 wr w1 wx : World} {lim : Int} {p v v' tv : Value} {l1 : List PV} {xs cs : List Int} {L : List Th} (h : Sep w0.heap.size wr (TP w0.heap.size lim p v xs :: L)) (hbe : Below w0.heap.size w0 wr) (hb : Below wr.heap.size wr w1) (hF : Fed w1 w0.heap.size lim p v xs cs wx v' tv l1) : Fd w0 wr wx lim p v' tv l1 xs cs L := by
  have hs := hbe.size
  have hs1 := hb.size
  refine ⟨(h.below hb).fed (by omega) hF, ?_, hF.2.2.2.1⟩
  refine Sep.to_below (O := [TP w0.heap.size lim p v xs]) (h.below hb) (hbe.trans (hb.mono hs)) (kp_one hF.2.1 fun _ h => h)
theorem fd_feed {w0 wr : World} {lim : Int} {p v : Value} {xs cs : List Int} {L : List Th} {N : Nat} (h : Sep w0.heap.size wr (TP w0.heap.size lim p v xs :: L)) (hbe : Below w0.heap.size w0 wr) (hN : cs.length ≤ N ∧ N ≤ maxLen) (hbig : cs.length ≤ 2147483647) (hbx : Byt xs) (hbc : Byt cs) (v1 : World) (hb : Below wr.heap.size wr v1) (hg : Blk v1 wr.heap.size 5 ((cs ++ marks).map (Value.int .u8)).toArray) :
    Calls Try.prog 21 #[p, .slice (some ⟨wr.heap.size, 0, none⟩) cs.length N] v1 fun e wx => ∃ tv, e = .returned tv ∧ ∃ v' l1, Fd w0 wr wx lim p v' tv l1 xs cs L := by
  have hs := hbe.size
  have hs1 := hb.size
  have hps : PS wr w0.heap.size lim p v xs := h.p _ List.mem_cons_self
  refine (psfeed w0.heap.size lim p v xs cs v1 (some ⟨wr.heap.size, 0, none⟩) N (hps.below hb) (by omega) hN hbig (bytes_of_blk hg).pre (fun a e => by
    injection e with e
    subst e
    exact ⟨hg.lt, fun h => by have := hps.lt h; simp only at this; omega⟩) hbx hbc).mono ?_
  rintro e wx ⟨tv, rfl, v', l1, hF⟩
  exact ⟨tv, rfl, v', l1, fd_of h hbe hb hF⟩
theorem spare_drew {wr : World} {A : Option Addr} {cs : List Int} {c N : Nat} (hN : cs.length + 64 = N) (hc : cs.length ≤ c ∧ c ≤ maxLen) (hbig : cs.length ≤ 2147483647) (hx : BytesAt wr A cs) :
    Calls Try.prog 10 #[.slice A cs.length c] wr.drew fun e w' => e = .returned (.slice (some ⟨wr.heap.size, 0, none⟩) N N) ∧ Below wr.heap.size wr w' ∧ Blk w' wr.heap.size 5 ((cs ++ marks).map (Value.int .u8)).toArray := by
  subst hN
  refine (spare_any A cs c wr.drew hc hbig (hx.below (below_drewN (Below.refl _ _) 1))).mono ?_
  rintro e w' ⟨rfl, h1, h2⟩
  exact ⟨rfl, (below_drewN (Below.refl wr.heap.size wr) 1).trans h1, h2⟩
theorem tellx_map {lim : Int} {xs cs : List Int} {l1 : List PV} (h : l1.map (·.1) = tellx lim xs cs) : l1.length ≤ cs.length ∧ ∀ r ∈ l1, r.1.body.length ≤ (xs ++ cs).length := by
  refine ⟨?_, fun r hr => ?_⟩
  · have := congrArg List.length h
    rw [List.length_map] at this
    have := tellx_len lim xs cs
    omega
  · have := tellx_short lim xs cs r.1 (by rw [← h]; exact List.mem_map_of_mem hr)
    rw [List.length_append]
    omega
/-- A round of what is gathered. -/
theorem UK.next {w0 wr w5 : World} {lim : Int} {q u p v p2 v2 gv wv : Value} {ch : List Ch} {xs cs : List Int} (h : UK w0 wr lim q u p v p2 v2 gv wv ch xs) {u' v' v2' gv' wv' t1 t2 tq : Value} {l1 l2 lq : List PV}
    (hs : Sep w0.heap.size w5 (ths w0.heap.size ch ++ [TQ w0.heap.size lim q u' (xs ++ cs), TW w0.heap.size (tq, lq)] ++ [TP w0.heap.size lim p v' (xs ++ cs), TG w0.heap.size (t1, l1)] ++ [TP w0.heap.size lim p2 v2' (xs ++ cs), TG w0.heap.size (t2, l2)] ++ [TR w0.heap.size gv' ((ges ch).map (·.1) ++ [t1, t2])] ++ [TR w0.heap.size wv' ((wes ch).map (·.1) ++ [tq, tq])]))
    (hb : Below w0.heap.size w0 w5) (h1 : l1.map (·.1) = tellx lim xs cs) (h2 : l2.map (·.1) = tellx lim xs cs) (hq : lq.map (·.1) = tellx lim xs cs) :
    UK w0 w5 lim q u' p v' p2 v2' gv' wv' (ch ++ [((t1, l1), (t2, l2), (tq, lq))]) (xs ++ cs) := by
  have k1 := tellx_map h1
  have k2 := tellx_map h2
  have hp := hs.perm (queue_perm _ _ _ _ _ _ _ _ _)
  refine ⟨?_, hb, fun c hc => ?_, ?_, fun e he r hr => ?_⟩
  · rw [ths_app, ges_app, wes_app, List.map_append, List.map_append]
    exact hp
  · rcases List.mem_append.1 hc with hc | hc
    · exact h.eq c hc
    · obtain rfl := List.mem_singleton.1 hc
      exact ⟨by rw [h1, hq], by rw [h2, hq]⟩
  · have := h.nb
    rw [ges_app, List.flatMap_append, List.length_append, List.length_append]
    simp only [List.flatMap_cons, List.flatMap_nil, List.length_append, List.length_nil]
    omega
  · rw [ges_app] at he
    rcases List.mem_append.1 he with he | he
    · have := h.bd e he r hr
      rw [List.length_append]
      omega
    · simp only [List.mem_cons, List.not_mem_nil, or_false] at he
      rcases he with rfl | rfl
      · exact k1.2 r hr
      · exact k2.2 r hr
theorem tg_shape {base : Nat} {w : World} {L : List Th} {tv : Value} {l : List PV} (h : Sep base w L) (hm : TG base (tv, l) ∈ L) : ∃ A c, tv = .slice A l.length c := by
  obtain ⟨A, c, e, _⟩ := PL.shape (h.p _ hm)
  exact ⟨A, c, e⟩
theorem tw_shape {base : Nat} {w : World} {L : List Th} {tv : Value} {l : List PV} (h : Sep base w L) (hm : TW base (tv, l) ∈ L) : ∃ A c, tv = .slice A l.length c := by
  obtain ⟨A, c, e, _⟩ := PR.shape (h.p _ hm)
  exact ⟨A, c, e⟩
theorem sep_row {w0 w w1 w2 : World} {v : Value} {xs ys : List Value} {g cap : Nat} {L : List Th} (h : Sep w0.heap.size w (TR w0.heap.size v xs :: L)) (hbe : Below w0.heap.size w0 w) (hb : Below w.heap.size w w1) (hown : w2.ownsRow w0.heap.size 24 1 (.slice (some ⟨g, 0, none⟩) (xs.length + 2) cap) (xs.length + 2) (xs ++ ys)) (hy : ys.length = 2) (hgr : w1.grownBy w2 v.ownBlock) (hat : v.ownBlock = some g ∨ g = w1.heap.size) :
    Sep w0.heap.size w2 (L ++ [TR w0.heap.size (.slice (some ⟨g, 0, none⟩) (xs.length + 2) cap) (xs ++ ys)]) ∧ Below w0.heap.size w0 w2 := by
  have hs := hbe.size
  have hs1 := hb.size
  refine ⟨(h.below hb).rowed (by omega) (by rw [List.length_append, hy]; exact hown) hgr (fun b e => ?_), ?_⟩
  · injection e with e
    simp only at e
    subst e
    rcases hat with h | h
    · exact .inl h
    · exact .inr (by omega)
  · exact Sep.to_below (O := [TR w0.heap.size v xs]) (h.below hb) (hbe.trans (hb.mono hs)) (kp_one (Kp.of_grown' hgr) fun _ h => h)
theorem UK.below {w0 w w' : World} {lim : Int} {q u p v p2 v2 gv wv : Value} {ch : List Ch} {xs : List Int} (h : UK w0 w lim q u p v p2 v2 gv wv ch xs) (hb : Below w.heap.size w w') : UK w0 w' lim q u p v p2 v2 gv wv ch xs :=
  ⟨h.sep.below hb, h.be.trans (hb.mono h.be.size), h.eq, h.nb, h.bd⟩
theorem UK.rows {w0 w : World} {lim : Int} {q u p v p2 v2 gv wv : Value} {ch : List Ch} {xs : List Int} (h : UK w0 w lim q u p v p2 v2 gv wv ch xs) : w.ownsRow w0.heap.size 24 1 gv ((ges ch).map (·.1)).length ((ges ch).map (·.1)) ∧ w.ownsRow w0.heap.size 24 1 wv ((wes ch).map (·.1)).length ((wes ch).map (·.1)) :=
  ⟨h.sep.p (TR w0.heap.size gv ((ges ch).map (fun x : TE => x.1))) (by simp), h.sep.p (TR w0.heap.size wv ((wes ch).map (fun x : TE => x.1))) (by simp)⟩
theorem row_at {w : World} {base n c : Nat} {e : TypeId} {A : Option Addr} {ys : List Value} (h : w.ownsRow base e 1 (.slice A n c) n ys) (hn : ys.length = n) {i : Nat} {y : Value} (hi : ys[i]? = some y) : ∃ b, A = some ⟨b, 0, none⟩ ∧ w.cell? ⟨b, i, none⟩ = some y := by
  have hlt := (List.getElem?_eq_some_iff.1 hi).1
  rcases h.2 with ⟨e, h0⟩ | ⟨b, cap, cur, e, _⟩
  · omega
  · injection e with e1 e2 e3
    subst e1 e3
    exact ⟨b, rfl, by rw [World.ownsRow.cellAt h _ (by omega), hi]⟩
/-- What is asked in loop 2. -/
theorem UK.same {w0 w : World} {lim : Int} {q u p v p2 v2 gv wv : Value} {ch : List Ch} {xs : List Int} (h : UK w0 w lim q u p v p2 v2 gv wv ch xs) {n : Nat} {e : TE} (he : (ges ch)[n]? = some e) :
    ∃ f, (wes ch)[n]? = some f ∧ ∀ m, Calls Try.prog 13 #[e.1, f.1] (w.drewN m) fun e w' => e = .returned (.bool true) ∧ ∃ m', w' = w.drewN m' := by
  obtain ⟨c, hc, hcase, hf⟩ := ges_wes ch n e he
  refine ⟨c.2.2, hf, fun m => ?_⟩
  have hb := below_drewN (Below.refl w.heap.size w) m
  obtain ⟨m1, m2, m3⟩ := ths_mem w0.heap.size hc
  have hs : ∀ t ∈ ths w0.heap.size ch, t.P w := fun t ht => h.sep.p t (by simp [ht])
  have hw : PR w w0.heap.size c.2.2.1 c.2.2.2 := hs _ m3
  have hg : PL w w0.heap.size e.1 e.2 ∧ e.2.map (·.1) = c.2.2.2.map (·.1) := by
    rcases hcase with rfl | rfl
    · exact ⟨hs _ m1, (h.eq c hc).1⟩
    · exact ⟨hs _ m2, (h.eq c hc).2⟩
  refine (samepieces_pr _ _ _ _ e.2 c.2.2.2 _ (hg.1.below hb).reads (hw.below hb) hg.2).mono ?_
  rintro e w' ⟨rfl, m', rfl⟩
  exact ⟨rfl, m + m', World.drewN_drewN _ _ _⟩
/-- Loop 3: the shelf, what has not been kept, the list. -/
structure LK (w0 w : World) (g : Nat) (sv : Value) (sl : List (Nat × Value)) (gv : Value) (ge : List TE) (j : Nat) : Prop where
  sep : Sep w0.heap.size w (TS w0.heap.size g sv sl :: ((ge.drop j).map (TG w0.heap.size) ++ [TR w0.heap.size gv (ge.map (·.1))]))
  be : Below w0.heap.size w0 w
  len : sl.length = ((ge.take j).flatMap (·.2)).length
  ap : ∀ (n : Nat) (r : Nat × Value), sl[n]? = some r → ∀ b, r.2.ownBlock = some b → sv.ownBlock ≠ some b ∧ b ≠ g
theorem take_flat {ge : List TE} {j : Nat} {e : TE} (h : ge[j]? = some e) : ((ge.take (j + 1)).flatMap (·.2)).length = ((ge.take j).flatMap (·.2)).length + e.2.length := by
  rw [List.take_add_one, h, List.flatMap_append, List.length_append]
  simp
theorem flat_le (ge : List TE) (j : Nat) : ((ge.take j).flatMap (·.2)).length ≤ (ge.flatMap (·.2)).length := by
  have h : (ge.flatMap (·.2)).length = ((ge.take j).flatMap (·.2)).length + ((ge.drop j).flatMap (·.2)).length := by
    rw [← List.length_append, ← List.flatMap_append, List.take_append_drop]
  omega
theorem drop_at {ge : List TE} {j : Nat} {e : TE} (h : ge[j]? = some e) : ge.drop j = e :: ge.drop (j + 1) := by
  obtain ⟨h1, h2⟩ := List.getElem?_eq_some_iff.1 h
  rw [List.drop_eq_getElem_cons h1, h2]
theorem UK.shelf {w0 w : World} {lim : Int} {q u p v p2 v2 gv wv : Value} {ch : List Ch} {xs : List Int} (h : UK w0 w lim q u p v p2 v2 gv wv ch xs) : LK w0 (w.alloc (.cells #[.slice none 0 0] 30)) w.heap.size (.slice none 0 0) [] gv (ges ch) 0 := by
  have hs := h.be.size
  have hb : Below w.heap.size w (w.alloc (.cells #[.slice none 0 0] 30)) := (Below.refl _ _).alloc (Nat.le_refl _) _
  have hsub : (TR w0.heap.size gv ((ges ch).map (·.1)) :: (ges ch).map (TG w0.heap.size)).Sublist (TQ w0.heap.size lim q u xs :: TP w0.heap.size lim p v xs :: TP w0.heap.size lim p2 v2 xs :: TR w0.heap.size gv ((ges ch).map (·.1)) :: TR w0.heap.size wv ((wes ch).map (·.1)) :: ths w0.heap.size ch) :=
    .cons _ (.cons _ (.cons _ (.cons_cons _ (.cons _ (ths_ges _ ch)))))
  have hpm : (TR w0.heap.size gv ((ges ch).map (·.1)) :: (ges ch).map (TG w0.heap.size)).Perm ((ges ch).map (TG w0.heap.size) ++ [TR w0.heap.size gv ((ges ch).map (·.1))]) := List.perm_append_comm (l₁ := [TR w0.heap.size gv ((ges ch).map (fun x : TE => x.1))]) (l₂ := (ges ch).map (TG w0.heap.size))
  have h1 := (h.sep.sub hsub).perm hpm
  refine ⟨?_, h.be.trans (hb.mono hs), by simp, fun n r hr => by simp at hr⟩
  refine Sep.step (O := []) (N := [TS w0.heap.size w.heap.size (.slice none 0 0) []]) h1 (.of_below hb) hs (fun t ht => ?_) (List.pairwise_singleton _ _) (fun t ht b hf => ?_)
  · obtain rfl := List.mem_singleton.1 ht
    exact ⟨Blk.new w 30 _, World.ownsRow_nil _ _ 22 1, fun n p hp => by simp at hp⟩
  · obtain rfl := List.mem_singleton.1 ht
    rcases hf with hf | hf | ⟨n, r, hr, _⟩
    · exact .inr (by omega)
    · cases hf
    · simp at hr
theorem LK.keep {w0 w : World} {g : Nat} {sv : Value} {sl : List (Nat × Value)} {gv : Value} {ge : List TE} {j : Nat} {e : TE} (h : LK w0 w g sv sl gv ge j) (he : ge[j]? = some e) (hl : (ge.flatMap (·.2)).length ≤ 4294967296) (hbd : ∀ r ∈ e.2, r.1.body.length ≤ 2147483648) :
    Calls Try.prog 14 #[.pointer (some ⟨g, 0, none⟩), e.1] w fun x w' => x = .returned (.tuple #[]) ∧ ∃ sv' sl', LK w0 w' g sv' sl' gv ge (j + 1) := by
  have hs := h.be.size
  have hf := take_flat he
  have hle := flat_le ge (j + 1)
  have hsep := h.sep
  rw [drop_at he] at hsep
  have hsh : SH w w0.heap.size g sv sl := hsep.p (TS w0.heap.size g sv sl) (by simp)
  have hpl : PL w w0.heap.size e.1 e.2 := hsep.p (TG w0.heap.size e) (by simp)
  have hd : Disj (TS w0.heap.size g sv sl) (TG w0.heap.size e) := (List.pairwise_cons.1 hsep.d).1 _ (by simp)
  refine (keep_any w0.heap.size g sv e.1 sl e.2 w hsh hpl hs (by have := h.len; omega) hbd (fun n r hr b hb => ?_)).mono ?_
  · have h1 := h.ap n r hr b hb
    refine ⟨h1.1, h1.2, fun hc => hd b (.inr (.inr ⟨n, r, hr, hb⟩)) (.inl hc), fun k r' hk hc => hd b (.inr (.inr ⟨n, r, hr, hb⟩)) (.inr ⟨k, r', hk, hc⟩)⟩
  · rintro x w' ⟨rfl, sv', hK⟩
    have hO : Sep w0.heap.size w ([TS w0.heap.size g sv sl, TG w0.heap.size e] ++ ((ge.drop (j + 1)).map (TG w0.heap.size) ++ [TR w0.heap.size gv (ge.map (·.1))])) := hsep
    have hk : Kp (fun b => ∃ o ∈ [TS w0.heap.size g sv sl, TG w0.heap.size e], o.F b) w w' := hK.kp.mono fun b hb => .inl (by
      rcases hb with hb | hb | hb
      · exact ⟨TS w0.heap.size g sv sl, by simp, .inl hb⟩
      · exact ⟨TS w0.heap.size g sv sl, by simp, .inr (.inl hb)⟩
      · exact ⟨TG w0.heap.size e, by simp, hb⟩)
    refine ⟨rfl, sv', sl ++ taken e.2 e.2.length, ?_, Sep.to_below hO h.be hk, ?_, fun n r hr b hb => ?_⟩
    · refine Sep.step (N := [TS w0.heap.size g sv' (sl ++ taken e.2 e.2.length)]) hO hk hs (fun t ht => ?_) (List.pairwise_singleton _ _) (fun t ht b hb => ?_)
      · obtain rfl := List.mem_singleton.1 ht
        exact hK.sh
      · obtain rfl := List.mem_singleton.1 ht
        rcases hb with rfl | hb | ⟨n, r, hr, hb⟩
        · exact .inl ⟨TS w0.heap.size b sv sl, by simp, .inl rfl⟩
        · rcases hK.sva with e1 | e1
          · exact .inl ⟨TS w0.heap.size g sv sl, by simp, .inr (.inl (e1 ▸ hb))⟩
          · exact .inr (e1 b hb)
        · rcases List.mem_append.1 (List.mem_of_getElem? hr) with hm | hm
          · obtain ⟨k, hk⟩ := List.mem_iff_getElem?.1 hm
            exact .inl ⟨TS w0.heap.size g sv sl, by simp, .inr (.inr ⟨k, r, hk, hb⟩)⟩
          · unfold taken at hm
            rw [List.take_length] at hm
            obtain ⟨r', hm2, rfl⟩ := List.mem_map.1 hm
            obtain ⟨k, hk⟩ := List.mem_iff_getElem?.1 hm2
            exact .inl ⟨TG w0.heap.size e, by simp, .inr ⟨k, r', hk, hb⟩⟩
    · rw [List.length_append, taken_len _ (Nat.le_refl _), hf, h.len]
    · have := hK.apart n r hr b hb
      exact ⟨this.1, this.2.1⟩
attribute [local irreducible] Go.Calls in
set_option maxRecDepth 100000 in
set_option maxHeartbeats 4000000 in
theorem untold_any (lim : Int) (A : Option Addr) (l : List BV) (c : Nat) (w : World) (hr : Rows3 w A l) (hb : bey l ≤ 2147483647) :
    Calls Try.prog 29 #[.int .i64 lim, .slice A l.length c] w fun e w' => e = .returned (.bool true) ∧ Below w.heap.size w w' := by
  have hll := bey_len l
  have hq := qsnew lim w
  have Hr := Lib.hid hr
  clear hr
  go_enter Try.func29, Try.ntmps29
  go_upto_region 2 with (go_at_call 19; refine hq.mono ?_; clear hq; rintro e w1 ⟨q, rfl, hb1, hqs, hql⟩)
  have hp := psnew lim w1
  have hs1 := hb1.size
  have Hb1 := Lib.hid hb1
  have Hqs := Lib.hid hqs
  have Hql := Lib.hid hql
  clear hb1 hqs hql
  go_upto_region 3 with (go_at_call 20; refine hp.mono ?_; clear hp; rintro e w2 ⟨p, rfl, hb2, hps, hpl⟩)
  have hp := psnew lim w2
  have hs2 := hb2.size
  have Hps := Lib.hid hps
  have Hpl := Lib.hid hpl
  have Hb2 := Lib.hid hb2
  clear hps hpl hb2
  go_upto_region 4 with (go_at_call 20; refine hp.mono ?_; clear hp; rintro e w3 ⟨p2, rfl, hb3, hps3, hpl3⟩)
  have hs3 := hb3.size
  have hU : UK w w3 lim q (.slice none 0 0) p (.slice none 0 0) p2 (.slice none 0 0) (.slice none 0 0) (.slice none 0 0) [] [] := by
    have hP : ∀ b, PB p (.slice none 0 0) b → w1.heap.size ≤ b ∧ b < w2.heap.size := fun b hb => ⟨Hpl.out b hb, Hps.out.lt hb⟩
    have hP2 : ∀ b, PB p2 (.slice none 0 0) b → w2.heap.size ≤ b ∧ b < w3.heap.size := fun b hb => ⟨hpl3 b hb, hps3.lt hb⟩
    have hQ : ∀ b, PB q (.slice none 0 0) b → w.heap.size ≤ b ∧ b < w1.heap.size := fun b hb => ⟨Hql.out b hb, Hqs.out.lt hb⟩
    refine ⟨⟨fun t ht => ?_, ?_, fun t ht b hb => ?_⟩, (Hb1.out.trans (Hb2.out.mono hs1)).trans (hb3.mono (by omega)), fun c hc => by simp at hc, Nat.le_refl _, fun e he => by simp [ges] at he⟩
    · simp only [ths, List.flatMap_nil, List.mem_cons, List.not_mem_nil, or_false] at ht
      rcases ht with rfl | rfl | rfl | rfl | rfl
      · exact (Hqs.out.below Hb2.out).below hb3
      · exact (Hps.out.mono hs1).below hb3
      · exact hps3.mono (by omega)
      · exact World.ownsRow_nil _ _ 24 1
      · exact World.ownsRow_nil _ _ 24 1
    · have hn : ∀ t : Th, ∀ vs, Disj t (TR w.heap.size (.slice none 0 0) vs) := fun t vs x _ hc => by cases hc
      simp only [ths, List.flatMap_nil, List.pairwise_cons, List.mem_cons, List.not_mem_nil, or_false, forall_eq_or_imp, forall_eq, List.Pairwise.nil, and_true, false_implies, implies_true]
      refine ⟨⟨fun x h1 h2 => ?_, fun x h1 h2 => ?_, hn _ _, hn _ _⟩, ⟨fun x h1 h2 => ?_, hn _ _, hn _ _⟩, ⟨hn _ _, hn _ _⟩, hn _ _⟩
      · have := (hQ x h1).2; have := (hP x h2).1; omega
      · have := (hQ x h1).2; have := (hP2 x h2).1; omega
      · have := (hP x h1).2; have := (hP2 x h2).1; omega
    · simp only [ths, List.flatMap_nil, List.mem_cons, List.not_mem_nil, or_false] at ht
      rcases ht with rfl | rfl | rfl | rfl | rfl
      · exact (hQ b hb).1
      · have := (hP b hb).1; omega
      · have := (hP2 b hb).1; omega
      · cases hb
      · cases hb
  have HU := Lib.hid hU
  clear hU hps3 hpl3 hb3 Hps Hpl Hb2 Hb1 Hqs Hql
  go_upto_region 9 with fail
  go_loopg [11, 12, 13] l.length (fun gg gv wv iv wx => ∃ k u v v2 ch, gg + k = l.length ∧ iv = .int .i64 ((k : Nat) : Int) ∧ List.length ch = k ∧ UK w wx lim q u p v p2 v2 gv wv ch (joined l k))
  case atStart => exact ⟨0, _, _, _, [], by omega, rfl, rfl, HU.out⟩
  case round =>
    obtain ⟨k, u, v, v2, ch, hk, rfl, hch, hU⟩ := hrel
    have Hk := Lib.hid hk
    have HU := Lib.hid hU
    have Hch := Lib.hid hch
    clear hk hU hch
    by_cases hlt : k < l.length
    · have hki : (k : Int) < l.length := by omega
      have hkn : ¬ (k : Int) < 0 := by omega
      obtain ⟨b, o, r, Ai, ci, rfl, hbl, hrk, hcl, hnil, h1, h2, hbx, hby⟩ := Hr.out.get hlt
      have hcell : ∀ wx, Below w.heap.size w wx → wx.cell? ⟨b, o + k, none⟩ = some (.slice Ai r.1.length ci) := fun wx hb => (hb.cell (p := ⟨b, o + k, none⟩) hbl).trans hcl
      have hchunk : ∀ wx, Below w.heap.size w wx → BytesAt wx Ai r.1 := fun wx hb => hbx.below hb
      have hnext := joined_next hrk
      have hlnx := joined_le l (k + 1)
      have hbyn := joined_byt Hr.out (k + 1)
      rw [hnext] at hbyn hlnx
      have hbyo := joined_byt Hr.out k
      have hcs : r.1.length ≤ 2147483647 := by rw [List.length_append] at hlnx; omega
      generalize joined l k = xs at *
      have Hnext := Lib.hid hnext
      have Hlnx := Lib.hid hlnx
      have Hbyn := Lib.hid hbyn
      have Hbyo := Lib.hid hbyo
      have Hcell := Lib.hid hcell
      have Hchunk := Lib.hid hchunk
      have Hby := Lib.hid hby
      have Hnil := Lib.hid hnil
      clear hnext hlnx hbyn hbyo hcell hchunk hby hnil hrk hcl hbx
      generalize r.1 = cs at *
      clear r
      have hbe := HU.out.be
      have hs0 := hbe.size
      have q0 := Hcell.out wr hbe
      have hci : cs.length ≤ ci ∧ ci ≤ maxLen := ⟨h1, h2⟩
      have hlc : cs.length + 64 ≤ maxLen := by unfold maxLen; omega
      have hN0 : cs.length + 64 ≤ 2147483711 := by omega
      have hnN : cs.length ≤ cs.length + 64 := by omega
      generalize hN : cs.length + 64 = N at *
      have HN := Lib.hid hN
      have hqf := qsfeed w.heap.size lim q u xs cs wr Ai ci (HU.out.sep.p _ List.mem_cons_self) (by omega) hci Hnil.out (by have := Hlnx.out; rw [List.length_append] at this; omega) (Hchunk.out wr hbe) Hbyo.out Hby.out
      clear hN hbe
      go_upto_region 12 with (go_at_call 22; refine hqf.mono ?_; clear hqf; rintro e wA ⟨tq, rfl, u', lq, hRd⟩)
      have hsA := hRd.2.1.size
      have hbA : Below w.heap.size w wA := Sep.to_below (O := [TQ w.heap.size lim q u xs]) HU.out.sep HU.out.be (kp_one hRd.2.1 fun _ h => h)
      have sA := HU.out.sep.rfed hs0 hRd
      have hplq := hRd.2.2.2.1
      have q1 := Hcell.out wA hbA
      have hsp := spare_drew (N := N) HN.out hci (by omega) (Hchunk.out wA hbA)
      have hpf := fun v1 => fd_feed (N := N) sA hbA ⟨hnN, hlc⟩ (by omega) Hbyo.out Hby.out v1
      have SA := Lib.hid sA
      have HbA := Lib.hid hbA
      have Hplq := Lib.hid hplq
      have Hpf := Lib.hid hpf
      clear hpf q0 sA hbA hplq hRd
      go_cut [15] (fun tv wx => ∃ v' l1, Fd w wA wx lim p v' tv l1 xs cs (TP w.heap.size lim p2 v2 xs :: TR w.heap.size u11 ((ges ch).map (·.1)) :: TR w.heap.size u12 ((wes ch).map (·.1)) :: ths w.heap.size ch ++ [TQ w.heap.size lim q u' (xs ++ cs), TW w.heap.size (tq, lq)]))
      case first =>
        go_region_with (first
          | (go_at_call 10; refine hsp.mono ?_; clear hsp; rintro e v1 ⟨rfl, hb1, hg1⟩; have q2 := Hcell.out v1 (HbA.out.trans (hb1.mono HbA.out.size)); have hpf := Hpf.out v1 hb1 hg1)
          | (go_at_call 21; refine hpf.mono ?_; clear hpf; rintro e v3 ⟨tv, rfl, v', l1, hFd⟩))
        all_goals (
          go_wp2
          go_meet
          (case rel => exact ⟨v', l1, hFd⟩))
      case rest =>
        obtain ⟨v', l1, hFd⟩ := hcut
        have hbB := hFd.be
        have hpsB := hFd.ps
        have q2 := Hcell.out wc hbB
        have hsp := spare_drew (N := N) HN.out hci (by omega) (Hchunk.out wc hbB)
        have hpf := fun v1 => fd_feed (N := N) hFd.sep hbB ⟨hnN, hlc⟩ (by omega) Hbyo.out Hby.out v1
        have HbB := Lib.hid hbB
        have HpsB := Lib.hid hpsB
        have Hpf2 := Lib.hid hpf
        clear hpf hbB hpsB hFd q1
        go_upto_region 13 with fail
        go_cut [16] (fun tv wx => ∃ v2' l2, Fd w wc wx lim p2 v2' tv l2 xs cs (TR w.heap.size u11 ((ges ch).map (·.1)) :: TR w.heap.size u12 ((wes ch).map (·.1)) :: ths w.heap.size ch ++ [TQ w.heap.size lim q u' (xs ++ cs), TW w.heap.size (tq, lq)] ++ [TP w.heap.size lim p v' (xs ++ cs), TG w.heap.size (u15, l1)]))
        case first =>
          go_region_with (first
            | (go_at_call 10; refine hsp.mono ?_; clear hsp; rintro e v1 ⟨rfl, hb1, hg1⟩; have q3 := Hcell.out v1 (HbB.out.trans (hb1.mono HbB.out.size)); have hpf := Hpf2.out v1 hb1 hg1)
            | (go_at_call 21; refine hpf.mono ?_; clear hpf; rintro e v3 ⟨tv, rfl, v2', l2, hFd⟩))
          all_goals (
            go_wp2
            go_meet
            (case rel => exact ⟨v2', l2, hFd⟩))
        case rest =>
          obtain ⟨v2', l2, hFd⟩ := hcut
          have hbC := hFd.be
          have hsC := hbC.size
          have hpsC := hFd.ps
          obtain ⟨A1, c1, rfl⟩ := tg_shape (tv := u15) (l := l1) hFd.sep (by simp)
          obtain ⟨A2, c2, rfl⟩ := tg_shape (tv := u16) (l := l2) hFd.sep (by simp)
          obtain ⟨Aq, cq, rfl⟩ := tw_shape (tv := tq) (l := lq) hFd.sep (by simp)
          have sC := hFd.sep
          have hgl : ((ges ch).map (·.1)).length + 2 ≤ 4398046511104 := by rw [List.length_map, ges_len, Hch.out]; omega
          have hwl : ((wes ch).map (·.1)).length + 2 ≤ 4398046511104 := by rw [List.length_map, wes_len, Hch.out]; omega
          have SC := Lib.hid sC
          have HbC := Lib.hid hbC
          have HpsC := Lib.hid hpsC
          have Hgl := Lib.hid hgl
          have Hwl := Lib.hid hwl
          clear hFd sC hbC hpsC hgl hwl q2 SA HbA Hpf Hpf2 hsp
          obtain ⟨wD, hwD⟩ : ∃ wD, wD = wc.alloc (.cells #[.slice A1 l1.length c1, .slice A2 l2.length c2] 24) := ⟨_, rfl⟩
          have hbD : Below wc.heap.size wc (wc.alloc (.cells #[.slice A1 l1.length c1, .slice A2 l2.length c2] 24)) := (Below.refl _ _).alloc (Nat.le_refl _) _
          have hoD : (wc.alloc (.cells #[.slice A1 l1.length c1, .slice A2 l2.length c2] 24)).ownsRow w.heap.size 24 1 u11 ((ges ch).map (·.1)).length ((ges ch).map (·.1)) := (SC.out.below hbD).p _ List.mem_cons_self
          have hsD : w.heap.size ≤ (wc.alloc (.cells #[.slice A1 l1.length c1, .slice A2 l2.length c2] 24)).heap.size := Nat.le_trans hsC hbD.size
          have HbD := Lib.hid hbD
          have HoD := Lib.hid hoD
          have HsD := Lib.hid hsD
          clear hbD hoD hsD hwD wD
          go_upto_region 15 with (at_builtin; refine wpList_appE rfl (.tmp 81) (.tmp 84) rfl (v := u11) (xs := (ges ch).map (·.1)) (by simp [Act.eval]) HoD.out wc.heap.size A1 A2 l1.length c1 l2.length c2 2 (by simp [Act.eval]) (Blk.new wc 24 _) Hgl.out HsD.out ?_; rintro g3 cap3 wE hown3 hgr3 hat3 hlt3)
          obtain ⟨sE, hbE⟩ := sep_row SC.out HbC.out HbD.out hown3 rfl hgr3 hat3
          have hsE := hbE.size
          have hbF : Below wE.heap.size wE (wE.alloc (.cells #[.slice Aq lq.length cq, .slice Aq lq.length cq] 24)) := (Below.refl _ _).alloc (Nat.le_refl _) _
          have hoF : (wE.alloc (.cells #[.slice Aq lq.length cq, .slice Aq lq.length cq] 24)).ownsRow w.heap.size 24 1 u12 ((wes ch).map (·.1)).length ((wes ch).map (·.1)) := (sE.below hbF).p _ List.mem_cons_self
          have hsF : w.heap.size ≤ (wE.alloc (.cells #[.slice Aq lq.length cq, .slice Aq lq.length cq] 24)).heap.size := Nat.le_trans hsE hbF.size
          have SE := Lib.hid sE
          have HbE := Lib.hid hbE
          have HbF := Lib.hid hbF
          have HoF := Lib.hid hoF
          have HsF := Lib.hid hsF
          clear sE hbE hbF hoF hsF hown3 hgr3 hat3
          go_upto_region 10 with (at_builtin; refine wpList_appE rfl (.tmp 86) (.tmp 89) rfl (v := u12) (xs := (wes ch).map (·.1)) (by simp [Act.eval]) HoF.out wE.heap.size Aq Aq lq.length cq lq.length cq 2 (by simp [Act.eval]) (Blk.new wE 24 _) Hwl.out HsF.out ?_; rintro g4 cap4 wF hown4 hgr4 hat4 hlt4)
          obtain ⟨sF, hbF⟩ := sep_row SE.out HbE.out HbF.out hown4 rfl hgr4 hat4
          have hN := HU.out.next sF hbF HpsB.out HpsC.out Hplq.out
          simp only [List.length_map] at hN
          have HN2 := Lib.hid hN
          clear hN sF hbF hown4 hgr4 hat4
          go_wp2
          go_roundg (gk - 1)
          case measure => have := Hk.out; omega
          case rel => exact ⟨k + 1, u', v', v2', ch ++ [((.slice A1 l1.length c1, l1), (.slice A2 l2.length c2, l2), (.slice Aq lq.length cq, lq))], by have := Hk.out; omega, by go_num, by rw [List.length_append, Hch.out]; rfl, by rw [Hnext.out]; exact HN2.out⟩
    · have hki : ¬ (k : Int) < l.length := by omega
      obtain rfl : k = l.length := by have := Hk.out; omega
      have hxl := joined_le l l.length
      obtain ⟨Ag, cg, rfl, _, _⟩ := own_shape HU.out.rows.1
      obtain ⟨Aw, cw, rfl, _, _⟩ := own_shape HU.out.rows.2
      have hgl : ((ges ch).map (·.1)).length = 2 * l.length := by rw [List.length_map, ges_len, Hch.out]
      have hwl : ((wes ch).map (·.1)).length = 2 * l.length := by rw [List.length_map, wes_len, Hch.out]
      rw [hgl, hwl] at HU
      rw [hgl, hwl]
      have hm0 : 2 * l.length ≤ 4294967296 := by omega
      have hnb := HU.out.nb
      have hbd := HU.out.bd
      have Hgl := Lib.hid hgl
      have Hwl := Lib.hid hwl
      have Hnb := Lib.hid (show ((ges ch).flatMap (·.2)).length ≤ 4294967296 by omega)
      have Hbd := Lib.hid (show ∀ e ∈ ges ch, ∀ r ∈ e.2, r.1.body.length ≤ 2147483648 from fun e he r hr => by have := hbd e he r hr; omega)
      clear hgl hwl hnb hbd
      generalize joined l l.length = xs at *
      generalize hm : 2 * l.length = m at *
      have Hm := Lib.hid hm
      clear hm hlt
      go_upto_region 17 with fail
      go_loopg [17] m (fun gg iv wx => ∃ n, gg + n = m ∧ iv = .int .i64 ((n : Nat) : Int) ∧ UK w wx lim q u p v p2 v2 (.slice Ag m cg) (.slice Aw m cw) ch xs)
      case atStart => exact ⟨0, by omega, rfl, HU.out⟩
      case round =>
        obtain ⟨n, hn, rfl, hU⟩ := hrel
        have Hn := Lib.hid hn
        have HU2 := Lib.hid hU
        clear hn hU
        by_cases hlt : n < m
        · have hni : (n : Int) < m := by omega
          have hnn : ¬ (n : Int) < 0 := by omega
          obtain ⟨e, he⟩ : ∃ e, (ges ch)[n]? = some e := ⟨_, List.getElem?_eq_getElem (by have := Hgl.out; rw [List.length_map] at this; omega)⟩
          obtain ⟨f, hf, hsm⟩ := HU2.out.same he
          obtain ⟨bg, rfl, cg0⟩ := row_at (y := e.1) (show wr.ownsRow w.heap.size 24 1 (.slice Ag m cg) m ((ges ch).map (·.1)) from by
            have h2 := HU2.out.rows.1
            rwa [Hgl.out] at h2) Hgl.out (i := n) (by rw [List.getElem?_map, he]; rfl)
          obtain ⟨bw, rfl, cw0⟩ := row_at (y := f.1) (show wr.ownsRow w.heap.size 24 1 (.slice Aw m cw) m ((wes ch).map (·.1)) from by
            have h2 := HU2.out.rows.2
            rwa [Hwl.out] at h2) Hwl.out (i := n) (by rw [List.getElem?_map, hf]; rfl)
          clear he hf
          go_upto_region 19 with fail
          go_quiet (first | (go_at_call 13; refine hsm _))
          go_wp2
          go_roundg (gk - 1)
          case measure => have := Hn.out; omega
          case rel => exact ⟨n + 1, by have := Hn.out; omega, by go_num, HU2.out.below (below_drewN (Below.refl _ _) _)⟩
        · have hni : ¬ (n : Int) < m := by omega
          have hK := HU2.out.shelf
          have HK := Lib.hid hK
          clear hK HU HU2
          go_upto_region 23 with fail
          generalize wr.heap.size = G at *
          go_loopg [19] m (fun gg iv wx => ∃ j sv sl, gg + j = m ∧ iv = .int .i64 ((j : Nat) : Int) ∧ LK w wx G sv sl (.slice Ag m cg) (ges ch) j)
          case atStart => exact ⟨0, _, _, by omega, rfl, HK.out⟩
          case round =>
            obtain ⟨j, sv, sl, hj, rfl, hL⟩ := hrel
            have Hj := Lib.hid hj
            have HL := Lib.hid hL
            clear hj hL
            by_cases hjl : j < m
            · have hji : (j : Int) < m := by omega
              have hjn : ¬ (j : Int) < 0 := by omega
              obtain ⟨e, he⟩ : ∃ e, (ges ch)[j]? = some e := ⟨_, List.getElem?_eq_getElem (by have := Hgl.out; rw [List.length_map] at this; omega)⟩
              have hkeep := HL.out.keep he Hnb.out (Hbd.out e (List.mem_of_getElem? he))
              obtain ⟨bg, rfl, cg0⟩ := row_at (y := e.1) (show wr.ownsRow w.heap.size 24 1 (.slice Ag m cg) m ((ges ch).map (·.1)) from by
                have h := HL.out.sep.p (TR w.heap.size (.slice Ag m cg) ((ges ch).map (fun x : TE => x.1))) (by simp)
                have h2 : wr.ownsRow w.heap.size 24 1 (.slice Ag m cg) ((ges ch).map (·.1)).length ((ges ch).map (·.1)) := h
                rwa [Hgl.out] at h2) Hgl.out (i := j) (by rw [List.getElem?_map, he]; rfl)
              clear he
              go_wp2_with (go_at_call 14; refine hkeep.mono ?_; clear hkeep; rintro e' w9 ⟨rfl, sv', sl', hL9⟩)
              go_roundg (m - (j + 1))
              case measure => have := Hj.out; omega
              case rel => exact ⟨j + 1, sv', sl', by have := Hj.out; omega, by go_num, hL9⟩
            · have hji : ¬ (j : Int) < m := by omega
              have hsh : SH wr w.heap.size G sv sl := HL.out.sep.p (TS w.heap.size G sv sl) (by simp)
              have hst := stands_any _ _ _ _ wr hsh (by have h1 := HL.out.len; have h2 := flat_le (ges ch) j; have h3 := Hnb.out; omega)
              have Hbe := Lib.hid HL.out.be
              clear hsh
              go_wp2_with (go_at_call 15; refine hst.mono ?_; clear hst; rintro e' w9 ⟨rfl, rfl⟩)
              go_ret
              exact ⟨rfl, Hbe.out⟩
end Go.Proofs.Ytkllgmhfjibajaa
