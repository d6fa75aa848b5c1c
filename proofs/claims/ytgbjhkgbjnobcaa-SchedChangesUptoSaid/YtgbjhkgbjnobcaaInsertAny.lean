/- slices.Insert at queues, one queue into a list without room, wherever. Conditions: the list's block is there; at most 31 queues. -/
import Derived.Test.YtgbjhkgbjnobcaaInsert
namespace Go.Proofs.Ytgbjhkgbjnobcaa
open Go.RowKit Trn Go.Lib

theorem flat_append (a b : List R4) : flat (a ++ b) = flat a ++ flat b := by
  induction a with
  | nil => rfl
  | cons r a ih => simp [flat, ih]
theorem flat_take (l : List R4) : ∀ i, (flat l).take (i * 4) = flat (l.take i) := by
  induction l with
  | nil => intro i; simp [flat]
  | cons r l ih =>
    intro i
    cases i with
    | zero => simp [flat]
    | succ i =>
      rw [show (i + 1) * 4 = i * 4 + 1 + 1 + 1 + 1 by omega]
      simp [flat, ih]
theorem flat_drop (l : List R4) : ∀ i, (flat l).drop (i * 4) = flat (l.drop i) := by
  induction l with
  | nil => intro i; simp [flat]
  | cons r l ih =>
    intro i
    cases i with
    | zero => simp [flat]
    | succ i =>
      rw [show (i + 1) * 4 = i * 4 + 1 + 1 + 1 + 1 by omega]
      simp [flat, ih]
theorem zero_rows (n : Nat) : Builtin.zeroCells (Value.agg #[.int .i64 0, .int .i64 0, .int .i64 0, .slice none 0 0]).cells n = (flat (List.replicate n zrow)).toArray := by
  rw [← made_rows]
  simp [Builtin.zeroCells, madeCells, Value.cells]
theorem Blk.splice {g : Nat} {ty : TypeId} : ∀ (vs A M Z : List Value) (w : World), M.length = vs.length → Blk w g ty (A ++ M ++ Z).toArray → Blk (w.setCells g A.length vs) g ty (A ++ vs ++ Z).toArray
  | [], A, M, Z, w, h, hb => by
    have : M = [] := List.eq_nil_of_length_eq_zero (by simpa using h)
    subst this
    simpa [World.setCells] using hb
  | v :: vs, A, [], Z, w, h, hb => by simp at h
  | v :: vs, A, m :: M, Z, w, h, hb => by
    have h1 := Blk.set_ hb A.length v
    have h2 := Blk.splice vs (A ++ [v]) M Z (w.setCell ⟨g, A.length, none⟩ v) (by simpa using h) (by simpa using h1)
    simpa [World.setCells] using h2

theorem below_cells {B g : Nat} {a : World} (hb : B ≤ g) : ∀ (vs : List Value) (o : Nat) (w : World), Below B a w → Below B a (w.setCells g o vs)
  | [], _, _, h => h
  | v :: vs, o, w, h => below_cells hb vs (o + 1) _ (h.setCell (by simpa using hb) v)
theorem take_rep (k m : Nat) (h : m ≤ k) : List.replicate k zrow = List.replicate m zrow ++ List.replicate (k - m) zrow := by
  rw [List.replicate_append_replicate]
  congr 1
  omega

set_option maxHeartbeats 4000000 in
set_option maxRecDepth 100000 in
theorem insert_last (b n vb : Nat) (cs vs : List Value) (w : World) (hn32 : n ≤ 31) (hcl : cs.length = n * 4) (hvl : vs.length = 4)
    (hcs : ∀ j v, cs[j]? = some v → w.cell? ⟨b, 0 + j, none⟩ = some v) (hvs : ∀ j v, vs[j]? = some v → w.cell? ⟨vb, 0 + j, none⟩ = some v) :
    Calls Try.prog 40 #[.slice (some ⟨b, 0, none⟩) n n, .int .i64 n, .slice (some ⟨vb, 0, none⟩) 1 1] w fun e w' =>
      e = .returned (.slice (some ⟨w.heap.size, 0, none⟩) (n + 1) (grownCap w (n + 1) n 51)) ∧
      w' = w.drew.alloc (.cells (cs.toArray ++ vs.toArray ++ Builtin.zeroCells (Value.agg #[.int .i64 0, .int .i64 0, .int .i64 0, .slice none 0 0]).cells (grownCap w (n + 1) n 51 - (n + 1))) 51) := by
  obtain ⟨i0, hi0, hz0, hzs, hzb⟩ := info_parts info51
  have hr : ∀ ty, (Builtin.append_ #[32, 32] ty #[.slice (some ⟨b, 0, none⟩) n n, .slice (some ⟨vb, 0, none⟩) 1 1]).run Try.prog w =
      .ok (.slice (some ⟨w.heap.size, 0, none⟩) (n + 1) (grownCap w (n + 1) n 51)) (w.drew.alloc (.cells (cs.toArray ++ vs.toArray ++ Builtin.zeroCells (Value.agg #[.int .i64 0, .int .i64 0, .int .i64 0, .slice none 0 0]).cells (grownCap w (n + 1) n 51 - (n + 1))) 51)) := fun ty =>
    run_append_grow (P := Try.prog) w 32 ty 51 i0 _ Try.underlying32 hi0 hz0 ⟨b, 0, none⟩ n n cs (by rw [hzs, hcl]) (fun j v hj => by rw [Addr.add_lit]; exact hcs j v hj) ⟨vb, 0, none⟩ 1 1 vs (by rw [hzs, hvl]) (fun j v hj => by rw [Addr.add_lit]; exact hvs j v hj)
      (by omega) (by omega) (by rw [hzb]; exact growslice_fits (by omega) (by omega))
  generalize grownCap w (n + 1) n 51 = G at hr ⊢
  generalize Builtin.zeroCells _ _ = Z at hr ⊢
  generalize World.alloc _ _ = W1 at hr ⊢
  go_enter Try.func40, Try.ntmps40
  go_wp2_with (at_builtin; refine Lib.wpList_append_run _ rfl _ _ _ _ rfl _ _ rfl rfl _ _ (hr _) ?_)
  go_ret
  exact ⟨rfl, rfl⟩

/-- Insert, wherever. -/
theorem insert_any (b n i vb : Nat) (l : List R4) (r : R4) (w : World) (hi : i ≤ n) (hn : n ≤ 31) (hl : l.length = n) (hb : QBlk w b l) (h1c : ∀ v ∈ flat l, v.oneCell' = true) (h1v : ∀ v ∈ flat [r], v.oneCell' = true)
    (hvs : ∀ j v, (flat [r])[j]? = some v → w.cell? ⟨vb, 0 + j, none⟩ = some v) :
    Calls Try.prog 40 #[.slice (some ⟨b, 0, none⟩) n n, .int .i64 i, .slice (some ⟨vb, 0, none⟩) 1 1] w fun e w' =>
      ∃ cap, e = .returned (.slice (some ⟨w.heap.size, 0, none⟩) (n + 1) cap) ∧ n + 1 ≤ cap ∧ cap ≤ maxLen ∧ Below w.heap.size w w' ∧ ∃ k, QBlk w' w.heap.size (l.take i ++ r :: (l.drop i ++ List.replicate k zrow)) := by
  have hcl : (flat l).length = n * 4 := by rw [flat_len, hl]
  have hcs : ∀ j v, (flat l)[j]? = some v → w.cell? ⟨b, 0 + j, none⟩ = some v := fun j v h => by
    rw [Nat.zero_add, Blk.cell hb]
    simpa using h
  have hge := grownCap_ge w (n + 1) n 51
  have hle := grownCap_le_maxLen w (n + 1) n 51 (by unfold maxLen; omega)
  by_cases hin : i = n
  · subst hin
    refine Calls.mono (insert_last b i vb (flat l) (flat [r]) w hn hcl rfl hcs hvs) ?_
    rintro e w' ⟨rfl, rfl⟩
    refine ⟨_, rfl, hge, hle, ((Below.refl _ _).drew).alloc (Nat.le_refl _) _, grownCap w (i + 1) i 51 - (i + 1), ?_⟩
    have := Blk.new w.drew 51 ((flat l).toArray ++ (flat [r]).toArray ++ Builtin.zeroCells (Value.agg #[.int .i64 0, .int .i64 0, .int .i64 0, .slice none 0 0]).cells (grownCap w (i + 1) i 51 - (i + 1)))
    rw [zero_rows, List.append_toArray, List.append_toArray, ← flat_append, ← flat_append] at this
    rw [zero_rows, List.append_toArray, List.append_toArray, ← flat_append, ← flat_append]
    rw [← hl, List.take_length, List.drop_length]
    simpa [QBlk, hl] using this
  · refine Calls.mono (insert_grow b n i vb (flat l) (flat [r]) w (by omega) hn hcl rfl hcs hvs h1c h1v) ?_
    rintro e w' ⟨rfl, rfl⟩
    have hb0 := ((Below.refl w.heap.size w).alloc (Nat.le_refl _) (.cells (((flat l).take (i * 4)).toArray ++ Builtin.zeroCells (Value.agg #[.int .i64 0, .int .i64 0, .int .i64 0, .slice none 0 0]).cells (n + 1 - i) ++ Builtin.zeroCells (Value.agg #[.int .i64 0, .int .i64 0, .int .i64 0, .slice none 0 0]).cells (grownCap w (n + 1) n 51 - (n + 1))) 51)).drew
    have hb1 := (below_cells (Nat.le_refl _) (flat [r]) (i * 4) _ hb0).drew
    have hb2 := below_cells (Nat.le_refl _) ((flat l).drop (i * 4)) (i * 4 + 4) _ hb1
    refine ⟨_, rfl, hge, hle, hb2, grownCap w (n + 1) n 51 - (n + 1), ?_⟩
    have h0 := Blk.new w 51 (((flat l).take (i * 4)).toArray ++ Builtin.zeroCells (Value.agg #[.int .i64 0, .int .i64 0, .int .i64 0, .slice none 0 0]).cells (n + 1 - i) ++ Builtin.zeroCells (Value.agg #[.int .i64 0, .int .i64 0, .int .i64 0, .slice none 0 0]).cells (grownCap w (n + 1) n 51 - (n + 1)))
    generalize grownCap w (n + 1) n 51 - (n + 1) = k at h0 ⊢
    have hlt : (l.take i).length = i := by rw [List.length_take]; omega
    rw [zero_rows, zero_rows, List.append_toArray, List.append_toArray, flat_take, take_rep (n + 1 - i) 1 (by omega), flat_append] at h0
    rw [zero_rows, zero_rows, List.append_toArray, List.append_toArray, flat_take, take_rep (n + 1 - i) 1 (by omega), flat_append, flat_drop]
    have e1 : flat (l.take i) ++ (flat (List.replicate 1 zrow) ++ flat (List.replicate (n + 1 - i - 1) zrow)) ++ flat (List.replicate k zrow) = flat (l.take i) ++ flat [zrow] ++ (flat (List.replicate (n + 1 - i - 1) zrow) ++ flat (List.replicate k zrow)) := by
      simp [List.replicate]
    rw [e1] at h0 ⊢
    have h2 := Blk.splice (flat [r]) (flat (l.take i)) (flat [zrow]) _ _ rfl (Blk.drew h0)
    have e2 : flat (l.take i) ++ flat [r] ++ (flat (List.replicate (n + 1 - i - 1) zrow) ++ flat (List.replicate k zrow)) = (flat (l.take i) ++ flat [r]) ++ flat (List.replicate (n + 1 - i - 1) zrow) ++ flat (List.replicate k zrow) := by simp
    rw [e2] at h2
    have h3 := Blk.splice (flat (l.drop i)) (flat (l.take i) ++ flat [r]) (flat (List.replicate (n + 1 - i - 1) zrow)) _ _ (by rw [flat_len, flat_len, List.length_replicate, List.length_drop, hl]; omega) (Blk.drew h2)
    have e3 : (flat (l.take i) ++ flat [r]).length = i * 4 + 4 := by rw [List.length_append, flat_len, hlt]; rfl
    have e4 : (flat (l.take i)).length = i * 4 := by rw [flat_len, hlt]
    rw [e3, e4] at h3
    have e5 : flat (l.take i) ++ flat [r] ++ flat (l.drop i) ++ flat (List.replicate k zrow) = flat (l.take i ++ r :: (l.drop i ++ List.replicate k zrow)) := by
      simp [flat_append, flat]
    rw [e5] at h3
    exact h3
end Go.Proofs.Ytgbjhkgbjnobcaa
