/- The walk of the law's roomy: turns in memory of their own, with marks behind each list. Conditions: the turns are readable, their lists within reach. -/
import Derived.Test.YtgbjhkgbjnobcaaMoved
import Derived.Test.YtgbjhkgbjnobcaaNextOwn
namespace Go.Proofs.Ytgbjhkgbjnobcaa
open Go.RowKit Trn

def qmark (x : Int) : R4 := ⟨.int .i64 x, .int .i64 0, .int .i64 0, .slice none 0 0⟩
section
variable {w w' : World} {lo : Nat} {v : Value} {l : List QV} {tl : List R4}
/-- A queue is written anew; its costs may lie in a block that is nobody else's. -/
theorem TQ.putNew (h : TQ w lo v l tl) {i : Nat} {p : QV} (hp : l[i]? = some p) {g n c : Nat} (hv : v = .slice (some ⟨g, 0, none⟩) n c) (hw : ∀ b, b ≠ g → w'.heap[b]? = w.heap[b]?) {q : Qu} {u : Value} {sp : List Int}
    (hs : ∀ R, QBlk w g R → R[i]? = some (qrow p) → QBlk w' g (R.set i (qrow (q, u, sp)))) (hi : IR w' lo u q.cs sp) (hb : ∀ b, u.ownBlock = some b → p.2.1.ownBlock = some b ∨ ∀ (j : Nat) (p' : QV), l[j]? = some p' → p'.2.1.ownBlock ≠ some b) : TQ w' lo v (l.set i (q, u, sp)) tl := by
  have hil := (List.getElem?_eq_some_iff.1 hp).1
  rcases h.row with ⟨e, _⟩ | ⟨g', c', R, e, hg, hq, hR, h1, h2, h3⟩
  · rw [hv] at e; cases e
  · rw [hv] at e
    injection e with e e2 e3
    injection e with e
    injection e with e _ _
    subst e e2 e3 hv
    have hri := h3 i (qrow p) (by rw [List.getElem?_append_left (by simpa using hil), List.getElem?_map, hp]; rfl)
    have hold : ∀ (j : Nat) (p' : QV), (l.set i (q, u, sp))[j]? = some p' → (j = i ∧ p' = (q, u, sp)) ∨ (j ≠ i ∧ l[j]? = some p') := fun j p' hj => by
      by_cases hji : i = j
      · subst hji
        rw [List.getElem?_set_self hil] at hj
        injection hj with hj
        exact .inl ⟨rfl, hj.symm⟩
      · rw [List.getElem?_set_ne hji] at hj
        exact .inr ⟨fun e => hji e.symm, hj⟩
    refine ⟨.inr ⟨g, c, _, by rw [List.length_set], hg, hs R hq hri, by simpa using hR, by simpa using h1, h2, fun j r hr => ?_⟩, fun j p' hj => ?_, fun j k p' q' hjk hj hk b hb1 hb2 => ?_⟩
    · rw [List.map_set] at hr
      by_cases hji : i = j
      · subst hji
        rw [List.getElem?_append_left (by simpa using hil), List.getElem?_set_self (by simpa using hil)] at hr
        injection hr with hr
        subst hr
        rw [List.getElem?_set_self (List.getElem?_eq_some_iff.1 hri).1]
      · rw [List.getElem?_set_ne hji]
        refine h3 j r ?_
        rcases Nat.lt_or_ge j l.length with hl | hl
        · rw [List.getElem?_append_left (by simpa using hl), List.getElem?_set_ne hji] at hr
          rw [List.getElem?_append_left (by simpa using hl)]
          exact hr
        · rw [List.getElem?_append_right (by simpa using hl)] at hr
          rw [List.getElem?_append_right (by simpa using hl)]
          simpa using hr
    · rcases hold j p' hj with ⟨rfl, rfl⟩ | ⟨_, hj⟩
      · exact hi
      · exact (h.own j p' hj).keep fun b hb' => hw b fun e => (h.own j p' hj).ne_blk hq (by decide) (by rw [hb', e])
    · rcases hold j p' hj with ⟨e0, e1⟩ | ⟨_, hj2⟩
      · rcases hold k q' hk with ⟨e2, _⟩ | ⟨_, hk2⟩
        · exact hjk (e0.trans e2.symm)
        · rw [e1] at hb1
          rcases hb b hb1 with h' | h'
          · exact h.apart _ _ _ _ (fun e => hjk (e0.trans e)) hp hk2 b h' hb2
          · exact h' k q' hk2 hb2
      · rcases hold k q' hk with ⟨e1, e2⟩ | ⟨_, hk2⟩
        · rw [e2] at hb2
          rcases hb b hb2 with h' | h'
          · exact h.apart _ _ _ _ (fun e => hjk (e.trans e1.symm)) hj2 hp b hb1 h'
          · exact h' j p' hj2 hb1
        · exact h.apart _ _ _ _ hjk hj2 hk2 b hb1 hb2
end
theorem IR.atv {w : World} {lo : Nat} {v : Value} {xs sp : List Int} (h : IR w lo v xs sp) (s : Nat) : AtV v xs.length v s := by
  rcases h with ⟨rfl, _⟩ | ⟨b, o, c, cur, rfl, _⟩
  · exact .inr fun b hb => by cases hb
  · exact .inl ⟨b, o, c, xs.length, rfl, rfl, Nat.le_refl _⟩
section
variable {w wr w1 : World} {cb : Nat} {vq : Value} {l : List QV} {at_ : Int} {fr : Bool}
/-- A longer list of costs is cut, and stored. -/
theorem RN.setNew (h : RN w cb vq l at_ fr wr) {i g n c : Nat} {p : QV} (hp : l[i]? = some p) (hv : vq = .slice (some ⟨g, 0, none⟩) n c) {u : Value} {sp : List Int} (hi : IR wr (w.heap.size + 2) u p.1.cs sp)
    (hb : ∀ b, u.ownBlock = some b → p.2.1.ownBlock = some b ∨ ∀ (j : Nat) (p' : QV), l[j]? = some p' → p'.2.1.ownBlock ≠ some b) : RN w cb vq (l.set i (p.1, u, sp)) at_ fr (wr.setCell ⟨g, i * 4 + 3, none⟩ u) := by
  refine h.fin hv ((Touch.refl _ _).set_ _ _) (h.tq.putNew hp hv (fun b hb => Below.heap_setCell wr _ _ b hb) (fun R hq hr => hq.set3 hr u) (hi.keep fun b hb' => Below.heap_setCell wr _ _ b fun e => ?_) hb)
  have e : b = g := e
  rcases h.tq.row with ⟨e', _⟩ | ⟨g', c', R, e', _, hq, _⟩
  · rw [hv] at e'; cases e'
  · have hgg : g = g' := by
      rw [hv] at e'
      injection e' with e' _ _
      injection e' with e'
      injection e'
    exact hi.ne_blk hq (by decide) (by rw [hb', e, hgg])
/-- An append to the costs of one queue. -/
theorem RN.grown (h : RN w cb vq l at_ fr wr) {i : Nat} {p : QV} (hp : l[i]? = some p) (hsp : p.2.2 = []) {vl : Value} {ys : List Int} {s : Nat} (hvl : IR wr (w.heap.size + 2) vl ys []) (hat : AtV p.2.1 p.1.cs.length vl s) (hs : ∀ b, FQ vq l b → b < s)
    (hg : wr.grownBy w1 vl.ownBlock) (ho : ∀ v0 xs0, IR wr (w.heap.size + 2) v0 xs0 [] → (∀ b o c, vl = .slice (some ⟨b, o, none⟩) ys.length c → ∀ o0 c0, v0 = .slice (some ⟨b, o0, none⟩) xs0.length c0 → o0 + xs0.length ≤ o + ys.length) → IR w1 (w.heap.size + 2) v0 xs0 []) : RN w cb vq l at_ fr w1 :=
  ⟨h.below.grown hg h.below.size fun j hj => by have := (hvl.lt hj).1; omega, h.res.grownBy hg (hvl.ne_blk h.res (by decide)), h.gc, h.cblk.grownBy hg (hvl.ne_blk h.cblk (by decide)), h.tq.after hp hsp hvl hat hs hg ho⟩
end

set_option maxRecDepth 100000 in
set_option maxHeartbeats 8000000 in
theorem roomy_any (v : Value) (t : Tu) (w : World) (B : Nat) (hB : B ≤ w.heap.size) (hv : TuAt w B v t) (hr : Reach t) (hlen : t.qs.length * 48 ≤ 140737488351232) :
    Calls Try.prog 12 #[v] w fun e w' => (∃ vq l, e = .returned (.agg #[vq, .int .i64 t.at_, .bool t.fr]) ∧ TQ w' w.heap.size vq l [qmark (-77), qmark (-78)] ∧ l.map (·.1) = t.qs ∧ ∀ p ∈ l, p.2.2 = [-77, -78]) ∧ Below w.heap.size w w' := by
  have Hv := Lib.hid hv
  obtain ⟨A, c, rfl, hlc, hcm, hq⟩ := hv
  clear hq
  obtain ⟨i0, hi, hz0, hz1, hz2⟩ := info_parts info3
  obtain ⟨i1, hi', hz0', hz1', hz2'⟩ := info_parts info51
  have Hr := Lib.hid hr
  clear hr
  have hcp : ∀ w1, Below w.heap.size w w1 → Calls Try.prog 31 #[.agg #[.slice A t.qs.length c, .int .i64 t.at_, .bool t.fr]] w1 fun e w' => (∃ vq l, e = .returned (.agg #[vq, .int .i64 t.at_, .bool t.fr]) ∧ TQ w' w1.heap.size vq l [] ∧ l.map (·.1) = t.qs ∧ ∀ p ∈ l, p.2.2 = []) ∧ Below w1.heap.size w1 w' := fun w1 hb =>
    refcopied_own _ t w1 B (by have := hb.size; omega) (Hv.out.below (hb.mono hB)) Hr.out (by omega)
  have Hcp := Lib.hid hcp
  clear hcp
  go_enter Try.func12, Try.ntmps12
  go_upto_region 1 with fail
  have hx := (Boxed.start w A t.qs.length c t.at_ t.fr).alloc (.cells #[.slice none 0 0, .int .i64 0, .bool false] 34)
  have hres := Blk.new (w.alloc (.cells #[.slice A t.qs.length c, .int .i64 t.at_, .bool t.fr] 34)) 34 #[.slice none 0 0, .int .i64 0, .bool false]
  rw [World.size_alloc] at hres
  generalize hW0 : World.alloc (World.alloc _ _) _ = W0
  rw [hW0] at hx hres
  clear hW0
  obtain ⟨x0, x1, x2⟩ := hx.cells
  have HX := Lib.hid hx
  have HR := Lib.hid hres
  clear hx hres
  go_upto_region 2 with (first
    | (go_at_call 31; refine Calls.mono (Hcp.out _ HX.out.below) ?_; rintro e w2 ⟨⟨vq, l, rfl, ho, hl, hsp⟩, hb2⟩; obtain ⟨Av, cv, hvq, _, _⟩ := ho.shape; subst hvq; have Ho := Lib.hid ho; have Hl := Lib.hid hl; have Hsp := Lib.hid hsp; have Hb2 := Lib.hid hb2; clear ho hl hsp hb2))
  have hl3 : l.length = t.qs.length := by rw [← Hl.out, List.length_map]
  have hrn : RN w w2.heap.size (.slice Av l.length cv) l t.at_ t.fr (w2.alloc (.cells #[.slice Av l.length cv, .int .i64 t.at_, .bool t.fr] 34)) := by
    have h1 := HX.out.below.size
    have h2 := Hb2.out.size
    have h3 := HR.out.lt
    exact ⟨(HX.out.below.trans (Hb2.out.mono h1)).alloc (by omega) _, (HR.out.below Hb2.out (by omega)).alloc _, by omega, Blk.new _ _ _, (Ho.out.mono (by omega)).below ((Below.refl _ _).alloc (Nat.le_refl _) _)⟩
  generalize hW3 : World.alloc w2 _ = W3 at *
  clear hW3 Ho Hb2 HX HR x0 x1 x2 Hcp
  generalize w2.heap.size = cb at *
  rw [hl3] at hrn ⊢
  have Hrn := Lib.hid hrn
  have Hl3 := Lib.hid hl3
  clear hrn hl3
  go_wp2
  go_loopg [4] t.qs.length (fun g vi wr => ∃ (k : Nat) (l' : List QV), g + k = t.qs.length ∧ vi = .int .i64 (k : Nat) ∧ RN w cb (.slice Av t.qs.length cv) l' t.at_ t.fr wr ∧ l'.map (·.1) = t.qs ∧ (∀ (i : Nat) (p : QV), l'[i]? = some p → (i < k → p.2.2 = [-77, -78]) ∧ (k ≤ i → p.2.2 = [])))
  case atStart => exact ⟨0, l, by omega, rfl, Hrn.out, Hl.out, fun i p hp => ⟨fun h => by omega, fun _ => Hsp.out p (List.mem_of_getElem? hp)⟩⟩
  case round =>
    obtain ⟨k, l1, hk, rfl, hm, hlq, hspk⟩ := hrel
    have hkn : k ≤ t.qs.length := by omega
    have Hk := Lib.hid hk
    have Hm := Lib.hid hm
    have Hlq := Lib.hid hlq
    have Hsk := Lib.hid hspk
    have k0 := hm.cblk.cell 0
    have k1 := hm.cblk.cell 1
    have k2 := hm.cblk.cell 2
    simp at k0 k1 k2
    by_cases hkl : k < t.qs.length
    · have hki : (k : Int) < t.qs.length := by omega
      have hl1 : l1.length = t.qs.length := by rw [← hlq, List.length_map]
      obtain ⟨⟨q, u, sp⟩, hp⟩ : ∃ p, l1[k]? = some p := ⟨_, List.getElem?_eq_getElem (by omega)⟩
      have hsp0 : sp = [] := (hspk k _ hp).2 (Nat.le_refl _)
      subst hsp0
      have hrq : q.cs.length * 8 ≤ 140737488351232 := Hr.out q (by
        rw [← hlq]
        exact List.mem_map.2 ⟨_, List.mem_of_getElem? hp, rfl⟩)
      obtain ⟨g, c', hA, _, q0, q1, q2, q3, hfz⟩ := hm.tq.at_ hp
      have hA' : Av = some ⟨g, 0, none⟩ := by injection hA
      clear hA
      subst hA'
      dsimp only at q3
      have hir : IR wr (w.heap.size + 2) u q.cs [] := hm.tq.own k _ hp
      obtain ⟨Aq, cq, hu, hcq, hcqm⟩ := hir.shape
      subst hu
      have hcq2 : cq ≤ 9223372036854775807 := by unfold maxLen at hcqm; omega
      have z3 := hfz (k * 4 + 3)
      have hsz := hm.below.size
      have hrs := hm.res.lt
      have Hp := Lib.hid hp
      have Hir := Lib.hid hir
      clear hk hm hlq hspk hp hl1 q0 q1 q2 hfz hir hcqm
      go_upto_region 7 with (first
        | (at_builtin; refine wpList_append_ir _ rfl _ _ 30 rfl i0 (.int .i64 0) Try.underlying30 hi hz0 hz1 hz2 rfl (lo := w.heap.size + 2) (v := .slice Aq q.cs.length cq) (xs := q.cs) rfl (Hir.out.keep fun b hb => Below.heap_alloc wr _ b (Hir.out.lt hb).2) (by simp; omega) ⟨wr.heap.size, 0, none⟩ 2 2 [-77, -78] rfl rfl (World.news_of_block (heap_alloc_new _ _)) (by unfold maxLen; omega) (by omega) ?_; intro A6 c6 w6 hi6 hg6 hat6 ho6))
      have hbl6 := (Below.refl wr.heap.size wr).alloc (Nat.le_refl _) (.cells #[.int .i64 (-77), .int .i64 (-78)] 3)
      have hmA := Hm.out.more hbl6
      have hirA : IR (wr.alloc (.cells #[.int .i64 (-77), .int .i64 (-78)] 3)) (w.heap.size + 2) (.slice Aq q.cs.length cq) q.cs [] := Hir.out.keep fun b hb => Below.heap_alloc wr _ b (Hir.out.lt hb).2
      have hfl : ∀ b, FQ (.slice (some ⟨g, 0, none⟩) t.qs.length cv) l1 b → b < wr.heap.size := fun b hb => (Hm.out.tq.lt hb).2
      have hm6 := hmA.grown Hp.out rfl hirA (hirA.atv _) hfl hg6 ho6
      have hA6 : A6 = none → False := fun e => by
        rcases hi6 with ⟨e', _⟩ | ⟨_, _, _, _, e', _⟩
        · injection e' with _ e' _
          omega
        · injection e' with e' _ _
          rw [e] at e'
          cases e'
      have hcut : IR w6 (w.heap.size + 2) (.slice A6 q.cs.length c6) q.cs [-77, -78] := hi6.cut rfl hA6
      have hbb : ∀ b, (Value.slice A6 q.cs.length c6).ownBlock = some b → (Value.slice Aq q.cs.length cq).ownBlock = some b ∨ ∀ (j : Nat) (p' : QV), l1[j]? = some p' → p'.2.1.ownBlock ≠ some b := fun b hb => by
        rcases hat6 with ⟨b', o', c', e1, e2⟩ | h
        · left
          injection e2 with e2 _ _
          rw [e1]
          rw [e2] at hb
          exact hb
        · right
          intro j p' hj he
          have hb' : (Value.slice A6 (q.cs.length + 2) c6).ownBlock = some b := by
            cases A6 with
            | none => cases hb
            | some a => exact hb
          have h1 := h b hb'
          have h2 := hfl b (.inr ⟨j, p', hj, he⟩)
          simp at h1
          omega
      obtain ⟨hc6, hc6m⟩ : q.cs.length + 2 ≤ c6 ∧ c6 ≤ maxLen := by
        obtain ⟨_, _, hsh, h1, h2⟩ := hi6.shape
        injection hsh with _ _ hsh
        subst hsh
        simp only [List.length_append, List.length_cons, List.length_nil] at h1
        exact ⟨h1, h2⟩
      have hc6' : q.cs.length ≤ c6 := by omega
      have hc6m' : c6 ≤ 9223372036854775807 := by unfold maxLen at hc6m; omega
      have k0 := hm6.cblk.cell 0
      simp at k0
      obtain ⟨_, _, _, q3, hfz⟩ := hm6.cellq Hp.out rfl
      dsimp only at q3
      have z3 := hfz (k * 4 + 3)
      have Hm6 := Lib.hid hm6
      have Hcut := Lib.hid hcut
      have Hbb := Lib.hid hbb
      clear hbl6 hmA hirA hfl hm6 hA6 hcut hbb hi6 hg6 hat6 ho6 hc6 hc6m hfz
      go_wp2
      go_region
      go_wp2
      have hk := Hk.out
      have hm7 := (Hm6.out.setNew Hp.out rfl Hcut.out Hbb.out).drew
      dsimp only at hm7
      have hkl1 : k < l1.length := (List.getElem?_eq_some_iff.1 Hp.out).1
      go_roundg (gk - 1)
      case measure => omega
      case rel => exact ⟨k + 1, _, by omega, by go_num, hm7, by
          rw [List.map_set, Hlq.out]
          refine Trn.set_same ?_
          rw [← Hlq.out, List.getElem?_map, Hp.out]
          rfl, fun i p hp => by
          by_cases hik : k = i
          · subst hik
            rw [List.getElem?_set_self hkl1] at hp
            injection hp with hp
            subst hp
            exact ⟨fun _ => rfl, fun h => by omega⟩
          · rw [List.getElem?_set_ne hik] at hp
            have := Hsk.out i p hp
            exact ⟨fun h => this.1 (by omega), fun h => this.2 (by omega)⟩⟩
    · have hki : ¬ (k : Int) < t.qs.length := by omega
      have hke : k = t.qs.length := by omega
      have hl1 : l1.length = t.qs.length := by rw [← hlq, List.length_map]
      have hmk : ∀ p ∈ l1, p.2.2 = [-77, -78] := fun p hp => by
        obtain ⟨i, hi, rfl⟩ := List.mem_iff_getElem.1 hp
        exact (hspk i _ (List.getElem?_eq_getElem hi)).1 (by omega)
      have hows := hm.tq.owns
      rw [hl1] at hows
      obtain ⟨hlcv, hlcm⟩ : t.qs.length ≤ cv ∧ cv ≤ maxLen := by
        obtain ⟨_, _, hsh, h1, h2⟩ := hm.tq.shape
        injection hsh with _ _ hsh
        subst hsh
        exact ⟨by omega, h2⟩
      have hlcm' : cv ≤ 9223372036854775807 := by unfold maxLen at hlcm; omega
      have hrs := hm.res.lt
      have Hows := Lib.hid hows
      have Hmk := Lib.hid hmk
      have Hl1 := Lib.hid hl1
      clear hk hm hlq hspk hke hkl hkn hl1 hmk hows Hk Hsk hlcm hlcv
      go_upto_region 10 with (first
        | (at_builtin; refine wpList_append_lies _ rfl _ _ 32 rfl (w.heap.size + 2) 51 i1 (.agg #[.int .i64 0, .int .i64 0, .int .i64 0, .slice none 0 0]) 4 48 Try.underlying32 hi' hz0' hz1' hz2' rfl (by decide) (.slice Av t.qs.length cv) t.qs.length (flat (l1.map qrow)) rfl (World.ownsRow.alloc Hows.out _) ⟨wr.heap.size, 0, none⟩ 2 2 (flat [qmark (-77), qmark (-78)]) rfl rfl (World.news_of_block (heap_alloc_new _ _)) (by simp [flat, qmark, Value.oneCell']) (by decide) (by unfold maxLen; omega) (by omega) (by simp; omega) _ rfl ?_; intro g9 cap9 w9 hown9 hgr9 hat9 hlt9; have hc9 := (Hm.out.cblk.alloc (.cells #[.int .i64 (-77), .int .i64 0, .int .i64 0, .slice none 0 0, .int .i64 (-78), .int .i64 0, .int .i64 0, .slice none 0 0] 51)).grownBy hgr9 (fun e => Hm.out.tq.ne_blk Hm.out.cblk (by decide) (by decide) (.inl e))))
      have hbA := (Below.refl wr.heap.size wr).alloc (Nat.le_refl _) (.cells #[.int .i64 (-77), .int .i64 0, .int .i64 0, .slice none 0 0, .int .i64 (-78), .int .i64 0, .int .i64 0, .slice none 0 0] 51)
      have hr9 := (Hm.out.res.alloc (.cells #[.int .i64 (-77), .int .i64 0, .int .i64 0, .slice none 0 0, .int .i64 (-78), .int .i64 0, .int .i64 0, .slice none 0 0] 51)).grownBy hgr9 (fun e => Hm.out.tq.ne_blk Hm.out.res (by decide) (by decide) (.inl e))
      have hq9 : TQ w9 (w.heap.size + 2) (.slice (some ⟨g9, 0, none⟩) t.qs.length cap9) l1 [qmark (-77), qmark (-78)] :=
        (Hm.out.tq.below hbA).grow (m := t.qs.length + 2) Hl1.out.symm (by omega) (by rw [flat_append]; exact hown9) hgr9
      have hbl9 : Below w.heap.size w w9 := (Hm.out.below.trans (hbA.mono Hm.out.below.size)).grown hgr9 (by have := Hm.out.below.size; simp; omega) fun j hj => by have := (Hm.out.tq.lt (.inl hj)).1; omega
      have hcap : t.qs.length + 2 ≤ cap9 ∧ cap9 ≤ maxLen := by
        obtain ⟨_, _, h1, h2, h3⟩ := row_shape hown9
        injection h1 with _ _ h1
        subst h1
        exact ⟨h2, h3⟩
      have hcap1 : t.qs.length ≤ cap9 := by omega
      have hcap2 : cap9 ≤ 9223372036854775807 := by have := hcap.2; unfold maxLen at this; omega
      have hgc9 := Hm.out.gc
      have y0 := hc9.cell 0
      have y1 := hc9.cell 1
      have y2 := hc9.cell 2
      simp at y0 y1 y2
      have r0 := hr9.cell 0
      have r1 := hr9.cell 1
      have r2 := hr9.cell 2
      simp at r0 r1 r2
      have f0 := hr9.frozen 0
      have f1 := hr9.frozen 1
      have f2 := hr9.frozen 2
      have e0 := hc9.frozen 0
      have Hc9 := Lib.hid hc9
      have Hr9 := Lib.hid hr9
      have Hq9 := Lib.hid hq9
      have Hbl9 := Lib.hid hbl9
      clear hbA hr9 hq9 hbl9 hcap hc9 hown9 hgr9 hat9 hlt9 k0 k1 k2
      go_upto_region 11 with fail
      have hc10 := Hc9.out.set_ 0 (.slice (some ⟨g9, 0, none⟩) t.qs.length cap9)
      have hr10 := Hr9.out.far (p := ⟨cb, 0, none⟩) (by show w.heap.size + 1 ≠ cb; omega) (.slice (some ⟨g9, 0, none⟩) t.qs.length cap9)
      have hq10 := Hq9.out.keep (w' := w9.setCell ⟨cb, 0, none⟩ (.slice (some ⟨g9, 0, none⟩) t.qs.length cap9)) fun b hb => Below.heap_setCell w9 _ _ b fun e => Hq9.out.ne_blk Hc9.out (by decide) (by decide) (by rw [← show b = cb from e]; exact hb)
      have hbl10 := Hbl9.out.setCell (p := ⟨cb, 0, none⟩) (by show w.heap.size ≤ cb; omega) (.slice (some ⟨g9, 0, none⟩) t.qs.length cap9)
      generalize hW10 : World.setCell w9 _ _ = w10 at *
      clear hW10 y0 y1 y2 r0 r1 r2 f0 f1 f2 e0
      have y0 := hc10.cell 0
      have y1 := hc10.cell 1
      have y2 := hc10.cell 2
      simp at y0 y1 y2
      have r0 := hr10.cell 0
      have r1 := hr10.cell 1
      have r2 := hr10.cell 2
      simp at r0 r1 r2
      have f0 := hr10.frozen 0
      have f1 := hr10.frozen 1
      have f2 := hr10.frozen 2
      have Hr10 := Lib.hid hr10
      have Hq10 := Lib.hid hq10
      have Hbl10 := Lib.hid hbl10
      clear hc10 hr10 hq10 hbl10
      go_wp2
      have hfin := ((Hr10.out.set_ 0 (.slice (some ⟨g9, 0, none⟩) t.qs.length cap9)).set_ 1 (.int .i64 t.at_)).set_ 2 (.bool t.fr)
      have s0 := hfin.cell 0
      have s1 := hfin.cell 1
      have s2 := hfin.cell 2
      simp at s0 s1 s2
      have ht : Touch (w.heap.size + 1) w10 (((w10.setCell ⟨w.heap.size + 1, 0, none⟩ (.slice (some ⟨g9, 0, none⟩) t.qs.length cap9)).setCell ⟨w.heap.size + 1, 1, none⟩ (.int .i64 t.at_)).setCell ⟨w.heap.size + 1, 2, none⟩ (.bool t.fr)) :=
        (((Touch.refl _ _).set_ 0 _).set_ 1 _).set_ 2 _
      exact bodyPost_ret (v := .agg #[.slice (some ⟨g9, 0, none⟩) t.qs.length cap9, .int .i64 t.at_, .bool t.fr]) (by simp [results, Try.results12, go_sem, s0, s1, s2]) rfl
        ⟨⟨_, rfl, l1, (Hq10.out.keep fun b hb => ht.block b (by have := (Hq10.out.lt hb).1; omega)).mono (by omega), Hlq.out, fun a b c h => Hmk.out _ h⟩, Hbl10.out.trans (ht.below (by omega))⟩
end Go.Proofs.Ytgbjhkgbjnobcaa
