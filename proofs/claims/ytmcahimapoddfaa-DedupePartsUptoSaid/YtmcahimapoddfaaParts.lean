/- The walk of 'DedupeParts'. Conditions: the arguments are readable, the records together no more than a slice bears. -/
import Derived.Test.YtmcahimapoddfaaHead
namespace Go.Proofs.Ytmcahimapoddfaa
open Go.RowKit Go.Maps

set_option maxRecDepth 100000 in
set_option maxHeartbeats 4000000 in
theorem parts_any (v0 v1 v2 v3 : Value) (ps : List Pr) (a b : List Rc) (some_ : List Bool) (w : World) (h0 : PS w v0 ps) (h1 : RS w v1 a) (h2 : RS w v2 b) (h3 : BS w v3 some_)
    (hb : (a.length + b.length) * 72 ≤ 140737488355328) :
    Calls Try.prog 4 #[v0, v1, v2, v3] w fun e w' => e = .returned (.bool true) ∧ Below w.heap.size w w' := by
  obtain ⟨cA, LA, hA⟩ : ∃ c L, foldR ps (a ++ b) = (c, L) := ⟨_, _, rfl⟩
  obtain ⟨cO, LO, hO⟩ : ∃ c L, foldR ps a = (c, L) := ⟨_, _, rfl⟩
  obtain ⟨cT, LT, hT⟩ : ∃ c L, foldR LO b = (c, L) := ⟨_, _, rfl⟩
  have perr : cA ≠ 0 → LA = [] ∧ (cO = cA ∨ (cO = 0 ∧ cT = cA ∧ LT = [])) := fun h => by
    have h1 : (foldR ps (a ++ b)).1 ≠ 0 := by rw [hA]; exact h
    have e1 := foldR_err h1
    have e2 := parts_err h1
    rw [hA, hO] at e2
    dsimp only at e2
    rw [hT] at e2
    rw [hA] at e1
    exact ⟨e1, e2⟩
  have pok : cA = 0 → cO = 0 ∧ cT = 0 ∧ LT = LA := fun h => by
    have h1 : (foldR ps (a ++ b)).1 = 0 := by rw [hA]; exact h
    obtain ⟨e1, e2⟩ := parts_ok h1
    rw [hO] at e1 e2
    dsimp only at e1 e2
    rw [hT, hA] at e2
    injection e2 with e2 e3
    exact ⟨e1, by rw [e2, h], e3⟩
  have pmore : cA = 0 → ∀ part, (∀ r ∈ part, r ∈ a ++ b) → foldR LA part = (0, LA) := fun h part hp => by
    have h1 : (foldR ps (a ++ b)).1 = 0 := by rw [hA]; exact h
    have := parts_more h1 hp
    rw [hA] at this
    exact this
  have Perr := Lib.hid perr
  have Pok := Lib.hid pok
  have Pmore := Lib.hid pmore
  have HA := Lib.hid hA
  have HO := Lib.hid hO
  have HT := Lib.hid hT
  have H0 := Lib.hid h0
  have H1 := Lib.hid h1
  have H2 := Lib.hid h2
  have H3 := Lib.hid h3
  clear perr pok pmore hA hO hT h0 h1 h2 h3
  go_enter Try.func4, Try.ntmps4
  go_upto_region 4 with (go_at_call 16; refine (head_any _).mono ?_; rintro e w1 ⟨rfl, hb1⟩)
  have h0 := Lib.hid (H0.out.below hb1)
  have h1 := Lib.hid (H1.out.below hb1)
  have h2 := Lib.hid (H2.out.below hb1)
  have h3 := Lib.hid (H3.out.below hb1)
  have Hb1 := Lib.hid hb1
  clear H0 H1 H2 H3 hb1
  go_upto_region 5 with (first
    | (go_at_call 17; refine (joinedS h1.out h2.out hb).mono ?_; rintro e w2 ⟨vj, rfl, hj, hb2⟩)
    | (go_at_call 10; refine (foldS (h0.out.below hb2) hj.toS HA.out).mono ?_; rintro e w3 ⟨va, rfl, hva, hb3⟩))
  have hb13 := hb2.trans (hb3.mono hb2.size)
  have H0 := Lib.hid (h0.out.below hb13)
  have H1 := Lib.hid (h1.out.below hb13)
  have H2 := Lib.hid (h2.out.below hb13)
  have H3 := Lib.hid (h3.out.below hb13)
  have Hva := Lib.hid hva.toS
  have Hb3 := Lib.hid (Hb1.out.trans (hb13.mono Hb1.out.size))
  clear h0 h1 h2 h3 hb2 hb3 hj hva hb13 Hb1
  go_upto_region 6 with (go_at_call 10; refine (foldS H0.out H1.out HO.out).mono ?_; rintro e w4 ⟨vo, rfl, hvo, hb4⟩)
  have h1 := Lib.hid (H1.out.below hb4)
  have h2 := Lib.hid (H2.out.below hb4)
  have h3 := Lib.hid (H3.out.below hb4)
  have Hva4 := Lib.hid (Hva.out.below hb4)
  have Hvo := Lib.hid hvo.toS
  have Hb4 := Lib.hid (Hb3.out.trans (hb4.mono Hb3.out.size))
  clear H0 H1 H2 H3 hvo hb4 Hva Hb3
  have cT2 := foldS Hvo.out h2.out HT.out
  by_cases hc : cA = 0
  rotate_left
  · have hcn : (cA != 0) = true := by simpa using hc
    obtain ⟨hLA, hor⟩ := Perr.out hc
    have hca : cA ≠ 0 := hc
    subst hLA
    have hlen := Hva4.out.len 3
    clear Perr Pok Pmore HA HO
    rcases hor with rfl | ⟨rfl, rfl, rfl⟩
    · have hq : (cO == cO) = true := by simp
      go_wp2_with (go_at_call 10; refine cT2.mono ?_; rintro e w5 ⟨vt, rfl, hvt, hb5⟩; have Hb5 := Lib.hid (Hb4.out.trans (hb5.mono Hb4.out.size)); clear hvt hb5 cT2)
      go_ret
      exact ⟨rfl, Hb5.out⟩
    · have hq : (0 == cT) = false := by simpa using Ne.symm hca
      have hq2 : (cT == cT) = true := by simp
      go_wp2_with (go_at_call 10; refine cT2.mono ?_; rintro e w5 ⟨vt, rfl, hvt, hb5⟩; have Hb5 := Lib.hid (Hb4.out.trans (hb5.mono Hb4.out.size)); have hlen2 := hvt.toS.len 3; clear hvt hb5 cT2)
      go_ret
      exact ⟨rfl, Hb5.out⟩
  · subst hc
    obtain ⟨rfl, rfl, rfl⟩ := Pok.out rfl
    clear Perr Pok HA HO
    go_upto_region 10 with (go_at_call 10; refine cT2.mono ?_; rintro e w5 ⟨vt, rfl, hvt, hb5⟩)
    have cS := sameS hvt.toS (Hva4.out.below hb5)
    simp only [decide_true] at cS
    have h1 := Lib.hid (h1.out.below hb5)
    have h2 := Lib.hid (h2.out.below hb5)
    have h3 := Lib.hid (h3.out.below hb5)
    have Hva5 := Lib.hid (Hva4.out.below hb5)
    have Hb5 := Lib.hid (Hb4.out.trans (hb5.mono Hb4.out.size))
    clear cT2 hvt hb5 Hva4 Hvo Hb4
    go_upto_region 13 with (go_at_call 12; refine cS.mono ?_; rintro e w6 ⟨rfl, hb6⟩)
    have h1 := Lib.hid (h1.out.below hb6)
    have h2 := Lib.hid (h2.out.below hb6)
    have h3 := Lib.hid (h3.out.below hb6)
    have Hva6 := Lib.hid (Hva5.out.below hb6)
    have Hb6 := Lib.hid (Hb5.out.trans (hb6.mono Hb5.out.size))
    clear cS hb6 Hva5 Hb5
    have cJ := joinedS h1.out h2.out hb
    go_upto_region 14 with (go_at_call 17; refine cJ.mono ?_; rintro e w7 ⟨vj, rfl, hj, hb7⟩)
    obtain ⟨A3, c3, rfl, hb1, hb2, _, hbs⟩ := h3.out.below hb7
    obtain ⟨J, cj, rfl, hj1, hj2, _, hjs⟩ := hj.toS
    obtain ⟨rs, hrs⟩ : ∃ rs, rs = a ++ b := ⟨_, rfl⟩
    have hrl : rs.length = a.length + b.length := by rw [hrs, List.length_append]
    have hbb : rs.length * 72 ≤ 140737488355328 := by rw [hrl]; exact hb
    rw [← hrs] at hj1 hjs Pmore ⊢
    have Hva7 := Lib.hid (Hva6.out.below hb7)
    have Hb7 := Lib.hid (Hb6.out.trans (hb7.mono Hb6.out.size))
    have Hbs := Lib.hid hbs
    have Hjs := Lib.hid hjs
    obtain ⟨i0, hi, hz0, hz1, hz2⟩ := info_parts info32
    clear cJ hj hb7 Hva6 Hb6 h1 h2 h3 hbs hjs hrs hrl hb
    unfold maxLen at hb2 hj2
    go_wp2
    go_loopg [18, 20] rs.length (fun g v i wr => ∃ (k : Nat) (part : List Rc), g + k = rs.length ∧ i = .int .i64 (k : Nat) ∧ OwnR wr w7.heap.size v part ∧ part.length ≤ k ∧ (∀ r ∈ part, r ∈ rs) ∧ Below w7.heap.size w7 wr)
    case atStart => exact ⟨0, [], by omega, rfl, World.ownsRow_nil _ _ 32 7, Nat.le_refl _, (by intro r h; cases h), Below.refl _ _⟩
    case round =>
      obtain ⟨k, part, hk, rfl, hown, hpl, hpm, hbw⟩ := hrel
      have hkn : k ≤ rs.length := by omega
      have Hk := Lib.hid hk
      have Hbw := Lib.hid hbw
      have Hpl := Lib.hid hpl
      have Hpm := Lib.hid hpm
      have Hown := Lib.hid hown
      clear hpl hpm hown hbw
      by_cases hkl : k < rs.length
      · have hki : (k : Int) < rs.length := by omega
        have hnext : ∀ wr' v', OwnR wr' w7.heap.size v' part → Below w7.heap.size w7 wr' → ∃ (k' : Nat) (part : List Rc), gk - 1 + k' = rs.length ∧ Value.int .i64 ((k : Int) + 1) = .int .i64 (k' : Nat) ∧ OwnR wr' w7.heap.size v' part ∧ part.length ≤ k' ∧ (∀ r ∈ part, r ∈ rs) ∧ Below w7.heap.size w7 wr' :=
          fun wr' v' h1 h2 => ⟨k + 1, part, by have := Hk.out; omega, by simp, h1, by have := Hpl.out; omega, Hpm.out, h2⟩
        have Hnext := Lib.hid hnext
        clear hk hnext
        by_cases hks : k < some_.length
        · have hksi : (k : Int) < some_.length := by omega
          obtain ⟨sb, so, he, hsl, hsc⟩ := Hbs.out (by omega)
          subst he
          have hxs : some_[k]? = some some_[k] := List.getElem?_eq_getElem hks
          obtain ⟨x, hx⟩ : ∃ x, x = some_[k] := ⟨_, rfl⟩
          rw [← hx] at hxs
          have y0 : wr.cell? ⟨sb, so + k, none⟩ = some (.bool x) := (Hbw.out.cell (p := ⟨sb, so + k, none⟩) hsl).trans (hsc k x hxs)
          clear hsc hxs hx
          cases x
          · go_wp2
            go_roundg (gk - 1)
            case measure => have := Hk.out; omega
            case rel => exact Hnext.out _ _ Hown.out Hbw.out
          · obtain ⟨rb, ro, he, hrl, hrc⟩ := Hjs.out (by omega)
            subst he
            have hrk : rs[k]? = some rs[k] := List.getElem?_eq_getElem hkl
            obtain ⟨r, hr⟩ : ∃ r, r = rs[k] := ⟨_, rfl⟩
            rw [← hr] at hrk
            obtain ⟨q0, q1, q2, q3, q4, q5, q6⟩ := hrc k r hrk
            have z0 := (Hbw.out.cell (p := ⟨rb, ro + k * 7, none⟩) hrl).trans q0
            have z1 := (Hbw.out.cell (p := ⟨rb, ro + k * 7 + 1, none⟩) hrl).trans q1
            have z2 := (Hbw.out.cell (p := ⟨rb, ro + k * 7 + 2, none⟩) hrl).trans q2
            have z3 := (Hbw.out.cell (p := ⟨rb, ro + k * 7 + 3, none⟩) hrl).trans q3
            have z4 := (Hbw.out.cell (p := ⟨rb, ro + k * 7 + 4, none⟩) hrl).trans q4
            have z5 := (Hbw.out.cell (p := ⟨rb, ro + k * 7 + 5, none⟩) hrl).trans q5
            have z6 := (Hbw.out.cell (p := ⟨rb, ro + k * 7 + 6, none⟩) hrl).trans q6
            have Hrk := Lib.hid hrk
            have hwl := Hbw.out.size
            clear q0 q1 q2 q3 q4 q5 q6 hrc hr hrk Hnext
            go_wp2_with (first
              | (at_builtin; refine wpList_append_lies _ rfl _ _ 23 rfl w7.heap.size 32 i0 (.agg #[.int .i64 0, .int .i64 0, .int .i64 0, .int .i64 0, .int .i64 0, .string ByteArray.empty, .string ByteArray.empty]) 7 72 Try.underlying23 hi hz0 hz1 hz2 rfl (by decide) _ part.length (part.flatMap rcCells) rfl
                  (Hown.out.keep fun j hj => Below.heap_alloc _ _ j (Hown.out.lt hj).2) ⟨wr.heap.size, 0, none⟩ 1 1 (rcCells r) rfl rfl (World.news_of_block (heap_alloc_new _ _)) rc_one (by decide)
                  (by have := Hpl.out; unfold maxLen; omega) (by have := Hpl.out; omega) (by simp; omega) _ rfl ?_; intro g' cap w8 hown3 hgr3 hat3 hlt3))
            have hk := Hk.out
            have hb3 : Below w7.heap.size w7 w8 := (Hbw.out.alloc (by omega) _).grown hgr3 (by simp; omega) (fun j hj => (Hown.out.lt hj).1)
            go_roundg (gk - 1)
            case measure => omega
            case rel => exact ⟨k + 1, part ++ [r], by omega, by go_num, by
              unfold OwnR
              rw [List.length_append, List.flatMap_append]
              simpa using hown3, by have := Hpl.out; simp; omega, fun q hq => by
                rcases List.mem_append.1 hq with hq | hq
                · exact Hpm.out q hq
                · simp at hq; subst hq; exact List.mem_of_getElem? Hrk.out, hb3⟩
        · have hksi : ¬ (k : Int) < some_.length := by omega
          go_wp2
          go_roundg (gk - 1)
          case measure => have := Hk.out; omega
          case rel => exact Hnext.out _ _ Hown.out Hbw.out
      · have hki : ¬ (k : Int) < rs.length := by omega
        have cF := foldS (Hva7.out.below Hbw.out) Hown.out.toS (Pmore.out trivial part Hpm.out)
        clear hk Hk Hpl Hpm Pmore Hjs Hbs
        go_upto_region 20 with (go_at_call 10; refine cF.mono ?_; rintro e w8 ⟨vm, rfl, hvm, hb8⟩)
        have hb78 := Hbw.out.trans (hb8.mono Hbw.out.size)
        have cS := sameS hvm.toS (Hva7.out.below hb78)
        simp only [decide_true] at cS
        have Hb8 := Lib.hid (Hb7.out.trans (hb78.mono Hb7.out.size))
        clear cF hb8 hb78 hvm
        go_wp2_with (go_at_call 12; refine cS.mono ?_; rintro e w9 ⟨rfl, hb9⟩)
        go_ret
        exact ⟨rfl, Hb8.out.trans (hb9.mono Hb8.out.size)⟩
end Go.Proofs.Ytmcahimapoddfaa
