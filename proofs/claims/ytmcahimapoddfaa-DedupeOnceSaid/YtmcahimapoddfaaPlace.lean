/- The walks of the law's 'place' and 'mine'. Conditions: the list is readable. -/
import Derived.Test.YtmcahimapoddfaaOnceMem
namespace Go.Proofs.Ytmcahimapoddfaa
open Go.RowKit Go.Maps

theorem mine_any (p s : Int) (w : World) : Calls Try.prog 43 #[.agg #[.int .i64 p, .int .i64 s]] w fun e w' => e = .returned (.bool (goodB p s)) ∧ Below w.heap.size w w' := by
  have Hb := Lib.hid (show goodB p s = decide (1 ≤ p ∧ p < 4294967296 ∧ 1 ≤ s ∧ s < 1099511627776) from rfl)
  go_enter Try.func43, Try.ntmps43
  go_upto_region 1 with fail
  have x0 := cell_of_row _ _ 0 _ _ _ (heap_alloc_new w (.cells #[.int .i64 p, .int .i64 s] 39))
  have x1 := cell_of_row _ _ 1 _ _ _ (heap_alloc_new w (.cells #[.int .i64 p, .int .i64 s] 39))
  simp only [List.getElem?_toArray, List.getElem?_cons_zero, List.getElem?_cons_succ] at x0 x1
  have hbl : Below w.heap.size w (w.alloc (.cells #[.int .i64 p, .int .i64 s] 39)) := (Below.refl _ _).alloc (Nat.le_refl _) _
  generalize w.alloc (.cells #[.int .i64 p, .int .i64 s] 39) = wq at *
  have Hbl := Lib.hid hbl
  clear hbl
  go_wp2
  all_goals (go_ret; exact ⟨by rw [Hb.out]; refine congrArg (fun b => Ending.returned (.bool b)) (Bool.eq_iff_iff.2 ?_); simp <;> omega, Hbl.out⟩)

set_option maxRecDepth 100000 in
set_option maxHeartbeats 4000000 in
theorem place_any (base : Nat) (v : Value) (l : List (Gv × Value)) (pid : Int) (w : World) (h : GM w base v l) (h64 : l.length ≤ 64) :
    Calls Try.prog 29 #[v, .int .i64 pid] w fun e w' => w = w' ∧ ∃ r : Int, e = .returned (.int .i64 r) ∧ PlaceIs (l.map (·.1)) pid r := by
  have hsh : ∃ A c, v = .slice A l.length c := by
    rcases h.row.2 with ⟨rfl, h0⟩ | ⟨g, cap, cur, rfl, _⟩
    · exact ⟨none, 0, by rw [h0]⟩
    · exact ⟨_, _, rfl⟩
  obtain ⟨A, c, rfl⟩ := hsh
  have H := Lib.hid h
  clear h
  go_enter Try.func29, Try.ntmps29
  go_wp2
  go_loopg [5] l.length (fun g i wr => ∃ k : Nat, g + k = l.length ∧ i = .int .i64 (k : Nat) ∧ w = wr ∧ ∀ (j : Nat) (g : Gv), j < k → (l.map (·.1))[j]? = some g → g.pid ≠ pid)
  case atStart => exact ⟨0, by omega, rfl, rfl, (by intro j g hj; omega)⟩
  case round =>
    obtain ⟨k, hk, rfl, rfl, hno⟩ := hrel
    have Hk := Lib.hid hk
    have Hno := Lib.hid hno
    have hkn : k ≤ l.length := by omega
    clear hk hno
    by_cases hkl : k < l.length
    · have hki : (k : Int) < l.length := by omega
      obtain ⟨p, hp⟩ : ∃ p, l[k]? = some p := ⟨_, List.getElem?_eq_getElem hkl⟩
      obtain ⟨g, cap, e, _, _, x0, _, _⟩ := H.out.place hp
      injection e with e _ e2
      subst e e2
      have hpm : (l.map (·.1))[k]? = some p.1 := by rw [List.getElem?_map, hp]; rfl
      have Hp := Lib.hid hpm
      clear hp hpm
      by_cases he : p.1.pid = pid
      · have hq : (p.1.pid == pid) = true := by simpa using he
        have He := Lib.hid he
        clear he
        go_wp2
        go_ret
        exact ⟨rfl, k, rfl, .inr ⟨k, p.1, rfl, Hp.out, He.out⟩⟩
      · have hq : (p.1.pid == pid) = false := by simpa using he
        have He := Lib.hid he
        clear he
        go_wp2
        have hk := Hk.out
        go_roundg (gk - 1)
        case measure => omega
        case rel => exact ⟨k + 1, by omega, by go_num, rfl, fun j g hj hg => by
          rcases Nat.lt_or_ge j k with h1 | h1
          · exact Hno.out j g h1 hg
          · obtain rfl : j = k := by omega
            rw [Hp.out] at hg
            injection hg with hg
            rw [← hg]
            exact He.out⟩
    · have hki : ¬ (k : Int) < l.length := by omega
      have hke : k = l.length := by omega
      go_wp2
      go_ret
      exact ⟨rfl, -1, rfl, .inl ⟨rfl, fun j g hg => Hno.out j g (by have := (List.getElem?_eq_some_iff.1 hg).1; simp at this; omega) hg⟩⟩
theorem place_no {base : Nat} {v : Value} {l : List (Gv × Value)} {pid : Int} {w : World} (h : GM w base v l) (h64 : l.length ≤ 64) (hno : ∀ (k : Nat) (g : Gv), (l.map (·.1))[k]? = some g → g.pid ≠ pid) :
    Calls Try.prog 29 #[v, .int .i64 pid] w fun e w' => e = .returned (.int .i64 (-1)) ∧ w = w' := by
  refine (place_any base v l pid w h h64).mono ?_
  rintro e w' ⟨hw, r, rfl, ⟨rfl, _⟩ | ⟨k, g, _, hk, e⟩⟩
  · exact ⟨rfl, hw⟩
  · exact absurd e (hno k g hk)
theorem place_yes {base : Nat} {v : Value} {l : List (Gv × Value)} {pid : Int} {w : World} (h : GM w base v l) (h64 : l.length ≤ 64) {k : Nat} {g : Gv} (hk : (l.map (·.1))[k]? = some g) (hg : g.pid = pid)
    (one : ∀ (i j : Nat) (g h : Gv), (l.map (·.1))[i]? = some g → (l.map (·.1))[j]? = some h → g.pid = h.pid → i = j) :
    Calls Try.prog 29 #[v, .int .i64 pid] w fun e w' => e = .returned (.int .i64 (k : Nat)) ∧ w = w' := by
  refine (place_any base v l pid w h h64).mono ?_
  rintro e w' ⟨hw, r, rfl, ⟨_, hno⟩ | ⟨k', g', rfl, hk', e⟩⟩
  · exact absurd hg (hno k g hk)
  · obtain rfl := one k' k g' g hk' hk (e.trans hg.symm)
    exact ⟨rfl, hw⟩
end Go.Proofs.Ytmcahimapoddfaa
