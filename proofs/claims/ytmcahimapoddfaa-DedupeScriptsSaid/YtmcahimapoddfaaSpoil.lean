/- The walks of the law's spoil, roomy, kept. Conditions: spoil: the list is owned, at most 64 long. -/
import Derived.Test.YtmcahimapoddfaaOnceMem
namespace Go.Proofs.Ytmcahimapoddfaa
open Go.RowKit Go.Maps

theorem row_shape {w : World} {base : Nat} {e : TypeId} {size : Nat} {v : Value} {n : Nat} {xs : List Value} (h : w.ownsRow base e size v n xs) : ∃ A c, v = .slice A n c ∧ n ≤ c ∧ c ≤ maxLen := by
  rcases h.2 with ⟨rfl, h0⟩ | ⟨g, cap, cur, rfl, _, _, h1, h2, _⟩
  · exact ⟨none, 0, by rw [h0], by omega, Nat.zero_le _⟩
  · exact ⟨_, _, rfl, h1, h2⟩

set_option maxRecDepth 100000 in
set_option maxHeartbeats 4000000 in
theorem spoil_any (v : Value) (base n : Nat) (xs : List Value) (w : World) (h : w.ownsRow base 67 3 v n xs) (h64 : n ≤ 64) (hB : base ≤ w.heap.size) :
    Calls Try.prog 15 #[v] w fun e w' => e = .returned (.bool true) ∧ Kp (fun j => v.ownBlock = some j) w w' := by
  obtain ⟨A, c, rfl, hnc, hcm⟩ := row_shape h
  unfold maxLen at hcm
  have H := Lib.hid h
  obtain ⟨i0, hi, hz0, hz1, hz2⟩ := info_parts info67
  clear h
  go_enter Try.func15, Try.ntmps15
  go_wp2
  go_loopg [3] n (fun g i wr => ∃ (k : Nat) (ys : List Value), g + k = n ∧ i = .int .i64 (k : Nat) ∧ wr.ownsRow base 67 3 (.slice A n c) n ys ∧ Kp (fun j => (Value.slice A n c).ownBlock = some j) w wr)
  case atStart => exact ⟨0, xs, by omega, rfl, H.out, Kp.refl _ _⟩
  case round =>
    obtain ⟨k, ys, hk, rfl, hown, hkp⟩ := hrel
    have hkn : k ≤ n := by omega
    have Hk := Lib.hid hk
    have Hown := Lib.hid hown
    have Hkp := Lib.hid hkp
    clear hk hkp
    by_cases hkl : k < n
    · have hki : (k : Int) < n := by omega
      obtain ⟨g, cap, e, hg1, hg2⟩ := hown.form (by omega)
      injection e with e _ e2
      subst e e2
      have hyl := hown.1
      have c0 := hown.cellAt (k * 3) (by omega)
      have c1 := hown.cellAt (k * 3 + 1) (by omega)
      have c2 := hown.cellAt (k * 3 + 2) (by omega)
      have f0 := hown.frozenAt (k * 3)
      have f1 := hown.frozenAt (k * 3 + 1)
      have f2 := hown.frozenAt (k * 3 + 2)
      rw [List.getElem?_eq_getElem (by omega)] at c0 c1 c2
      generalize ys[k * 3]'(by omega) = u0 at c0
      generalize ys[k * 3 + 1]'(by omega) = u1 at c1
      generalize ys[k * 3 + 2]'(by omega) = u2 at c2
      clear hown hyl
      go_wp2
      have hk := Hk.out
      have s1 := Hown.out.stored (k * 3) (.int .i64 (-7))
      have s2 := s1.1.stored (k * 3 + 1) (.int .i64 k)
      have s3 := s2.1.stored (k * 3 + 2) (.int .i64 0)
      go_roundg (gk - 1)
      case measure => omega
      case rel => exact ⟨k + 1, _, by omega, by go_num, s3.1, Hkp.out.trans ((Kp.of_grown s1.2).trans ((Kp.of_grown s2.2).trans (Kp.of_grown s3.2) (fun j hj => .inl hj)) (fun j hj => .inl hj)) (fun j hj => .inl hj)⟩
    · have hki : ¬ (k : Int) < n := by omega
      have hke : k = n := by omega
      clear hown hke hkl hkn Hk
      go_wp2
      go_loopg [4, 5] 64 (fun g vg i wx => ∃ (k : Nat) (zs : List Value), g + k = 64 ∧ i = .int .i64 (k : Nat) ∧ wx.ownsRow base 67 3 vg (n + k) zs ∧ Kp (fun j => (Value.slice A n c).ownBlock = some j) w wx ∧ ∀ j, vg.ownBlock = some j → (Value.slice A n c).ownBlock = some j ∨ w.heap.size ≤ j)
      case atStart => exact ⟨0, ys, by omega, rfl, Hown.out, Hkp.out, fun j hj => .inl hj⟩
      case round =>
        obtain ⟨k2, zs, hk, rfl, hown, hkp, hat⟩ := hrel
        have hkn : k2 ≤ 64 := by omega
        have Hk := Lib.hid hk
        have Hown2 := Lib.hid hown
        have Hkp2 := Lib.hid hkp
        have Hat2 := Lib.hid hat
        have hsz2 : base ≤ wr.heap.size := by have := hkp.size; omega
        clear hk hkp hat hown Hkp Hown
        by_cases hkl : k2 < 64
        · have hki : (k2 : Int) < 64 := by omega
          go_wp2_with (first
            | (at_builtin; refine wpList_append_lies _ rfl _ _ 22 rfl base 67 i0 _ 3 24 Try.underlying22 hi hz0 hz1 hz2 rfl (by decide) _ (n + k2) zs rfl (World.ownsRow.alloc Hown2.out _) ⟨wr.heap.size, 0, none⟩ 1 1 (prCells ⟨-8, 0, 0⟩) rfl rfl (World.news_of_block (heap_alloc_new _ _)) pr_one (by decide) (by unfold maxLen; omega) (by omega) (by simp; omega) _ rfl ?_; intro g' cap w8 hown3 hgr3 hat3 hlt3))
          have hk := Hk.out
          go_roundg (gk - 1)
          case measure => omega
          case rel => exact ⟨k2 + 1, _, by omega, by go_num, hown3, Hkp2.out.trans ((Kp.of_below ((Below.refl wr.heap.size wr).alloc (Nat.le_refl _) _)).trans (Kp.of_grown hgr3) (fun j hj => .inl hj)) Hat2.out, fun j hj => by
            have e : some g' = some j := hj
            injection e with e
            subst e
            rcases hat3 with h1 | h1
            · exact Hat2.out _ h1
            · exact .inr (by have := Hkp2.out.size; rw [h1]; simp; omega)⟩
        · have hki : ¬ (k2 : Int) < 64 := by omega
          have hke : k2 = 64 := by omega
          obtain ⟨A2, cc, hsh, _, _⟩ := row_shape Hown2.out
          subst hsh
          subst hke
          obtain ⟨n2, hn2⟩ : ∃ n2, n2 = n + 64 := ⟨_, rfl⟩
          rw [← hn2]
          have hw : IntKind.i64.wrap ((n : Int) + 64) = n + 64 := by rw [IntKind.wrap_i64]; omega
          have hq : ((n2 : Int) == n + 64) = true := by simp; omega
          clear hn2 Hown2
          go_wp2
          go_ret
          exact ⟨rfl, Hkp2.out⟩
end Go.Proofs.Ytmcahimapoddfaa
