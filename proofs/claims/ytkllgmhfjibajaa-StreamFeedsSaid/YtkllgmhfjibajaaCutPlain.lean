/- A stream cut into pieces all at once is what is told of it byte by byte: in plain Lean. Conditions: the limit is one that may be. -/
import Derived.Test.YtkllgmhfjibajaaRBody
import Derived.Test.YtkllgmhfjibajaaSmall
namespace Go.Proofs.Ytkllgmhfjibajaa
namespace St
/-- What stands in a stream. -/
structure CT where
  ps : List Pc
  at_ : Nat
  dead : Bool
def pcR (at_ : Nat) (xs : List Int) : Pc := if (bodyR xs).2 = 0 then ⟨0, (bodyR xs).1, at_, 0⟩ else ⟨1, [], at_, 160⟩
def CT.more (p : Pc) (c : CT) : CT := ⟨p :: c.ps, c.at_, c.dead⟩
def cutP (lim : Int) : Nat → Nat → List Int → CT
  | 0, at_, _ => ⟨[], at_, false⟩
  | f + 1, at_, xs =>
    if xs = [] then ⟨[], at_, false⟩
    else if (headP xs).2 = 10 then ⟨[], at_, false⟩
    else if (headP xs).1 = 0 then ⟨[⟨2, [], at_, 160⟩], at_, true⟩
    else if (headP xs).1 > lim then CT.more ⟨1, [], at_, 163⟩ (cutP lim f (at_ + (headP xs).1.toNat) (xs.drop (headP xs).1.toNat))
    else if xs.length < (headP xs).1.toNat then ⟨[], at_, false⟩
    else CT.more (pcR at_ (xs.take (headP xs).1.toNat)) (cutP lim f (at_ + (headP xs).1.toNat) (xs.drop (headP xs).1.toNat))
/-- How a reader stands where a stream of so many bytes has been cut so. -/
def Stands (r : R) (c : CT) (n : Nat) : Prop :=
  (c.dead = true ∧ r.st = 0 ∧ r.buf = []) ∨ (c.dead = false ∧ ((n < c.at_ ∧ r.st = 3 ∧ r.buf = []) ∨ (c.at_ = n ∧ r.st = 1 ∧ r.buf = []) ∨ (c.at_ < n ∧ (r.st = 1 ∨ r.st = 2) ∧ r.buf.length = n - c.at_)))
theorem cutP_nil (lim : Int) (f at_ : Nat) : cutP lim f at_ [] = ⟨[], at_, false⟩ := by
  cases f with
  | zero => rfl
  | succ f => simp [cutP]
theorem Stands.more {r : R} {c : CT} {n : Nat} (p : Pc) (h : Stands r c n) : Stands r (CT.more p c) n := h
theorem headP_num {n : Int} (h0 : 0 < n ∧ n < 4294967296) (t : List Int) : (headP (197 :: (b4 n ++ t))).1 = 9 + n ∧ (headP (197 :: (b4 n ++ t))).2 ≠ 10 := by
  rw [headP_start h0]
  split <;> simp
theorem step_zero (lim l fr : Int) : St.step ⟨1, lim, 197 :: x3 0, l, fr⟩ (0 % 256) = (⟨0, lim, [], l, fr⟩, [⟨2, [], fr, 160⟩]) := by
  have hh : headP ((197 :: x3 0) ++ [0 % 256]) = (0, 160) := by decide
  unfold St.step
  rw [if_pos rfl]
  unfold St.measure
  simp only [hh]
  rfl
theorem step_mark {x : Int} (h : x ≠ 197) (lim l fr : Int) : St.step ⟨1, lim, [], l, fr⟩ x = (⟨0, lim, [], l, fr⟩, [⟨2, [], fr, 160⟩]) := by
  have hh : headP ([] ++ [x]) = (0, 160) := by unfold headP; simp [h]
  unfold St.step
  rw [if_pos rfl]
  unfold St.measure
  simp only [hh]
  rfl
/-- The five first bytes. -/
theorem five_form {y0 y1 y2 y3 : Int} (r0 : 0 ≤ y0 ∧ y0 < 256) (r1 : 0 ≤ y1 ∧ y1 < 256) (r2 : 0 ≤ y2 ∧ y2 < 256) (r3 : 0 ≤ y3 ∧ y3 < 256) (t : List Int) : ∃ n : Nat, n < 4294967296 ∧ 197 :: y0 :: y1 :: y2 :: y3 :: t = 197 :: (b4 (n : Int) ++ t) :=
  ⟨(((y0 * 256 + y1) * 256 + y2) * 256 + y3).toNat, by omega, by rw [Int.toNat_of_nonneg (by omega), b4_be r0 r1 r2 r3]; rfl⟩
theorem cut_feed {lim : Int} (hlim : 64 ≤ lim ∧ lim ≤ 4096) : ∀ (f : Nat) (xs : List Int) (at_ : Nat) (l : Int), xs.length ≤ f → Byt xs → (xs ≠ [] → at_ + xs.length ≤ 1099511627776) →
    (cutP lim f at_ xs).ps = (feed ⟨1, lim, [], l, (at_ : Int)⟩ xs).2 ∧ Stands (feed ⟨1, lim, [], l, (at_ : Int)⟩ xs).1 (cutP lim f at_ xs) (at_ + xs.length)
  | f, [], at_, l, _, _, _ => by
    rw [cutP_nil]
    exact ⟨rfl, .inr ⟨rfl, .inr (.inl ⟨rfl, rfl, rfl⟩)⟩⟩
  | 0, x :: xs, _, _, h, _, _ => by simp at h
  | f + 1, x :: xs, at_, l, hf, hby, hat => by
    have hat := hat (by simp)
    by_cases hm : x = 197
    · subst hm
      match xs, hf, hby, hat with
      | [], _, _, _ => exact ⟨by rw [feed_first lim l _ [] (by simp)]; rfl, by rw [feed_first lim l _ [] (by simp)]; exact .inr ⟨rfl, .inr (.inr ⟨by simp [cutP, headP], .inl rfl, by simp [cutP, headP]⟩)⟩⟩
      | [a], _, _, _ => exact ⟨by rw [feed_first lim l _ [a] (by simp)]; rfl, by rw [feed_first lim l _ [a] (by simp)]; exact .inr ⟨rfl, .inr (.inr ⟨by simp [cutP, headP], .inl rfl, by simp [cutP, headP]⟩)⟩⟩
      | [a, b], _, _, _ => exact ⟨by rw [feed_first lim l _ [a, b] (by simp)]; rfl, by rw [feed_first lim l _ [a, b] (by simp)]; exact .inr ⟨rfl, .inr (.inr ⟨by simp [cutP, headP], .inl rfl, by simp [cutP, headP]⟩)⟩⟩
      | [a, b, c], _, _, _ => exact ⟨by rw [feed_first lim l _ [a, b, c] (by simp)]; rfl, by rw [feed_first lim l _ [a, b, c] (by simp)]; exact .inr ⟨rfl, .inr (.inr ⟨by simp [cutP, headP], .inl rfl, by simp [cutP, headP]⟩)⟩⟩
      | y0 :: y1 :: y2 :: y3 :: t, hf, hby, hat =>
        obtain ⟨n, hn, e⟩ := five_form (hby y0 (by simp)) (hby y1 (by simp)) (hby y2 (by simp)) (hby y3 (by simp)) t
        have hl5 : (197 :: y0 :: y1 :: y2 :: y3 :: t).length = t.length + 5 := by simp
        rw [hl5] at hat hf ⊢
        rw [e] at hby ⊢
        clear e hl5
        have hbt : Byt t := fun z hz => hby z (by simp [hz])
        have hlen : (197 :: (b4 (n : Int) ++ t)).length = t.length + 5 := by simp [b4]
        have hsp : 197 :: (b4 (n : Int) ++ t) = (197 :: x3 (n : Int)) ++ ((n : Int) % 256 :: t) := by simp [b4, x3]
        by_cases h0 : n = 0
        · subst h0
          have hh : headP (197 :: (b4 ((0 : Nat) : Int) ++ t)) = (0, 160) := by
            unfold headP
            rw [if_neg (by simp), if_neg (by simp [b4]), if_pos]
            exact head_start (n := 0) (by decide) t
          have hc : cutP lim (f + 1) at_ (197 :: (b4 ((0 : Nat) : Int) ++ t)) = ⟨[⟨2, [], at_, 160⟩], at_, true⟩ := by
            unfold cutP
            rw [if_neg (by simp), hh, if_neg (by decide), if_pos rfl]
          have hfe : feed ⟨1, lim, [], l, (at_ : Int)⟩ (197 :: (b4 ((0 : Nat) : Int) ++ t)) = (⟨0, lim, [], l, (at_ : Int)⟩, [⟨2, [], at_, 160⟩]) := by
            rw [hsp, feed_append, feed_first lim l _ _ (by simp [x3]), feed]
            have hz := step_zero lim l (at_ : Int)
            rw [show (((0 : Nat) : Int)) = (0 : Int) from rfl, hz]
            simp only
            rw [feed_dead _ rfl]
            rfl
          rw [hc, hfe]
          exact ⟨rfl, .inl ⟨rfl, rfl, rfl⟩⟩
        · have hn0 : 0 < (n : Int) ∧ (n : Int) < 4294967296 := by omega
          obtain ⟨hh1, hh2⟩ := headP_num hn0 t
          have htn : (headP (197 :: (b4 (n : Int) ++ t))).1.toNat = n + 9 := by rw [hh1]; omega
          by_cases hbig : 9 + (n : Int) > lim
          · have hc : cutP lim (f + 1) at_ (197 :: (b4 (n : Int) ++ t)) = CT.more ⟨1, [], at_, 163⟩ (cutP lim f (at_ + (n + 9)) (t.drop (n + 4))) := by
              have hdr : (197 :: (b4 (n : Int) ++ t)).drop (n + 9) = t.drop (n + 4) := by
                rw [show n + 9 = (n + 4) + 5 by omega]
                simp [b4]
              rw [cutP, if_neg (by simp), if_neg hh2, if_neg (by rw [hh1]; omega), if_pos (by rw [hh1]; exact hbig), htn, hdr]
            have h5 := step_five hn0 lim l (at_ : Int)
            rw [if_pos hbig, wrap64_id ⟨by omega, by omega⟩] at h5
            have hfe : feed ⟨1, lim, [], l, (at_ : Int)⟩ (197 :: (b4 (n : Int) ++ t)) = ((feed ⟨3, lim, [], 9 + (n : Int) - 5, (at_ : Int) + (9 + (n : Int))⟩ t).1, ⟨1, [], at_, 163⟩ :: (feed ⟨3, lim, [], 9 + (n : Int) - 5, (at_ : Int) + (9 + (n : Int))⟩ t).2) := by
              rw [hsp, feed_append, feed_first lim l _ _ (by simp [x3]), feed, h5]
              rfl
            rw [hc, hfe]
            have e4 : 9 + (n : Int) - 5 = ((n + 4 : Nat) : Int) := by omega
            have e9 : (at_ : Int) + (9 + (n : Int)) = ((at_ + (n + 9) : Nat) : Int) := by omega
            rw [e4, e9]
            by_cases ht : t.length < n + 4
            · have hd : t.drop (n + 4) = [] := List.drop_of_length_le (by omega)
              rw [hd, cutP_nil]
              cases t with
              | nil => exact ⟨rfl, .inr ⟨rfl, .inl ⟨by simp [CT.more], rfl, rfl⟩⟩⟩
              | cons a t =>
                rw [feed_passes (a :: t) ⟨3, lim, [], _, _⟩ rfl (by simp) (by simp only; omega)]
                unfold passes
                simp only
                rw [if_neg (by omega)]
                exact ⟨rfl, .inr ⟨rfl, .inl ⟨by simp only [CT.more]; omega, rfl, rfl⟩⟩⟩
            · have hsp2 : t = t.take (n + 4) ++ t.drop (n + 4) := (List.take_append_drop _ _).symm
              have htl : (t.take (n + 4)).length = n + 4 := by rw [List.length_take]; omega
              have hp := feed_passes (t.take (n + 4)) ⟨3, lim, [], ((n + 4 : Nat) : Int), ((at_ + (n + 9) : Nat) : Int)⟩ rfl (by omega) (by rw [htl]; exact Int.le_refl _)
              unfold passes at hp
              rw [htl] at hp
              simp only [Int.sub_self, if_true] at hp
              have ih := cut_feed hlim f (t.drop (n + 4)) (at_ + (n + 9)) 0 (by rw [List.length_drop]; omega) (fun z hz => hbt z (List.mem_of_mem_drop hz)) (fun _ => by rw [List.length_drop]; omega)
              have hft : feed ⟨3, lim, [], ((n + 4 : Nat) : Int), ((at_ + (n + 9) : Nat) : Int)⟩ t = feed ⟨1, lim, [], 0, ((at_ + (n + 9) : Nat) : Int)⟩ (t.drop (n + 4)) := by
                conv => lhs; rw [hsp2]
                rw [feed_append, hp]
                simp
              rw [hft]
              refine ⟨by simp only [CT.more]; rw [ih.1], ?_⟩
              have h2 := ih.2
              rw [List.length_drop, show at_ + (n + 9) + (t.length - (n + 4)) = at_ + (t.length + 5) by omega] at h2
              exact h2.more _
          · by_cases ht : t.length < n + 4
            · have hc : cutP lim (f + 1) at_ (197 :: (b4 (n : Int) ++ t)) = ⟨[], at_, false⟩ := by
                rw [cutP, if_neg (by simp), if_neg hh2, if_neg (by rw [hh1]; omega), if_neg (by rw [hh1]; exact hbig), htn, if_pos (by rw [hlen]; omega)]
              have h5 := step_five hn0 lim l (at_ : Int)
              rw [if_neg hbig] at h5
              have hw : whole ⟨2, lim, 197 :: b4 (n : Int), 9 + (n : Int), (at_ : Int)⟩ = (⟨2, lim, 197 :: b4 (n : Int), 9 + (n : Int), (at_ : Int)⟩, []) := by
                unfold whole
                rw [if_pos (by simp only [List.length_cons, b4_len]; omega)]
              rw [hw] at h5
              have hfe : feed ⟨1, lim, [], l, (at_ : Int)⟩ (197 :: (b4 (n : Int) ++ t)) = feed ⟨2, lim, 197 :: b4 (n : Int), 9 + (n : Int), (at_ : Int)⟩ t := by
                rw [hsp, feed_append, feed_first lim l _ _ (by simp [x3]), feed, h5]
                simp
              rw [hc, hfe]
              cases t with
              | nil => exact ⟨rfl, .inr ⟨rfl, .inr (.inr ⟨by simp, .inr rfl, by simp [feed, b4]⟩)⟩⟩
              | cons a t =>
                rw [feed_gathers (a :: t) ⟨2, lim, 197 :: b4 (n : Int), 9 + (n : Int), (at_ : Int)⟩ rfl (by simp only [List.length_cons, b4_len]; omega) (by simp) (by simp only [List.length_cons, b4_len] at ht ⊢; omega)]
                unfold gathers whole
                rw [if_pos (by simp only [List.length_append, List.length_cons, b4_len] at ht ⊢; omega)]
                exact ⟨rfl, .inr ⟨rfl, .inr (.inr ⟨by simp only [List.length_cons]; omega, .inr rfl, by simp [b4]⟩)⟩⟩
            · have htk : (197 :: (b4 (n : Int) ++ t)).take (n + 9) = 197 :: (b4 (n : Int) ++ t.take (n + 4)) := by
                rw [show n + 9 = (n + 4) + 5 by omega]
                simp [b4]
              have hdr : (197 :: (b4 (n : Int) ++ t)).drop (n + 9) = t.drop (n + 4) := by
                rw [show n + 9 = (n + 4) + 5 by omega]
                simp [b4]
              have hc : cutP lim (f + 1) at_ (197 :: (b4 (n : Int) ++ t)) = CT.more (pcR at_ (197 :: (b4 (n : Int) ++ t.take (n + 4)))) (cutP lim f (at_ + (n + 9)) (t.drop (n + 4))) := by
                rw [cutP, if_neg (by simp), if_neg hh2, if_neg (by rw [hh1]; omega), if_neg (by rw [hh1]; exact hbig), htn, if_neg (by rw [hlen]; omega), htk, hdr]
              have htl : (t.take (n + 4)).length = n + 4 := by rw [List.length_take]; omega
              have hr := feed_rest (n := n) (t := t.take (n + 4)) (by omega) htl (lim := lim) (by omega) hlim.2 l (at_ : Int)
              rw [wrap64_id ⟨by omega, by omega⟩] at hr
              have hby2 : Byt (197 :: (b4 (n : Int) ++ t.take (n + 4))) := fun z hz => hby z (by
                simp only [List.mem_cons, List.mem_append] at hz ⊢
                rcases hz with h | h | h
                · exact .inl h
                · exact .inr (.inl h)
                · exact .inr (.inr (List.mem_of_mem_take h)))
              have hok : headOk (197 :: (b4 (n : Int) ++ t.take (n + 4))) := by
                refine ⟨?_, ?_⟩
                · rw [headP_start hn0, if_neg (by omega)]
                · rw [(headP_num hn0 _).1]
                  simp [b4_len, htl]
                  omega
              have hp : pcR at_ (197 :: (b4 (n : Int) ++ t.take (n + 4))) = if (bodyP (197 :: (b4 (n : Int) ++ t.take (n + 4)))).2 = 0 then ⟨0, (bodyP (197 :: (b4 (n : Int) ++ t.take (n + 4)))).1, (at_ : Int), 0⟩ else ⟨1, [], (at_ : Int), 160⟩ := by
                unfold pcR
                rw [bodyR_eq hby2 hok]
              rw [← hp] at hr
              have ih := cut_feed hlim f (t.drop (n + 4)) (at_ + (n + 9)) ((n + 9 : Nat) : Int) (by rw [List.length_drop]; omega) (fun z hz => hbt z (List.mem_of_mem_drop hz)) (fun _ => by rw [List.length_drop]; omega)
              have e9 : (at_ : Int) + ((n + 9 : Nat) : Int) = ((at_ + (n + 9) : Nat) : Int) := by omega
              rw [e9] at hr
              have hsp2 : 197 :: (b4 (n : Int) ++ t) = (197 :: (b4 (n : Int) ++ t.take (n + 4))) ++ t.drop (n + 4) := by simp
              have hfe : feed ⟨1, lim, [], l, (at_ : Int)⟩ (197 :: (b4 (n : Int) ++ t)) = ((feed ⟨1, lim, [], ((n + 9 : Nat) : Int), ((at_ + (n + 9) : Nat) : Int)⟩ (t.drop (n + 4))).1, pcR at_ (197 :: (b4 (n : Int) ++ t.take (n + 4))) :: (feed ⟨1, lim, [], ((n + 9 : Nat) : Int), ((at_ + (n + 9) : Nat) : Int)⟩ (t.drop (n + 4))).2) := by
                rw [hsp2, feed_append, hr]
                simp
              rw [hc, hfe]
              refine ⟨by simp only [CT.more]; rw [ih.1], ?_⟩
              have h2 := ih.2
              rw [List.length_drop, show at_ + (n + 9) + (t.length - (n + 4)) = at_ + (t.length + 5) by omega] at h2
              exact h2.more _
    · have hh : headP (x :: xs) = (0, 160) := by unfold headP; simp [hm]
      have hc : cutP lim (f + 1) at_ (x :: xs) = ⟨[⟨2, [], at_, 160⟩], at_, true⟩ := by
        unfold cutP
        rw [if_neg (by simp), hh, if_neg (by decide), if_pos rfl]
      have hfe : feed ⟨1, lim, [], l, (at_ : Int)⟩ (x :: xs) = (⟨0, lim, [], l, (at_ : Int)⟩, [⟨2, [], at_, 160⟩]) := by
        rw [feed, step_mark hm]
        simp only
        rw [feed_dead _ rfl]
        rfl
      rw [hc, hfe]
      exact ⟨rfl, .inl ⟨rfl, rfl, rfl⟩⟩
theorem Stands.waits {r : R} {c : CT} {n : Nat} (h : Stands r c n) : (if c.dead = true ∨ n < c.at_ then 0 else n - c.at_) = r.buf.length := by
  rcases h with ⟨h1, _, h3⟩ | ⟨h1, ⟨h2, _, h3⟩ | ⟨h2, _, h3⟩ | ⟨h2, _, h3⟩⟩
  · rw [if_pos (.inl h1), h3]; rfl
  · rw [if_pos (.inr h2), h3]; rfl
  · rw [if_neg (by rw [h1]; simp; omega), h3]; simp only [List.length_nil]; omega
  · rw [if_neg (by rw [h1]; simp; omega), h3]
theorem Stands.dies {r : R} {c : CT} {n : Nat} (h : Stands r c n) : c.dead = decide (r.st = 0) := by
  rcases h with ⟨h1, h2, _⟩ | ⟨h1, ⟨_, h2, _⟩ | ⟨_, h2, _⟩ | ⟨_, h2, _⟩⟩
  · rw [h1, h2]; rfl
  · rw [h1, h2]; rfl
  · rw [h1, h2]; rfl
  · rcases h2 with h2 | h2 <;> rw [h1, h2] <;> rfl
theorem Stands.ends {r : R} {c : CT} {n : Nat} (h : Stands r c n) : (if c.dead = true then 173 else if c.at_ = n then 0 else 10) = endOf r := by
  unfold endOf
  rcases h with ⟨h1, h2, _⟩ | ⟨h1, ⟨h3, h2, _⟩ | ⟨h3, h2, h4⟩ | ⟨h3, h2, h4⟩⟩
  · rw [if_pos h1, if_pos h2]
  · rw [if_neg (by rw [h1]; simp), if_neg (by omega), if_neg (by omega), if_pos (.inl (by omega))]
  · rw [if_neg (by rw [h1]; simp), if_pos h3, if_neg (by omega), if_neg (by rw [h2, h4]; simp)]
  · rw [if_neg (by rw [h1]; simp), if_neg (by omega), if_neg (by omega), if_pos (.inr (by omega))]
/-- All that has come, cut at once. -/
def cutA (lim : Int) (xs : List Int) : CT := cutP lim xs.length 0 xs
theorem cutA_feed {lim : Int} (hlim : 64 ≤ lim ∧ lim ≤ 4096) {xs : List Int} (hby : Byt xs) (hl : xs.length ≤ 1099511627776) : (cutA lim xs).ps = (feed (fresh lim) xs).2 ∧ Stands (feed (fresh lim) xs).1 (cutA lim xs) xs.length := by
  have h := cut_feed hlim xs.length xs 0 0 (Nat.le_refl _) hby (fun _ => by omega)
  rw [Nat.zero_add] at h
  exact h
end St
end Go.Proofs.Ytkllgmhfjibajaa
