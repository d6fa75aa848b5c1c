/- What was framed and sent, one behind the other, is told, body by body; one that is spoilt is told to be: in plain Lean. Conditions: each is within the limit. -/
import Derived.Test.YtkllgmhfjibajaaFramePlain
import Derived.Test.YtkllgmhfjibajaaSumPlain
namespace Go.Proofs.Ytkllgmhfjibajaa
namespace St
/-- These may be sent. -/
def Fit (lim : Int) (c : List Int) : Prop := 0 < c.length ∧ ((c.length + 9 : Nat) : Int) ≤ lim
instance (lim : Int) (c : List Int) : Decidable (Fit lim c) := by unfold Fit; infer_instance
def sel (lim : Int) (l : List (List Int)) : List (List Int) := l.filter fun c => decide (Fit lim c)
def frames (l : List (List Int)) : List Int := l.flatMap frameOf
/-- Where each begins. -/
def ats : Int → List (List Int) → List Int
  | _, [] => []
  | o, c :: l => o :: ats (o + ((c.length + 9 : Nat) : Int)) l
/-- What is told of them, where that of this number is spoilt. -/
def tells (sp : Int) : Nat → Int → List (List Int) → List Pc
  | _, _, [] => []
  | i, o, c :: l => (if (i : Int) = sp then ⟨1, [], o, 160⟩ else ⟨0, c, o, 0⟩) :: tells sp (i + 1) (o + ((c.length + 9 : Nat) : Int)) l
def tot : List (List Int) → Nat
  | [] => 0
  | c :: l => c.length + 9 + tot l
theorem frames_len : ∀ l, (frames l).length = tot l
  | [] => rfl
  | c :: l => by
    have := frames_len l
    unfold frames at this ⊢
    rw [List.flatMap_cons, List.length_append, this, frameOf_len]
    rfl
theorem tot_app : ∀ l m, tot (l ++ m) = tot l + tot m
  | [], m => by simp [tot]
  | c :: l, m => by
    show c.length + 9 + tot (l ++ m) = c.length + 9 + tot l + tot m
    rw [tot_app l m]
    omega
theorem ats_app : ∀ l o m, ats o (l ++ m) = ats o l ++ ats (o + (tot l : Int)) m
  | [], o, m => by simp [ats, tot]
  | c :: l, o, m => by
    show o :: ats _ (l ++ m) = o :: (ats _ l ++ _)
    rw [ats_app l]
    have e : o + ((c.length + 9 : Nat) : Int) + (tot l : Int) = o + ((tot (c :: l) : Nat) : Int) := by simp only [tot]; omega
    rw [e]
theorem ats_len : ∀ l o, (ats o l).length = l.length
  | [], _ => rfl
  | c :: l, o => by simp [ats, ats_len l]
theorem tells_len (sp : Int) : ∀ l i o, (tells sp i o l).length = l.length
  | [], _, _ => rfl
  | c :: l, i, o => by simp [tells, tells_len sp l]
theorem tells_app (sp : Int) : ∀ l i o m, tells sp i o (l ++ m) = tells sp i o l ++ tells sp (i + l.length) (o + (tot l : Int)) m
  | [], i, o, m => by simp [tells, tot]
  | c :: l, i, o, m => by
    show _ :: tells _ _ _ (l ++ m) = _ :: (tells _ _ _ l ++ _)
    rw [tells_app sp l]
    have e : o + ((c.length + 9 : Nat) : Int) + (tot l : Int) = o + ((tot (c :: l) : Nat) : Int) := by simp only [tot]; omega
    have e2 : i + 1 + l.length = i + (c :: l).length := by simp only [List.length_cons]; omega
    rw [e, e2]
/-- The piece of this number. -/
theorem tells_at (sp : Int) : ∀ (l : List (List Int)) (i : Nat) (o : Int) (k : Nat) (c : List Int), l[k]? = some c → ∃ a, (ats o l)[k]? = some a ∧ (tells sp i o l)[k]? = some (if ((i + k : Nat) : Int) = sp then ⟨1, [], a, 160⟩ else ⟨0, c, a, 0⟩)
  | [], _, _, k, c, h => by simp at h
  | d :: l, i, o, 0, c, h => by
    simp at h
    subst h
    exact ⟨o, rfl, rfl⟩
  | d :: l, i, o, k + 1, c, h => by
    simp at h
    obtain ⟨a, h1, h2⟩ := tells_at sp l (i + 1) (o + ((d.length + 9 : Nat) : Int)) k c h
    refine ⟨a, h1, ?_⟩
    show (tells sp (i + 1) _ l)[k]? = _
    rw [h2]
    have e : i + 1 + k = i + (k + 1) := by omega
    rw [e]
theorem wrap64_id {x : Int} (h : 0 ≤ x ∧ x < 4611686018427387904) : IntKind.wrap .i64 x = x := by
  rw [IntKind.wrap_i64]
  omega
/-- Frames that are whole. -/
theorem feed_frames {lim sp : Int} (hl2 : lim ≤ 4096) : ∀ (l : List (List Int)) (i : Nat) (len fr : Int), (∀ c ∈ l, Fit lim c) → 0 ≤ fr → fr + (tot l : Int) < 4611686018427387904 → (∀ k, k < l.length → ((i + k : Nat) : Int) ≠ sp) →
    ∃ len', feed ⟨1, lim, [], len, fr⟩ (frames l) = (⟨1, lim, [], len', fr + (tot l : Int)⟩, tells sp i fr l)
  | [], i, len, fr, _, _, _, _ => ⟨len, by simp [frames, feed, tot, tells]⟩
  | c :: l, i, len, fr, h, h0, hb, hs => by
    have hc := h c List.mem_cons_self
    simp only [tot] at hb
    have h1 := feed_frame hc.1 hc.2 hl2 len fr
    rw [wrap64_id ⟨by omega, by omega⟩] at h1
    obtain ⟨len', h2⟩ := feed_frames hl2 l (i + 1) ((c.length + 9 : Nat) : Int) (fr + ((c.length + 9 : Nat) : Int)) (fun d hd => h d (List.mem_cons_of_mem _ hd)) (by omega) (by omega) (fun k hk => by
      have := hs (k + 1) (by simp only [List.length_cons]; omega)
      have e : i + 1 + k = i + (k + 1) := by omega
      rw [e]
      exact this)
    refine ⟨len', ?_⟩
    have e : frames (c :: l) = frameOf c ++ frames l := rfl
    rw [e, feed_append, h1, h2]
    have h3 := hs 0 (by simp)
    rw [Nat.add_zero] at h3
    simp only [tells, if_neg h3]
    have e2 : fr + ((c.length + 9 : Nat) : Int) + (tot l : Int) = fr + ((tot (c :: l) : Nat) : Int) := by simp only [tot]; omega
    rw [e2]
    rfl
end St
end Go.Proofs.Ytkllgmhfjibajaa
