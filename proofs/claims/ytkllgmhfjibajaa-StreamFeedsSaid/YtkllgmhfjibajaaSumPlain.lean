/- What octet's sums are, in plain Lean: a byte through the register is eight steps; two that differ stay apart. Conditions: none. -/
import Derived.Test.YtkllgmhfjibajaaExtend
namespace Go.Proofs.Ytkllgmhfjibajaa
namespace Cr
theorem bits_xor {a b : Nat} (ha : a < 4294967296) (hb : b < 4294967296) : bits .xor .u32 (a : Int) (b : Int) = ((a ^^^ b : Nat) : Int) := by
  show IntKind.u32.wrap (((BitVec.ofInt 32 (a : Int) ^^^ BitVec.ofInt 32 (b : Int)).toNat : Nat) : Int) = _
  have h1 : (BitVec.ofInt 32 (a : Int)).toNat = a := by rw [BitVec.toNat_ofInt]; omega
  have h2 : (BitVec.ofInt 32 (b : Int)).toNat = b := by rw [BitVec.toNat_ofInt]; omega
  rw [BitVec.toNat_xor, h1, h2, IntKind.wrap_u32]
  have := Nat.xor_lt_two_pow (n := 32) ha hb
  omega
theorem bits_and15 {a : Nat} (ha : a < 4294967296) : bits .and .u32 (a : Int) 15 = ((a % 16 : Nat) : Int) := by
  show IntKind.u32.wrap (((BitVec.ofInt 32 (a : Int) &&& BitVec.ofInt 32 15).toNat : Nat) : Int) = _
  have h1 : (BitVec.ofInt 32 (a : Int)).toNat = a := by rw [BitVec.toNat_ofInt]; omega
  have h2 : (BitVec.ofInt 32 15).toNat = 15 := by decide
  have h3 : a &&& 15 = a % 16 := Nat.and_two_pow_sub_one_eq_mod a 4
  rw [BitVec.toNat_and, h1, h2, h3, IntKind.wrap_u32]
  omega
theorem bits_and1 {a : Nat} (ha : a < 4294967296) : bits .and .u32 (a : Int) 1 = ((a % 2 : Nat) : Int) := by
  show IntKind.u32.wrap (((BitVec.ofInt 32 (a : Int) &&& BitVec.ofInt 32 1).toNat : Nat) : Int) = _
  have h1 : (BitVec.ofInt 32 (a : Int)).toNat = a := by rw [BitVec.toNat_ofInt]; omega
  have h2 : (BitVec.ofInt 32 1).toNat = 1 := by decide
  have h3 : a &&& 1 = a % 2 := Nat.and_two_pow_sub_one_eq_mod a 1
  rw [BitVec.toNat_and, h1, h2, h3, IntKind.wrap_u32]
  omega
/-- A step of the register. -/
def sN (x : Nat) : Nat := if x % 2 = 1 then (x / 2) ^^^ 2197175160 else x / 2
theorem xor_lt {a b : Nat} (ha : a < 4294967296) (hb : b < 4294967296) : a ^^^ b < 4294967296 := Nat.xor_lt_two_pow (n := 32) ha hb
theorem sN_lt {x : Nat} (h : x < 4294967296) : sN x < 4294967296 := by
  unfold sN
  split
  · exact xor_lt (by omega) (by decide)
  · omega
theorem stepP_eq {x : Nat} (h : x < 4294967296) : stepP (x : Int) = (sN x : Int) := by
  unfold stepP sN
  rw [bits_and1 h]
  have e : (x : Int) / 2 = ((x / 2 : Nat) : Int) := by omega
  by_cases h1 : x % 2 = 1
  · rw [if_neg (by omega), if_pos h1, e]
    exact bits_xor (b := 2197175160) (by omega) (by decide)
  · rw [if_pos (by omega), if_neg h1, e]
theorem div2_xor (a b : Nat) : (a ^^^ b) / 2 = a / 2 ^^^ b / 2 := by
  have := Nat.shiftRight_xor_distrib (a := a) (b := b) (i := 1)
  simpa [Nat.shiftRight_eq_div_pow] using this
theorem mod2_xor (a b : Nat) : (a ^^^ b) % 2 = (a % 2 + b % 2) % 2 := by
  have := Nat.xor_mod_two_eq_one (a := a) (b := b)
  omega
theorem sN_xor (a b : Nat) : sN (a ^^^ b) = sN a ^^^ sN b := by
  have hm := mod2_xor a b
  unfold sN
  rw [div2_xor]
  have ha : a % 2 = 0 ∨ a % 2 = 1 := by omega
  have hb : b % 2 = 0 ∨ b % 2 = 1 := by omega
  rcases ha with ha | ha <;> rcases hb with hb | hb
  · rw [if_neg (by omega), if_neg (by omega), if_neg (by omega)]
  · rw [if_pos (by omega), if_neg (by omega), if_pos (by omega), Nat.xor_assoc]
  · rw [if_pos (by omega), if_pos (by omega), if_neg (by omega), Nat.xor_assoc, Nat.xor_assoc, Nat.xor_comm (b / 2)]
  · rw [if_neg (by omega), if_pos (by omega), if_pos (by omega)]
    have e : ∀ x y p : Nat, x ^^^ p ^^^ (y ^^^ p) = x ^^^ y := fun x y p => by
      rw [Nat.xor_comm y p, ← Nat.xor_assoc, Nat.xor_assoc x p p, Nat.xor_self, Nat.xor_zero]
    rw [e]
def itN : Nat → Nat → Nat
  | 0, x => x
  | n + 1, x => sN (itN n x)
theorem itN_lt (n : Nat) {x : Nat} (h : x < 4294967296) : itN n x < 4294967296 := by
  induction n with
  | zero => exact h
  | succ n ih => exact sN_lt ih
theorem itN_xor (n a b : Nat) : itN n (a ^^^ b) = itN n a ^^^ itN n b := by
  induction n with
  | zero => rfl
  | succ n ih => unfold itN; rw [ih, sN_xor]
theorem itN_add (m n x : Nat) : itN (m + n) x = itN m (itN n x) := by
  induction m with
  | zero => rw [Nat.zero_add]; rfl
  | succ m ih => rw [Nat.succ_add]; unfold itN; rw [ih]
theorem iter_eq (n : Nat) {x : Nat} (h : x < 4294967296) : iter n (x : Int) = (itN n x : Int) := by
  induction n with
  | zero => rfl
  | succ n ih => show stepP (iter n (x : Int)) = _; rw [ih, stepP_eq (itN_lt n h)]; rfl
theorem it4_shift (q : Nat) : itN 4 (q * 16) = q := by
  have e : ∀ x, sN (x * 2) = x := fun x => by
    unfold sN
    rw [if_neg (by omega)]
    omega
  have e2 : q * 16 = q * 2 * 2 * 2 * 2 := by omega
  show sN (sN (sN (sN (q * 16)))) = q
  rw [e2, e, e, e, e]
theorem split16 (x : Nat) : x = (x / 16 * 16) ^^^ (x % 16) := by
  have h := Nat.two_pow_add_eq_or_of_lt (i := 4) (b := x % 16) (by omega) (x / 16)
  have h2 : 2 ^ 4 * (x / 16) &&& x % 16 = 0 := by
    apply Nat.eq_of_testBit_eq
    intro i
    rw [Nat.testBit_and, Nat.zero_testBit, Nat.testBit_two_pow_mul]
    by_cases hi : 4 ≤ i
    · rw [Nat.testBit_lt_two_pow (x := x % 16) (i := i) (Nat.lt_of_lt_of_le (show x % 16 < 2 ^ 4 by omega) (Nat.pow_le_pow_right (by decide) hi)), Bool.and_false]
    · simp [hi]
  have h3 : (2 ^ 4 * (x / 16)) ^^^ (x % 16) = (2 ^ 4 * (x / 16)) ||| (x % 16) := by
    apply Nat.eq_of_testBit_eq
    intro i
    have h4 := congrArg (fun n => n.testBit i) h2
    simp only [Nat.testBit_and, Nat.zero_testBit] at h4
    rw [Nat.testBit_xor, Nat.testBit_or]
    cases h5 : (2 ^ 4 * (x / 16)).testBit i <;> cases h6 : (x % 16).testBit i <;> simp_all
  have e1 : x / 16 * 16 = 2 ^ 4 * (x / 16) := by omega
  rw [e1, h3, ← h]
  omega
theorem tv_eq (i : Nat) (h : i < 16) : tv (i : Int) = (itN 4 i : Int) := by
  have h2 : ∀ k : Fin 16, tv (k.1 : Int) = (itN 4 k.1 : Int) := by decide
  exact h2 ⟨i, h⟩
theorem nib_eq {x : Nat} (h : x < 4294967296) : nib (x : Int) = (itN 4 x : Int) := by
  unfold nib
  have e : (x : Int) / 16 = ((x / 16 : Nat) : Int) := by omega
  rw [bits_and15 h, e, tv_eq _ (by omega), bits_xor (itN_lt 4 (by omega)) (by omega)]
  have h1 : itN 4 x = itN 4 (x / 16 * 16) ^^^ itN 4 (x % 16) := by
    rw [← itN_xor, ← split16]
  rw [h1, it4_shift, Nat.xor_comm]
/-- A byte through the register. -/
def tN (x c : Nat) : Nat := itN 8 (x ^^^ c)
theorem thr_eq {x c : Nat} (h : x < 4294967296) (hc : c < 256) : thr (x : Int) (c : Int) = (tN x c : Int) := by
  unfold thr tN
  rw [bits_xor h (by omega), nib_eq (xor_lt h (by omega)), nib_eq (itN_lt 4 (xor_lt h (by omega))), ← itN_add]
theorem tN_lt {x c : Nat} (h : x < 4294967296) (hc : c < 256) : tN x c < 4294967296 := itN_lt 8 (xor_lt h (by omega))
theorem sN_zero {x : Nat} (h : x < 4294967296) (e : sN x = 0) : x = 0 := by
  unfold sN at e
  split at e
  · have h2 : x / 2 = 2197175160 := by
      have := congrArg (fun y => y ^^^ 2197175160) e
      simpa [Nat.xor_assoc] using this
    omega
  · omega
theorem itN_zero {x : Nat} (h : x < 4294967296) : ∀ n, itN n x = 0 → x = 0
  | 0, e => e
  | n + 1, e => itN_zero h n (sN_zero (itN_lt n h) e)
theorem xor_zero_eq {a b : Nat} (h : a ^^^ b = 0) : a = b := by
  have := congrArg (fun y => y ^^^ b) h
  simpa [Nat.xor_assoc] using this
theorem itN_inj {a b n : Nat} (ha : a < 4294967296) (hb : b < 4294967296) (h : itN n a = itN n b) : a = b := by
  refine xor_zero_eq (itN_zero (xor_lt ha hb) n ?_)
  rw [itN_xor, h, Nat.xor_self]
theorem tN_inj {a b c : Nat} (ha : a < 4294967296) (hb : b < 4294967296) (hc : c < 256) (h : tN a c = tN b c) : a = b := by
  have := itN_inj (xor_lt ha (by omega)) (xor_lt hb (by omega)) h
  have := congrArg (fun y => y ^^^ c) this
  simpa [Nat.xor_assoc] using this
theorem tN_byte {a c d : Nat} (ha : a < 4294967296) (hc : c < 256) (hd : d < 256) (h : tN a c = tN a d) : c = d := by
  have := itN_inj (xor_lt ha (by omega)) (xor_lt ha (by omega)) h
  have := congrArg (fun y => a ^^^ y) this
  simpa [← Nat.xor_assoc] using this
/-- A text through the register. -/
def foN (x : Nat) (cs : List Int) : Nat := cs.foldl (fun y c => tN y c.toNat) x
theorem foN_lt : ∀ {cs : List Int} {x : Nat}, x < 4294967296 → (∀ c ∈ cs, 0 ≤ c ∧ c < 256) → foN x cs < 4294967296
  | [], _, h, _ => h
  | c :: cs, x, h, hc => foN_lt (cs := cs) (tN_lt h (by have := hc c List.mem_cons_self; omega)) (fun d hd => hc d (List.mem_cons_of_mem _ hd))
theorem fold_eq : ∀ {cs : List Int} {x : Nat}, x < 4294967296 → (∀ c ∈ cs, 0 ≤ c ∧ c < 256) → cs.foldl thr (x : Int) = (foN x cs : Int)
  | [], _, _, _ => rfl
  | c :: cs, x, h, hc => by
    have h1 := hc c List.mem_cons_self
    obtain ⟨d, rfl⟩ : ∃ d : Nat, c = (d : Int) := ⟨c.toNat, by omega⟩
    rw [List.foldl_cons, thr_eq h (by omega), fold_eq (tN_lt h (by omega)) (fun d hd => hc d (List.mem_cons_of_mem _ hd))]
    rfl
theorem foN_inj : ∀ {cs : List Int} {a b : Nat}, a < 4294967296 → b < 4294967296 → (∀ c ∈ cs, 0 ≤ c ∧ c < 256) → foN a cs = foN b cs → a = b
  | [], _, _, _, _, _, h => h
  | c :: cs, a, b, ha, hb, hc, h => by
    have h1 := hc c List.mem_cons_self
    have h2 : c.toNat < 256 := by omega
    exact tN_inj ha hb h2 (foN_inj (cs := cs) (tN_lt ha h2) (tN_lt hb h2) (fun d hd => hc d (List.mem_cons_of_mem _ hd)) h)
theorem foN_spoilt {xs ys : List Int} {a : Nat} {c d : Int} (ha : a < 4294967296) (hx : ∀ c ∈ xs, 0 ≤ c ∧ c < 256) (hy : ∀ c ∈ ys, 0 ≤ c ∧ c < 256) (hc : 0 ≤ c ∧ c < 256) (hd : 0 ≤ d ∧ d < 256) (h : foN a (xs ++ c :: ys) = foN a (xs ++ d :: ys)) : c = d := by
  have h1 := foN_lt ha hx
  unfold foN at h h1
  rw [List.foldl_append, List.foldl_append, List.foldl_cons, List.foldl_cons] at h
  have h2 := foN_inj (cs := ys) (tN_lt h1 (c := c.toNat) (by omega)) (tN_lt h1 (c := d.toNat) (by omega)) hy h
  have := tN_byte h1 (by omega) (by omega) h2
  omega
/-- All its bits turned. -/
def nN (x : Nat) : Nat := 4294967295 ^^^ x
theorem nN_lt {x : Nat} (h : x < 4294967296) : nN x < 4294967296 := xor_lt (by decide) h
theorem nN_inj {a b : Nat} (h : nN a = nN b) : a = b := by
  have := congrArg (fun y => 4294967295 ^^^ y) h
  simpa [nN, ← Nat.xor_assoc] using this
theorem nt_eq {x : Nat} (h : x < 4294967296) : nt (x : Int) = (nN x : Int) := bits_xor (a := 4294967295) (by decide) h
def exN (s : Nat) (cs : List Int) : Nat := nN (foN (nN s) cs)
theorem exN_lt {s : Nat} {cs : List Int} (h : s < 4294967296) (hc : ∀ c ∈ cs, 0 ≤ c ∧ c < 256) : exN s cs < 4294967296 := nN_lt (foN_lt (nN_lt h) hc)
theorem ext_eq {s : Nat} {cs : List Int} (h : s < 4294967296) (hc : ∀ c ∈ cs, 0 ≤ c ∧ c < 256) : nt (cs.foldl thr (nt (s : Int))) = (exN s cs : Int) := by
  rw [nt_eq h, fold_eq (nN_lt h) hc, nt_eq (foN_lt (nN_lt h) hc)]
  rfl
end Cr
end Go.Proofs.Ytkllgmhfjibajaa
