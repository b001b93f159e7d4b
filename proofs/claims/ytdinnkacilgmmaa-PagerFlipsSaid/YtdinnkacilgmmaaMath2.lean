/- Plain mathematics of joining sums: products of registers, and powers. -/
import Derived.Test.YtdinnkacilgmmaaMath
namespace Go.Proofs.Ytdinnkacilgmmaa

/-- what adds up, is told by the single bits -/
theorem additive_ext {f g : BitVec 32 → BitVec 32} (hf : ∀ x y, f (x ^^^ y) = f x ^^^ f y) (hg : ∀ x y, g (x ^^^ y) = g x ^^^ g y)
    (hb : ∀ j, j < 32 → f (1#32 <<< j) = g (1#32 <<< j)) (a : BitVec 32) : f a = g a := by
  have hz : ∀ h : BitVec 32 → BitVec 32, (∀ x y, h (x ^^^ y) = h x ^^^ h y) → h 0#32 = 0#32 := by
    intro h hh
    have := hh 0#32 0#32
    rw [BitVec.xor_self, BitVec.xor_self] at this
    exact this
  have key : ∀ i, i ≤ 32 → f (low i a) = g (low i a) := by
    intro i
    induction i with
    | zero => intro _; rw [low_zero, hz f hf, hz g hg]
    | succ i ih =>
      intro hi
      rw [low_succ i (by omega)]
      split
      · rw [hf, hg, ih (by omega), hb i (by omega)]
      · exact ih (by omega)
  have h32 : low 32 a = a := by
    apply BitVec.eq_of_getLsbD_eq
    intro i hi
    rw [low_get]; simp [hi]
  have := key 32 (by omega)
  rwa [h32] at this

/-- the product, so many bits of it -/
def pr : Nat → BitVec 32 → BitVec 32 → BitVec 32
  | 0, _, _ => 0#32
  | n + 1, a, b => (if a.getLsbD 31 then b else 0#32) ^^^ pr n (a <<< 1) (sh b)

theorem pr_xor (n : Nat) (x y b : BitVec 32) : pr n (x ^^^ y) b = pr n x b ^^^ pr n y b := by
  induction n generalizing x y b with
  | zero => simp [pr]
  | succ n ih =>
    simp only [pr]
    rw [BitVec.shiftLeft_xor_distrib, ih, BitVec.getLsbD_xor]
    generalize pr n (x <<< 1) (sh b) = u
    generalize pr n (y <<< 1) (sh b) = v
    cases x.getLsbD 31 <;> cases y.getLsbD 31
    · simp
    · simp; ac_rfl
    · simp; ac_rfl
    · simp
      have z (p q : BitVec 32) : p ^^^ (p ^^^ q) = q := by rw [← BitVec.xor_assoc, BitVec.xor_self, BitVec.zero_xor]
      rw [show b ^^^ u ^^^ (b ^^^ v) = b ^^^ (b ^^^ (u ^^^ v)) by ac_rfl, z]

theorem pr_zero (n : Nat) (b : BitVec 32) : pr n 0#32 b = 0#32 := by
  induction n generalizing b with
  | zero => rfl
  | succ n ih => simp [pr, ih]

/-- the unit: the zeroth power -/
def e0 : BitVec 32 := 0x80000000#32

theorem pow_shn (j : Nat) (h : j < 32) : (1#32 <<< j) = shn (31 - j) e0 := by
  have : ∀ j, j < 32 → (1#32 <<< j) = shn (31 - j) e0 := by decide
  exact this j h

theorem pr_bit (b : BitVec 32) (i : Nat) (n : Nat) (hi : i < n) (hn : n ≤ 32) : pr n (1#32 <<< (31 - i)) b = shn i b := by
  induction n generalizing i b with
  | zero => omega
  | succ n ih =>
    simp only [pr]
    cases i with
    | zero =>
      have e1 : (1#32 <<< (31 - 0)).getLsbD 31 = true := by decide
      have e2 : (1#32 <<< (31 - 0)) <<< 1 = 0#32 := by decide
      rw [e1, e2, pr_zero]; simp [shn]
    | succ i =>
      have e1 : (1#32 <<< (31 - (i + 1))).getLsbD 31 = false := by
        have : ∀ i, i < 31 → (1#32 <<< (31 - (i + 1))).getLsbD 31 = false := by decide
        exact this i (by omega)
      have e2 : (1#32 <<< (31 - (i + 1))) <<< 1 = 1#32 <<< (31 - i) := by
        have : ∀ i, i < 31 → (1#32 <<< (31 - (i + 1))) <<< 1 = 1#32 <<< (31 - i) := by decide
        exact this i (by omega)
      rw [e1, e2, ih (sh b) i (by omega) (by omega)]
      simp [shn]

theorem shn_comm (m n : Nat) (r : BitVec 32) : shn m (shn n r) = shn n (shn m r) := by
  rw [← shn_add, ← shn_add, Nat.add_comm]

/-- a product by a power is so many shifts -/
theorem pr_pow (a : BitVec 32) (k : Nat) : pr 32 a (shn k e0) = shn k a := by
  refine additive_ext (f := fun a => pr 32 a (shn k e0)) (g := fun a => shn k a) (fun x y => pr_xor 32 x y _) (fun x y => shn_xor k x y) (fun j hj => ?_) a
  show pr 32 (1#32 <<< j) (shn k e0) = shn k (1#32 <<< j)
  have e : j = 31 - (31 - j) := by omega
  rw [show (1#32 <<< j) = (1#32 <<< (31 - (31 - j))) by rw [← e], pr_bit _ (31 - j) 32 (by omega) (by omega), ← e, pow_shn j hj, shn_comm]

/-- eight times a power of two, of x -/
def pw (m : Nat) : BitVec 32 := shn (8 * 2 ^ m) e0

theorem pw_zero : pw 0 = 0x800000#32 := by decide

theorem pw_succ (m : Nat) : pr 32 (pw m) (pw m) = pw (m + 1) := by
  unfold pw
  rw [pr_pow, ← shn_add]
  congr 1
  rw [Nat.pow_succ]; omega

theorem pr_pw (a : BitVec 32) (m : Nat) : pr 32 a (pw m) = shn (8 * 2 ^ m) a := pr_pow a _

/-- which powers of 2 a number is made of, below k -/
def onesTo (n k : Nat) : List Nat := (List.range k).filter fun i => n.testBit i

theorem onesTo_succ (n k : Nat) : onesTo n (k + 1) = if n.testBit k then onesTo n k ++ [k] else onesTo n k := by
  unfold onesTo
  rw [List.range_succ, List.filter_append]
  cases h : n.testBit k <;> simp [h]

/-- joining: the state of the loop behind some powers -/
def jAt (l : List Nat) : Nat := l.foldl max 0
def jA (a : BitVec 32) (l : List Nat) : BitVec 32 := (l.foldl (fun s x => (max s.1 x, shn (8 * 2 ^ max s.1 x) s.2)) (0, a)).2

theorem j_both (a : BitVec 32) (l : List Nat) : (l.foldl (fun s x => (max s.1 x, shn (8 * 2 ^ max s.1 x) s.2)) (0, a)) = (jAt l, jA a l) := by
  have : ∀ (s : Nat × BitVec 32), (l.foldl (fun s x => (max s.1 x, shn (8 * 2 ^ max s.1 x) s.2)) s).1 = l.foldl max s.1 := by
    induction l with
    | nil => intro s; rfl
    | cons x l ih => intro s; simp only [List.foldl_cons]; rw [ih]
  apply Prod.ext
  · exact this (0, a)
  · rfl

theorem jAt_snoc (l : List Nat) (x : Nat) : jAt (l ++ [x]) = max (jAt l) x := by simp [jAt]
theorem jA_snoc (a : BitVec 32) (l : List Nat) (x : Nat) : jA a (l ++ [x]) = shn (8 * 2 ^ max (jAt l) x) (jA a l) := by
  unfold jA
  rw [List.foldl_append, j_both]
  rfl

theorem jAt_ones (n k : Nat) : jAt (onesTo n k) ≤ k := by
  induction k with
  | zero => simp [onesTo, jAt]
  | succ k ih =>
    rw [onesTo_succ]
    split
    · rw [jAt_snoc]; omega
    · omega

theorem jAt_lt (n k : Nat) : jAt (onesTo n k) ≤ k - 1 ∨ k = 0 := by
  induction k with
  | zero => exact .inr rfl
  | succ k ih =>
    left
    rw [onesTo_succ]
    have := jAt_ones n k
    split
    · rw [jAt_snoc]; omega
    · omega

theorem mod_pow_succ (n k : Nat) : n % 2 ^ (k + 1) = n % 2 ^ k + if n.testBit k then 2 ^ k else 0 := by
  rw [Nat.pow_succ, Nat.mod_mul, Nat.testBit_eq_decide_div_mod_eq]
  by_cases h : n / 2 ^ k % 2 = 1
  · simp [h]
  · have : n / 2 ^ k % 2 = 0 := by omega
    simp [this]

/-- the powers of a number, joined, are as many shifts as it has -/
theorem jA_ones (a : BitVec 32) (n k : Nat) : jA a (onesTo n k) = shn (8 * (n % 2 ^ k)) a := by
  induction k with
  | zero => simp [onesTo, jA, Nat.mod_one, shn]
  | succ k ih =>
    rw [onesTo_succ, mod_pow_succ]
    have h1 := jAt_lt n k
    by_cases hb : n.testBit k = true
    · rw [if_pos hb, if_pos hb, jA_snoc, ih, ← shn_add]
      have e : max (jAt (onesTo n k)) k = k := by
        have := jAt_ones n k; omega
      rw [e, Nat.mul_add]
    · rw [if_neg hb, if_neg hb, ih, Nat.add_zero]

end Go.Proofs.Ytdinnkacilgmmaa
