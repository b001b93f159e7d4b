/- Plain mathematics of the checksum: the register as 32 bits, one shift of it, and what sums of bytes are. No program in sight. -/
namespace Go.Proofs.Ytdinnkacilgmmaa

/-- one shift of the register -/
def sh (r : BitVec 32) : BitVec 32 := (r >>> 1) ^^^ (if r.getLsbD 0 then 0x82f63b78#32 else 0#32)

theorem sh_xor (a b : BitVec 32) : sh (a ^^^ b) = sh a ^^^ sh b := by
  unfold sh
  rw [BitVec.ushiftRight_xor_distrib, BitVec.getLsbD_xor]
  have z (p q : BitVec 32) : p ^^^ (p ^^^ q) = q := by rw [← BitVec.xor_assoc, BitVec.xor_self, BitVec.zero_xor]
  cases a.getLsbD 0 <;> cases b.getLsbD 0 <;> simp <;> first | ac_rfl | (rw [show a >>> 1 ^^^ 2197175160#32 ^^^ (b >>> 1 ^^^ 2197175160#32) = 2197175160#32 ^^^ (2197175160#32 ^^^ (a >>> 1 ^^^ b >>> 1)) by ac_rfl, z])

theorem sh_zero : sh 0#32 = 0#32 := by decide

theorem sh_inj0 (r : BitVec 32) (h : sh r = 0#32) : r = 0#32 := by
  unfold sh at h
  by_cases h0 : r.getLsbD 0 = true
  · exfalso
    rw [if_pos h0] at h
    have := congrArg (fun x => BitVec.getLsbD x 31) h
    simp at this
  · rw [if_neg h0] at h
    apply BitVec.eq_of_getLsbD_eq
    intro i hi
    by_cases hz : i = 0
    · subst hz; simpa using h0
    · have := congrArg (fun x => BitVec.getLsbD x (i - 1)) h
      simp at this
      rw [show 1 + (i - 1) = i by omega] at this
      simpa using this

/-- so many shifts -/
def shn : Nat → BitVec 32 → BitVec 32
  | 0, r => r
  | n + 1, r => shn n (sh r)

theorem shn_add (m n : Nat) (r : BitVec 32) : shn (m + n) r = shn n (shn m r) := by
  induction m generalizing r with
  | zero => simp [shn]
  | succ m ih => rw [show m + 1 + n = (m + n) + 1 by omega]; simp only [shn]; exact ih _

theorem shn_xor (n : Nat) (a b : BitVec 32) : shn n (a ^^^ b) = shn n a ^^^ shn n b := by
  induction n generalizing a b with
  | zero => rfl
  | succ n ih => simp only [shn, sh_xor, ih]

theorem shn_zero (n : Nat) : shn n 0#32 = 0#32 := by
  induction n with
  | zero => rfl
  | succ n ih => simp only [shn, sh_zero, ih]

theorem shn_inj0 (n : Nat) (r : BitVec 32) (h : shn n r = 0#32) : r = 0#32 := by
  induction n generalizing r with
  | zero => exact h
  | succ n ih => exact sh_inj0 r (ih _ h)

/-- a byte as a register -/
def ext (c : UInt8) : BitVec 32 := c.toBitVec.setWidth 32

/-- the register behind a byte -/
def stepB (r : BitVec 32) (c : UInt8) : BitVec 32 := shn 8 (r ^^^ ext c)

/-- the register behind bytes -/
def reg (r : BitVec 32) (l : List UInt8) : BitVec 32 := l.foldl stepB r

/-- the sum of more bytes -/
def more (s : BitVec 32) (l : List UInt8) : BitVec 32 := ~~~ (reg (~~~ s) l)

/-- the sum of bytes -/
def crc (l : List UInt8) : BitVec 32 := more 0#32 l

theorem reg_append (r : BitVec 32) (a b : List UInt8) : reg r (a ++ b) = reg (reg r a) b := by simp [reg]

theorem more_more (s : BitVec 32) (a b : List UInt8) : more (more s a) b = more s (a ++ b) := by
  unfold more; rw [reg_append, BitVec.not_not]

theorem crc_append (a b : List UInt8) : more (crc a) b = crc (a ++ b) := more_more _ _ _

/-- the register is turned by a turned register alone -/
theorem reg_xor (r s : BitVec 32) (l : List UInt8) : reg (r ^^^ s) l = reg r l ^^^ shn (8 * l.length) s := by
  induction l generalizing r s with
  | nil => rfl
  | cons c l ih =>
    have e : stepB (r ^^^ s) c = stepB r c ^^^ shn 8 s := by
      unfold stepB
      rw [← shn_xor]
      congr 1
      ac_rfl
    show reg (stepB (r ^^^ s) c) l = reg (stepB r c) l ^^^ _
    rw [e, ih, List.length_cons, show 8 * (l.length + 1) = 8 + 8 * l.length by omega, shn_add]

theorem not_ones (x : BitVec 32) : ~~~ x = x ^^^ BitVec.allOnes 32 := BitVec.xor_allOnes.symm

/-- how the sum of pieces is joined -/
theorem more_join (s : BitVec 32) (b : List UInt8) : more s b = shn (8 * b.length) s ^^^ crc b := by
  unfold crc more
  rw [not_ones s, not_ones 0#32, BitVec.zero_xor, BitVec.xor_comm s, reg_xor, not_ones, not_ones]
  ac_rfl

/-- the sum of a list of bits turned -/
theorem reg_xor_list (r s : BitVec 32) (a b : List UInt8) (h : a.length = b.length) : reg (r ^^^ s) (List.zipWith (· ^^^ ·) a b) = reg r a ^^^ reg s b := by
  induction a generalizing b r s with
  | nil => cases b with
    | nil => rfl
    | cons => simp at h
  | cons c a ih => cases b with
    | nil => simp at h
    | cons d b =>
      have e : stepB (r ^^^ s) (c ^^^ d) = stepB r c ^^^ stepB s d := by
        unfold stepB
        rw [← shn_xor]
        congr 1
        have : ext (c ^^^ d) = ext c ^^^ ext d := by
          unfold ext
          apply BitVec.eq_of_getLsbD_eq
          intro i hi
          simp [BitVec.getLsbD_setWidth]
        rw [this]; ac_rfl
      show reg (stepB (r ^^^ s) (c ^^^ d)) _ = reg (stepB r c) a ^^^ reg (stepB s d) b
      rw [e]
      exact ih _ _ b (by simpa using h)


/-! ### a turned bit -/

theorem shn_pow (i : Nat) (h : i < 32) : shn i (1#32 <<< i) = 1#32 := by
  have : ∀ j, j < 32 → shn j (1#32 <<< j) = 1#32 := by decide
  exact this i h

theorem ext_pow (k : Nat) (h : k < 8) : ext (1 <<< UInt8.ofNat k) = 1#32 <<< k := by
  have : ∀ j, j < 8 → ext (1 <<< UInt8.ofNat j) = 1#32 <<< j := by decide
  exact this k h

theorem ext_xor (c d : UInt8) : ext (c ^^^ d) = ext c ^^^ ext d := by
  unfold ext
  apply BitVec.eq_of_getLsbD_eq
  intro i hi
  simp [BitVec.getLsbD_setWidth]

/-- one bit turned turns the register by what becomes of that bit -/
theorem reg_flip (r : BitVec 32) (l : List UInt8) (j k : Nat) (hj : j < l.length) (hk : k < 8) :
    reg r (l.set j (l[j] ^^^ (1 <<< UInt8.ofNat k))) = reg r l ^^^ shn (8 * l.length - (8 * j + k)) 1#32 := by
  induction l generalizing r j with
  | nil => simp at hj
  | cons c l ih =>
    cases j with
    | zero =>
      show reg (stepB r (c ^^^ (1 <<< UInt8.ofNat k))) l = reg (stepB r c) l ^^^ _
      have e : stepB r (c ^^^ (1 <<< UInt8.ofNat k)) = stepB r c ^^^ shn (8 - k) 1#32 := by
        unfold stepB
        rw [ext_xor, ext_pow k hk, ← BitVec.xor_assoc, shn_xor]
        congr 1
        rw [show shn 8 (1#32 <<< k) = shn (k + (8 - k)) (1#32 <<< k) by rw [show k + (8 - k) = 8 by omega], shn_add, shn_pow k (by omega)]
      rw [e, reg_xor, ← shn_add, List.length_cons, show 8 - k + 8 * l.length = 8 * (l.length + 1) - (8 * 0 + k) by omega]
    | succ j =>
      show reg (stepB r c) _ = reg (stepB r c) l ^^^ _
      rw [List.length_cons, show 8 * (l.length + 1) - (8 * (j + 1) + k) = 8 * l.length - (8 * j + k) by omega]
      exact ih (stepB r c) j (by simpa using hj)

/-- the lowest i bits of a number -/
def low (i : Nat) (bits : BitVec 32) : BitVec 32 := bits &&& BitVec.ofNat 32 (2 ^ i - 1)

theorem low_get (i : Nat) (bits : BitVec 32) (k : Nat) : (low i bits).getLsbD k = (bits.getLsbD k && decide (k < i)) := by
  unfold low
  rw [BitVec.getLsbD_and, BitVec.getLsbD_ofNat, Nat.testBit_two_pow_sub_one]
  by_cases hk : k < 32
  · simp [hk]
  · rw [BitVec.getLsbD_of_ge bits k (by omega)]; simp

theorem low_zero (bits : BitVec 32) : low 0 bits = 0#32 := by simp [low]

theorem low_succ (i : Nat) (h : i < 32) (bits : BitVec 32) : low (i + 1) bits = if bits.getLsbD i then low i bits ^^^ (1#32 <<< i) else low i bits := by
  apply BitVec.eq_of_getLsbD_eq
  intro k hk
  rw [low_get]
  by_cases hb : bits.getLsbD i = true
  · rw [if_pos hb, BitVec.getLsbD_xor, low_get, BitVec.getLsbD_shiftLeft]
    by_cases e : k = i
    · subst e; simp [hb, hk]
    · by_cases hlt : k < i
      · simp [hlt, hk, show k < i + 1 by omega]
      · have hki : k - i ≠ 0 := by omega
        simp [hlt, hk, show ¬ k < i + 1 by omega]
        omega
  · rw [if_neg hb, low_get]
    by_cases e : k = i
    · subst e; simp [hb]
    · have : (k < i + 1) = (k < i) := by simp; omega
      simp [this]

theorem low_eq_zero (i : Nat) (bits : BitVec 32) (hl : low (i + 1) bits = 0#32) : bits.getLsbD i = false := by
  have := congrArg (fun x => BitVec.getLsbD x i) hl
  simp only [low_get] at this
  simpa using this

end Go.Proofs.Ytdinnkacilgmmaa
