/- The journal: numbers as bytes; little, back. -/
import Derived.Test.YtdinnkacilgmmaaGrow
import Derived.IntWalk
namespace Go.Proofs.Ytdinnkacilgmmaa
open Go.RowKit

/-- the number of bytes, the lowest first -/
def unle : List UInt8 → Nat
  | [] => 0
  | c :: r => c.toNat + 256 * unle r
/-- so many bytes of a number, the lowest first -/
def le : Nat → Nat → List UInt8
  | 0, _ => []
  | k + 1, n => UInt8.ofNat n :: le k (n / 256)

theorem le_length (k n : Nat) : (le k n).length = k := by
  induction k generalizing n with
  | zero => rfl
  | succ k ih => simp [le, ih]
theorem unle_le (k n : Nat) : unle (le k n) = n % 256 ^ k := by
  induction k generalizing n with
  | zero => simp [le, unle, Nat.mod_one]
  | succ k ih =>
    simp only [le, unle, ih]
    rw [UInt8.toNat_ofNat', show (2 : Nat) ^ 8 = 256 from rfl, Nat.pow_succ, Nat.mul_comm (256 ^ k) 256, Nat.mod_mul]
theorem unle_lt (l : List UInt8) : unle l < 256 ^ l.length := by
  induction l with
  | nil => simp [unle]
  | cons c r ih =>
    simp only [unle, List.length_cons, Nat.pow_succ]
    have := c.toNat_lt
    have h : unle r + 1 ≤ 256 ^ r.length := ih
    omega
theorem unle_snoc (l : List UInt8) (c : UInt8) : unle (l ++ [c]) = unle l + 256 ^ l.length * c.toNat := by
  induction l with
  | nil => simp [unle]
  | cons d r ih =>
    simp only [List.cons_append, unle, ih, List.length_cons, Nat.pow_succ]
    rw [Nat.mul_add, ← Nat.mul_assoc, Nat.mul_comm 256 (256 ^ r.length)]
    omega
theorem le_snoc (k n : Nat) : le (k + 1) n = le k n ++ [UInt8.ofNat (n / 256 ^ k)] := by
  induction k generalizing n with
  | zero => simp [le]
  | succ k ih =>
    rw [le, ih, le, Nat.div_div_eq_div_mul, Nat.pow_succ, Nat.mul_comm 256]
    rfl

theorem bits_or_u64 (x y : Nat) (hx : x < 18446744073709551616) (hy : y < 18446744073709551616) : bits .or .u64 (x : Int) (y : Int) = ((x ||| y : Nat) : Int) := by
  show IntKind.u64.wrap ((BitVec.ofInt 64 (x : Int) ||| BitVec.ofInt 64 (y : Int)).toNat : Int) = _
  rw [BitVec.ofInt_natCast, BitVec.ofInt_natCast, BitVec.toNat_or, BitVec.toNat_ofNat, BitVec.toNat_ofNat, Nat.mod_eq_of_lt (by omega), Nat.mod_eq_of_lt (by omega)]
  have : x ||| y < 2 ^ 64 := Nat.or_lt_two_pow (by omega) (by omega)
  rw [IntKind.wrap_u64]
  omega

theorem pow_256 (i : Nat) : (256 : Nat) ^ i = 2 ^ (8 * i) := by rw [Nat.pow_mul]

theorem back_step (i x : Nat) (c : UInt8) (hi : i < 8) (hx : x < 256 ^ i) : bits .or .u64 (x : Int) (IntKind.u64.wrap (IntKind.u64.wrap (c.toNat : Int) * 2 ^ (8 * i))) = ((x + 256 ^ i * c.toNat : Nat) : Int) := by
  have hc := c.toNat_lt
  have h64 : c.toNat * 2 ^ (8 * i) < 18446744073709551616 := by
    have h1 : c.toNat * 2 ^ (8 * i) < 2 ^ 8 * 2 ^ (8 * i) := Nat.mul_lt_mul_of_pos_right (by omega) (Nat.two_pow_pos _)
    rw [← Nat.pow_add] at h1
    have h2 : (2 : Nat) ^ (8 + 8 * i) ≤ 2 ^ 64 := Nat.pow_le_pow_right (by decide) (by omega)
    omega
  have hx64 : x < 18446744073709551616 := by
    rw [pow_256] at hx
    have h2 : (2 : Nat) ^ (8 * i) ≤ 2 ^ 64 := Nat.pow_le_pow_right (by decide) (by omega)
    omega
  rw [IntWalk.u64_in (c.toNat : Int) (by omega)]
  have e : ((c.toNat : Int) * 2 ^ (8 * i)) = ((c.toNat * 2 ^ (8 * i) : Nat) : Int) := by rw [Int.natCast_mul, Int.natCast_pow]; rfl
  rw [e, IntWalk.u64_in _ (by omega), bits_or_u64 _ _ hx64 h64]
  congr 1
  rw [pow_256] at hx ⊢
  rw [Nat.mul_comm c.toNat, Nat.or_comm, ← Nat.two_pow_add_eq_or_of_lt hx, Nat.add_comm]

set_option maxRecDepth 100000 in
theorem back_any (a : Option Addr) (l : List UInt8) (cap : Nat) (w : World) (hb : BytesAt w a l) (hl : l.length ≤ 8) :
    Calls Try.prog 123 #[.slice a l.length cap] w fun e w' => e = .returned (.int .u64 (unle l : Int)) ∧ w = w' := by
  go_enter Try.func123, Try.ntmps123
  go_wp2_with fail
  go_loop [3, 8] (fun v3 v8 => ∃ i : Nat, i ≤ l.length ∧ v8 = .int .i64 (i : Int) ∧ v3 = .int .u64 (unle (l.take i) : Int)) (fun _ v8 => l.length - (intOf v8).toNat)
  case atStart => exact ⟨0, Nat.zero_le _, rfl, rfl⟩
  case round =>
    obtain ⟨i, hi, rfl, rfl⟩ := hrel
    by_cases hlt : i < l.length
    · have hlt' : (i : Int) < (l.length : Int) := by omega
      obtain ⟨b, off, rfl, hc⟩ := hb (by intro e; rw [e] at hlt; simp at hlt)
      have xc := hc i hlt
      have hx := unle_lt (l.take i)
      rw [List.length_take, Nat.min_eq_left hi] at hx
      have hst := back_step i (unle (l.take i)) l[i] (by omega) hx
      have hsn : unle (l.take (i + 1)) = unle (l.take i) + 256 ^ i * l[i].toNat := by
        rw [List.take_succ_eq_append_getElem hlt, unle_snoc, List.length_take, Nat.min_eq_left hi]
      have HST := Lib.hid hst
      have HSN := Lib.hid hsn
      clear hst hsn hx hb hc
      generalize l[i] = c at *
      go_wp2_with fail
      go_round
      case rel => exact ⟨i + 1, by omega, by go_num, by rw [HST.out, HSN.out]⟩
      case measure => simp [intOf]; omega
    · obtain rfl : i = l.length := by omega
      rw [List.take_length]
      go_wp2
      go_ret
      exact ⟨rfl, rfl⟩

theorem splice_le_set (l : List UInt8) (off i n : Nat) (h : off + i < l.length) : (splice l off (le i n)).set (off + i) (UInt8.ofNat (n / 256 ^ i)) = splice l off (le (i + 1) n) := by
  have hl := length_splice l off (le i n) (by rw [le_length]; omega)
  apply List.ext_getElem?
  intro j
  rw [List.getElem?_set]
  unfold splice
  simp only [le_snoc, List.append_assoc, List.length_append, List.length_take, le_length, List.length_cons, List.length_nil, List.length_drop, List.getElem?_append, List.getElem?_drop, Nat.min_eq_left (show off ≤ l.length by omega)]
  by_cases e : off + i = j
  · subst e
    rw [if_pos rfl, if_pos (by omega), if_neg (by omega), if_neg (by omega), if_pos (by omega)]
    simp
  · rw [if_neg e]
    by_cases h1 : j < off
    · rw [if_pos h1, if_pos h1]
    · rw [if_neg h1, if_neg h1]
      by_cases h2 : j - off < i
      · rw [if_pos h2, if_pos h2]
      · rw [if_neg h2, if_neg h2, if_neg (by omega)]
        congr 1
        omega

theorem byte_u64 (n i : Nat) : (n : Int) / 2 ^ (8 * i) % 256 = ((UInt8.ofNat (n / 256 ^ i)).toNat : Int) := by
  rw [UInt8.toNat_ofNat', pow_256, show (2 : Int) ^ (8 * i) = ((2 ^ (8 * i) : Nat) : Int) by rw [Int.natCast_pow]; rfl, ← Int.natCast_ediv]
  generalize n / 2 ^ (8 * i) = m
  omega

set_option maxRecDepth 100000 in
theorem little_any {w : World} {B g n0 cap0 : Nat} {l : List UInt8} (ho : OwnB w B (.slice (some ⟨g, 0, none⟩) n0 cap0) l) (off k cap : Nat) (hk : k ≤ 8) (hf : off + k ≤ l.length) (n : Nat) :
    Calls Try.prog 98 #[.slice (some ⟨g, off, none⟩) k cap, .int .u64 (n : Int)] w fun e w' => e = .returned (.tuple #[]) ∧ OwnB w' B (.slice (some ⟨g, 0, none⟩) n0 cap0) (splice l off (le k n)) ∧ Mod (fun j => j = g) w w' := by
  go_enter Try.func98, Try.ntmps98
  go_wp2_with fail
  go_loopw [7] (fun v7 wr => ∃ i : Nat, i ≤ k ∧ v7 = .int .i64 (i : Int) ∧ OwnB wr B (.slice (some ⟨g, 0, none⟩) n0 cap0) (splice l off (le i n)) ∧ Mod (fun j => j = g) w wr) (fun v7 _ => k - (intOf v7).toNat)
  case atStart => exact ⟨0, Nat.zero_le _, rfl, by simpa [le, splice] using ho, Mod.refl _ _⟩
  case round =>
    obtain ⟨i, hi, rfl, hr, hm⟩ := hrel
    by_cases hlt : i < k
    · have hlt' : (i : Int) < (k : Int) := by omega
      have hlen := length_splice l off (le i n) (by rw [le_length]; omega)
      obtain ⟨x0, x1⟩ := hr.cellAt (off + i) (by rw [hlen]; omega)
      have hst := hr.store (off + i) (UInt8.ofNat (n / 256 ^ i))
      rw [splice_le_set l off i n (by omega)] at hst
      have hbu := byte_u64 n i
      have HST := Lib.hid hst
      have HBU := Lib.hid hbu
      generalize (splice l off (le i n))[off + i] = c0 at *
      clear hst hbu hlen hr ho
      go_wp2_with fail
      go_roundw
      case rel =>
        refine ⟨i + 1, by omega, by go_num, ?_, ?_⟩
        · rw [HBU.out]; exact HST.out
        · exact hm.trans (Mod.setCell (F := fun j => j = g) _ _ _ rfl) (fun _ _ e => e)
      case measure => simp [intOf]; omega
    · obtain rfl : i = k := by omega
      go_wp2
      go_end0
      exact ⟨rfl, hr, hm⟩
end Go.Proofs.Ytdinnkacilgmmaa
