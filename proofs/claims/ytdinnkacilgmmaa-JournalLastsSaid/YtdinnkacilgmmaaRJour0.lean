/- The reference's sum, and its reading of numbers. -/
import Derived.Test.YtdinnkacilgmmaaJourZ
namespace Go.Proofs.Ytdinnkacilgmmaa
open Go.RowKit

/-- the reference's register behind i bits of a byte -/
def stepR (r : BitVec 32) (c : UInt8) (i : Nat) : BitVec 32 := shn i (r ^^^ ext c) ^^^ (ext c >>> i)
theorem stepR_zero (r : BitVec 32) (c : UInt8) : stepR r c 0 = r := by
  unfold stepR
  show (r ^^^ ext c) ^^^ (ext c >>> 0) = r
  rw [BitVec.ushiftRight_zero, BitVec.xor_assoc, BitVec.xor_self, BitVec.xor_zero]
theorem ext_shr8 (c : UInt8) : ext c >>> 8 = 0#32 := by
  apply BitVec.eq_of_toNat_eq
  rw [BitVec.toNat_ushiftRight, ext_toNat, Nat.shiftRight_eq_div_pow]
  have := c.toNat_lt
  show c.toNat / 256 = 0
  omega
theorem stepR_all (r : BitVec 32) (c : UInt8) : stepR r c 8 = stepB r c := by
  unfold stepR stepB
  rw [ext_shr8, BitVec.xor_zero]
theorem stepR_bit (r : BitVec 32) (c : UInt8) (i : Nat) : stepR r c i ^^^ (ext c >>> i) = shn i (r ^^^ ext c) := by
  unfold stepR
  rw [BitVec.xor_assoc, BitVec.xor_self, BitVec.xor_zero]
theorem stepR_succ (r : BitVec 32) (c : UInt8) (i : Nat) : stepR r c (i + 1) = (stepR r c i >>> 1) ^^^ (if (shn i (r ^^^ ext c)).getLsbD 0 then 0x82f63b78#32 else 0#32) := by
  unfold stepR
  rw [shn_succ']
  generalize shn i (r ^^^ ext c) = y
  have e : ext c >>> (i + 1) = (ext c >>> i) >>> 1 := by rw [← BitVec.shiftRight_add]
  rw [e]
  generalize ext c >>> i = z
  unfold sh
  have : (y ^^^ z) >>> 1 = (y >>> 1) ^^^ (z >>> 1) := by
    apply BitVec.eq_of_getLsbD_eq; intro j hj; simp
  rw [this, BitVec.xor_assoc, BitVec.xor_assoc]
  congr 1
  exact BitVec.xor_comm _ _
theorem stepR_and (r : BitVec 32) (c : UInt8) (i : Nat) : bits .and .u32 (bits .xor .u32 ((stepR r c i).toNat : Int) ((c.toNat : Int) / 2 ^ i)) 1 = ((if (shn i (r ^^^ ext c)).getLsbD 0 then 1 else 0 : Nat) : Int) := by
  have e : (c.toNat : Int) / 2 ^ i = ((ext c >>> i).toNat : Int) := by
    rw [BitVec.toNat_ushiftRight, ext_toNat, Nat.shiftRight_eq_div_pow]
    push_cast
    rfl
  rw [e, bits_xor, stepR_bit, show (1 : Int) = (((1#32).toNat : Nat) : Int) from rfl, bits_and, bit0_and]
  by_cases h : (shn i (r ^^^ ext c)).getLsbD 0 = true
  · rw [if_pos h, if_pos h]; rfl
  · rw [if_neg h, if_neg h]; rfl
theorem half_bv (x : BitVec 32) : (x.toNat : Int) / (2 : Int) = ((x >>> 1).toNat : Int) := by
  rw [BitVec.toNat_ushiftRight, Nat.shiftRight_eq_div_pow, Nat.pow_one]; omega
theorem poly_xor (x : BitVec 32) : bits .xor .u32 (x.toNat : Int) 2197175160 = ((x ^^^ 0x82f63b78#32).toNat : Int) := by
  rw [show (2197175160 : Int) = (((0x82f63b78#32).toNat : Nat) : Int) from rfl, bits_xor]

set_option maxRecDepth 100000 in
theorem rstep_any (r : BitVec 32) (c : UInt8) (w : World) : Calls Try.prog 145 #[.int .u32 r.toNat, .int .u8 c.toNat] w fun e w' => e = .returned (.int .u32 (stepB r c).toNat) ∧ w = w' := by
  have hc := c.toNat_lt
  go_enter Try.func145, Try.ntmps145
  go_wp2_with fail
  go_loop [0, 5] (fun v0 v5 => ∃ i : Nat, i ≤ 8 ∧ v5 = .int .i64 (i : Int) ∧ v0 = .int .u32 ((stepR r c i).toNat : Int)) (fun _ v5 => 8 - (intOf v5).toNat)
  case atStart => exact ⟨0, Nat.zero_le _, rfl, by rw [stepR_zero]⟩
  case round =>
    obtain ⟨i, hi, rfl, rfl⟩ := hrel
    by_cases hlt : i < 8
    · have hlt' : (i : Int) < 8 := by omega
      have hw : (c.toNat : Int) / 2 ^ i % 4294967296 = (c.toNat : Int) / 2 ^ i := by
        have e : (c.toNat : Int) / 2 ^ i = ((c.toNat / 2 ^ i : Nat) : Int) := by push_cast; rfl
        have := Nat.div_le_self c.toNat (2 ^ i)
        rw [e]
        clear e
        generalize c.toNat / 2 ^ i = m at *
        omega
      have HA := Lib.hid (stepR_and r c i)
      have HS := Lib.hid (stepR_succ r c i)
      have HH := Lib.hid (half_bv (stepR r c i))
      have HP := Lib.hid (poly_xor (stepR r c i >>> 1))
      generalize stepR r c i = x at *
      obtain ⟨y, hy⟩ : ∃ y, y = (shn i (r ^^^ ext c)).getLsbD 0 := ⟨_, rfl⟩
      rw [← hy] at HA HS
      clear hy
      cases y
      · have ha : bits .and .u32 (bits .xor .u32 (x.toNat : Int) ((c.toNat : Int) / 2 ^ i)) 1 = 0 := HA.out
        have hs : stepR r c (i + 1) = x >>> 1 := by rw [HS.out]; simp
        have HS2 := Lib.hid hs
        clear hs HA HS
        go_wp2_with fail
        go_round
        case rel => exact ⟨i + 1, by omega, by go_num, by rw [HS2.out]; exact congrArg (Value.int .u32) HH.out⟩
        case measure => simp [intOf]; omega
      · have ha : bits .and .u32 (bits .xor .u32 (x.toNat : Int) ((c.toNat : Int) / 2 ^ i)) 1 = 1 := HA.out
        have hs : stepR r c (i + 1) = (x >>> 1) ^^^ 0x82f63b78#32 := by rw [HS.out]; simp
        have HS2 := Lib.hid hs
        clear hs HA HS
        go_wp2_with fail
        go_round
        case rel => exact ⟨i + 1, by omega, by go_num, by rw [HS2.out]; exact congrArg (Value.int .u32) (by first | exact HP.out | (rw [HH.out]; exact HP.out))⟩
        case measure => simp [intOf]; omega
    · obtain rfl : i = 8 := by omega
      rw [stepR_all]
      go_wp2
      go_ret
      exact ⟨rfl, rfl⟩

set_option maxHeartbeats 400000 in
theorem rmore_any (s : BitVec 32) (a : Option Addr) (l : List UInt8) (cap : Nat) (w : World) (hm : l.length ≤ 140737488351232) (hb : BytesAt w a l) :
    Calls Try.prog 143 #[.int .u32 s.toNat, .slice a l.length cap] w fun e w' => e = .returned (.int .u32 (more s l).toNat) ∧ w = w' := by
  have hsg : IntKind.u32.signed = false := rfl
  have HN := Lib.hid (bits_not s)
  go_enter Try.func143, Try.ntmps143
  go_wp2_with fail
  go_loop [5, 6] (fun v5 v6 => ∃ i : Nat, i ≤ l.length ∧ v6 = .int .i64 (i : Int) ∧ v5 = .int .u32 ((reg (~~~ s) (l.take i)).toNat : Int)) (fun _ v6 => l.length - (intOf v6).toNat)
  case atStart => exact ⟨0, Nat.zero_le _, rfl, by rw [HN.out]; rfl⟩
  case round =>
    obtain ⟨i, hi, rfl, rfl⟩ := hrel
    by_cases hlt : i < l.length
    · have hlt' : (i : Int) < (l.length : Int) := by omega
      obtain ⟨b, off, rfl, hc⟩ := hb (by intro e; rw [e] at hlt; simp at hlt)
      have xc := hc i hlt
      have HR := Lib.hid (reg_snoc (~~~ s) l i hlt)
      generalize reg (~~~ s) (l.take i) = x at *
      generalize l[i] = c at *
      clear hc
      go_wp2_with (go_at_call 145; refine (rstep_any x c _).mono ?_; rintro e w' ⟨rfl, rfl⟩)
      go_round
      case rel => exact ⟨i + 1, by omega, by go_num, by rw [HR.out]; rfl⟩
      case measure => simp [intOf]; omega
    · obtain rfl : i = l.length := by omega
      rw [List.take_length]
      have HX := Lib.hid (bits_not (reg (~~~ s) l))
      go_wp2
      go_ret
      exact ⟨ret_val (congrArg (Value.int .u32) HX.out), rfl⟩
theorem rsum_any (a : Option Addr) (l : List UInt8) (n cap : Nat) (w : World) (hn : l.length = n) (hm : l.length ≤ 140737488351232) (hb : BytesAt w a l) :
    Calls Try.prog 138 #[.slice a n cap] w fun e w' => e = .returned (.int .u32 (crc l).toNat) ∧ w = w' := by
  subst hn
  have H := Lib.hid (fun w => rmore_any 0#32 a l cap w hm)
  go_enter Try.func138, Try.ntmps138
  go_wp2_with fail
  refine (H.out w hb).mono ?_
  rintro e w' ⟨rfl, rfl⟩
  go_wp2
  go_ret
  exact ⟨rfl, rfl⟩

set_option maxRecDepth 100000 in
theorem rback_any (a : Option Addr) (l : List UInt8) (n cap : Nat) (w : World) (hn : l.length = n) (hb : BytesAt w a l) (hl : l.length ≤ 8) :
    Calls Try.prog 139 #[.slice a n cap] w fun e w' => e = .returned (.int .u64 (unle l : Int)) ∧ w = w' := by
  subst hn
  go_enter Try.func139, Try.ntmps139
  go_wp2_with fail
  go_loop [3, 4] (fun v3 v4 => ∃ i : Nat, i ≤ l.length ∧ v4 = .int .i64 (i : Int) ∧ v3 = .int .u64 (unle (l.take i) : Int)) (fun _ v4 => l.length - (intOf v4).toNat)
  case atStart => exact ⟨0, Nat.zero_le _, rfl, rfl⟩
  case round =>
    obtain ⟨i, hi, rfl, rfl⟩ := hrel
    by_cases hlt : i < l.length
    · have hlt' : (i : Int) < (l.length : Int) := by omega
      obtain ⟨b, off, rfl, hc⟩ := hb (by intro e; rw [e] at hlt; simp at hlt)
      have xc := hc i hlt
      have hx := unle_lt (l.take i)
      rw [List.length_take, Nat.min_eq_left hi] at hx
      have hst := back_step i (unle (l.take i)) l[i] (by omega) hx
      have hsn : unle (l.take (i + 1)) = unle (l.take i) + 256 ^ i * l[i].toNat := by
        rw [List.take_succ_eq_append_getElem hlt, unle_snoc, List.length_take, Nat.min_eq_left hi]
      have HST := Lib.hid hst
      have HSN := Lib.hid hsn
      clear hst hsn hx hb hc
      generalize l[i] = c at *
      go_wp2_with fail
      go_round
      case rel => exact ⟨i + 1, by omega, by go_num, by rw [HSN.out, ← HST.out]⟩
      case measure => simp [intOf]; omega
    · obtain rfl : i = l.length := by omega
      rw [List.take_length]
      go_wp2
      go_ret
      exact ⟨rfl, rfl⟩
end Go.Proofs.Ytdinnkacilgmmaa
