/- The checksum's functions of the program: what each returns, in every world. -/
import Derived.Test.YtdinnkacilgmmaaRows
import Derived.Test.YtdinnkacilgmmaaMath
import Derived.Test.YtdinnkacilgmmaaMem
import Derived.Lib.SlBytesConst
namespace Go.Proofs.Ytdinnkacilgmmaa
open Go.RowKit

/-! ### bits of 32 -/
theorem wrap_u32_nat (n : Nat) (h : n < 4294967296) : IntKind.u32.wrap (n : Int) = n := by
  rw [IntKind.wrap_u32']; omega
theorem ofInt_bv (x : BitVec 32) : BitVec.ofInt 32 (x.toNat : Int) = x := by
  rw [BitVec.ofInt_natCast]; simp
theorem bits_xor (x y : BitVec 32) : bits .xor .u32 (x.toNat : Int) (y.toNat : Int) = ((x ^^^ y).toNat : Int) := by
  show IntKind.u32.wrap ((BitVec.ofInt 32 (x.toNat : Int) ^^^ BitVec.ofInt 32 (y.toNat : Int)).toNat : Int) = _
  rw [ofInt_bv, ofInt_bv]; exact wrap_u32_nat _ (x ^^^ y).isLt
theorem bits_and (x y : BitVec 32) : bits .and .u32 (x.toNat : Int) (y.toNat : Int) = ((x &&& y).toNat : Int) := by
  show IntKind.u32.wrap ((BitVec.ofInt 32 (x.toNat : Int) &&& BitVec.ofInt 32 (y.toNat : Int)).toNat : Int) = _
  rw [ofInt_bv, ofInt_bv]; exact wrap_u32_nat _ (x &&& y).isLt

theorem bit0_and (x : BitVec 32) : x &&& 1#32 = if x.getLsbD 0 then 1#32 else 0#32 := by
  apply BitVec.eq_of_getLsbD_eq; intro i hi
  rw [BitVec.getLsbD_and, BitVec.getLsbD_one]
  by_cases e : i = 0
  · subst e
    cases x.getLsbD 0 <;> simp
  · cases x.getLsbD 0 <;> simp [e]

theorem sh_bits (x : BitVec 32) : (bits BinOp.xor IntKind.u32 (↑x.toNat / 2)
    (bits BinOp.and IntKind.u32 2197175160 (-bits BinOp.and IntKind.u32 (↑x.toNat) 1 % 4294967296))) = ((sh x).toNat : Int) := by
  have e1 : bits BinOp.and IntKind.u32 (↑x.toNat) 1 = ((if x.getLsbD 0 then 1 else 0 : Nat) : Int) := by
    rw [show (1 : Int) = (((1#32).toNat : Nat) : Int) from rfl, bits_and, bit0_and]
    by_cases h : x.getLsbD 0 = true
    · rw [if_pos h, if_pos h]; rfl
    · rw [if_neg h, if_neg h]; rfl
  have e2 : (x.toNat : Int) / (2 : Int) = ((x >>> 1).toNat : Int) := by
    rw [BitVec.toNat_ushiftRight, Nat.shiftRight_eq_div_pow, Nat.pow_one]; omega
  rw [e1, e2]
  unfold sh
  by_cases h : x.getLsbD 0 = true
  · rw [if_pos h, if_pos h]
    have e3 : bits BinOp.and IntKind.u32 2197175160 (-((1 : Nat) : Int) % 4294967296) = ((0x82f63b78#32).toNat : Int) := by decide
    rw [e3, bits_xor]
  · rw [if_neg h, if_neg h]
    have e3 : bits BinOp.and IntKind.u32 2197175160 (-((0 : Nat) : Int) % 4294967296) = ((0#32).toNat : Int) := by decide
    rw [e3, bits_xor]

theorem shifted_any (x : BitVec 32) (w : World) :
    Calls Try.prog 84 #[.int .u32 x.toNat] w fun e w' => e = .returned (.int .u32 (sh x).toNat) ∧ w = w' := by
  have hs := Lib.hid (sh_bits x)
  go_enter Try.func84, Try.ntmps84
  go_wp2
  go_ret
  refine ⟨ret_val ?_, rfl⟩
  show Value.int IntKind.u32 _ = _
  rw [hs.out]


theorem ext_toNat (c : UInt8) : (ext c).toNat = c.toNat := by
  unfold ext
  rw [BitVec.toNat_setWidth]
  have := c.toNat_lt
  show c.toNat % _ = _
  omega

theorem bits_not (x : BitVec 32) : bits .xor .u32 IntKind.u32.max (x.toNat : Int) = ((~~~ x).toNat : Int) := by
  show IntKind.u32.wrap ((BitVec.ofInt 32 (4294967295 : Int) ^^^ BitVec.ofInt 32 (x.toNat : Int)).toNat : Int) = _
  rw [ofInt_bv, show BitVec.ofInt 32 (4294967295 : Int) = BitVec.allOnes 32 from by decide, BitVec.allOnes_xor]
  exact wrap_u32_nat _ (~~~ x).isLt

theorem bits_ext (r : BitVec 32) (c : UInt8) : bits .xor .u32 (r.toNat : Int) (c.toNat : Int) = ((r ^^^ ext c).toNat : Int) := by
  rw [← ext_toNat, bits_xor]

theorem reg_snoc (r : BitVec 32) (l : List UInt8) (k : Nat) (h : k < l.length) : reg r (l.take (k + 1)) = shn 8 (reg r (l.take k) ^^^ ext l[k]) := by
  rw [List.take_succ_eq_append_getElem h, reg_append]; rfl

theorem shn_succ' (k : Nat) (r : BitVec 32) : shn (k + 1) r = sh (shn k r) := by
  rw [shn_add]; rfl

set_option maxHeartbeats 400000 in
theorem more_any (s : BitVec 32) (a : Option Addr) (l : List UInt8) (cap : Nat) (w : World) (hm : l.length ≤ 281474976710656) (hb : BytesAt w a l) :
    Calls Try.prog 30 #[.int .u32 s.toNat, .slice a l.length cap] w fun e w' => e = .returned (.int .u32 (more s l).toNat) ∧ w = w' := by
  have hsg : IntKind.u32.signed = false := rfl
  have HN := Lib.hid (bits_not s)
  go_enter Try.func30, Try.ntmps30
  go_wp2
  go_loop [5, 12] (fun r i => ∃ k : Nat, k ≤ l.length ∧ i = .int .i64 k ∧ r = .int .u32 (reg (~~~ s) (l.take k)).toNat) (fun _ i => l.length - (intOf i).toNat)
  case atStart => exact ⟨0, Nat.zero_le _, rfl, by rw [HN.out]; rfl⟩
  case round =>
    obtain ⟨k, hk, rfl, rfl⟩ := hrel
    by_cases hlt : k < l.length
    · obtain ⟨b, off, rfl, hc⟩ := hb (by intro e; rw [e] at hlt; simp at hlt)
      have hck := hc k hlt
      have HR := Lib.hid (reg_snoc (~~~ s) l k hlt)
      generalize hr : reg (~~~ s) (l.take k) = r at *
      generalize hcc : l[k] = c at *
      clear hc hb hr hcc
      have HX := Lib.hid (bits_ext r c)
      have hc1 := c.toNat_lt
      go_wp2
      go_loop [5, 20] (fun r' i => ∃ j : Nat, j ≤ 8 ∧ i = .int .i64 j ∧ r' = .int .u32 (shn j (r ^^^ ext c)).toNat) (fun _ i => 8 - (intOf i).toNat)
      case atStart => exact ⟨0, by omega, rfl, by rw [HX.out]; rfl⟩
      case round =>
        obtain ⟨j, hj, rfl, rfl⟩ := hrel
        by_cases hlt8 : j < 8
        · go_wp2_with (go_at_call 84; refine (shifted_any _ _).mono ?_; rintro e w' ⟨rfl, rfl⟩)
          go_round
          case rel => exact ⟨j + 1, by omega, by go_num, by rw [shn_succ']⟩
          case measure => simp [intOf]; omega
        · obtain rfl : j = 8 := by omega
          go_wp2
          go_round
          case rel => exact ⟨k + 1, by omega, by go_num, by rw [HR.out]⟩
          case measure => simp [intOf]; omega
    · obtain rfl : k = l.length := by omega
      rw [List.take_length]
      have HM := Lib.hid (bits_not (reg (~~~ s) l))
      go_wp2
      go_ret
      exact ⟨ret_val (by show Value.int IntKind.u32 _ = _; rw [HM.out]; rfl), rfl⟩

theorem sum_any (a : Option Addr) (l : List UInt8) (cap : Nat) (w : World) (hm : l.length ≤ 281474976710656) (hb : BytesAt w a l) :
    Calls Try.prog 27 #[.slice a l.length cap] w fun e w' => e = .returned (.int .u32 (crc l).toNat) ∧ w = w' := by
  have h0 := fun w => more_any 0#32 a l cap w hm
  have H := Lib.hid h0
  clear h0
  go_enter Try.func27, Try.ntmps27
  go_wp2_with (go_at_call 30; refine (H.out _ hb).mono ?_; rintro e w' ⟨rfl, rfl⟩)
  go_ret
  exact ⟨rfl, rfl⟩


theorem crc_digits : crc [49, 50, 51, 52, 53, 54, 55, 56, 57] = 0xe3069283#32 := by decide +kernel
theorem crc_noughts : crc (List.replicate 32 0) = 0x8a9136aa#32 := by decide +kernel


theorem tmod_lo (n m : Int) (h3 : 1 ≤ m) : -m < n.tmod m ∧ n.tmod m < m := by
  have h := Int.tmod_lt_of_pos n (show 0 < m by omega)
  have h2 := Int.lt_tmod_of_pos n (show 0 < m by omega)
  omega

theorem emod_of_tmod (n m : Int) (h3 : 1 ≤ m) : n % m = if n.tmod m < 0 then n.tmod m + m else n.tmod m := by
  have h := tmod_lo n m h3
  have hd := Int.mul_tdiv_add_tmod n m
  generalize hq : n.tdiv m = q at hd
  generalize hr : n.tmod m = r at *
  subst hd
  rw [Int.add_comm, Int.add_mul_emod_self_left]
  split
  · rw [← Int.add_emod_right, Int.emod_eq_of_lt] <;> omega
  · rw [Int.emod_eq_of_lt] <;> omega

set_option maxHeartbeats 400000 in
theorem count_any (n m : Int) (w : World) (h3 : 1 ≤ m) (h4 : m ≤ 4611686018427387904) :
    Calls Try.prog 26 #[.int .i64 n, .int .i64 m] w fun e w' => e = .returned (.int .i64 (n % m)) ∧ w = w' := by
  have hlo := (tmod_lo n m h3).1
  have hhi := (tmod_lo n m h3).2
  have H := Lib.hid (emod_of_tmod n m h3)
  by_cases h : n.tmod m < 0
  · go_enter Try.func26, Try.ntmps26
    go_wp2
    go_ret
    exact ⟨ret_val (by show Value.int _ _ = _; rw [H.out, if_pos h]), rfl⟩
  · go_enter Try.func26, Try.ntmps26
    go_wp2
    go_ret
    exact ⟨ret_val (by show Value.int _ _ = _; rw [H.out, if_neg (by omega)]), rfl⟩


theorem sum_n (a : Option Addr) (l : List UInt8) (n cap : Nat) (w : World) (hn : l.length = n) (hm : l.length ≤ 281474976710656) (hb : BytesAt w a l) :
    Calls Try.prog 27 #[.slice a n cap] w fun e w' => e = .returned (.int .u32 (crc l).toNat) ∧ w = w' := by
  subst hn; exact sum_any a l cap w hm hb

set_option maxHeartbeats 400000 in
set_option maxRecDepth 100000 in
theorem known_any (w : World) : Calls Try.prog 25 #[] w fun e w' => e = .returned (.bool true) ∧ Below w.heap.size w w' := by
  have kc := fun (w : World) (C : Array Value) (n c : Nat) => Lib.run_convert_bytes_const (P := Try.prog) w 22 5 C n c Try.underlying22 Try.underlying5
  have km : ∀ w : World, (Instr.makeSlice 22 (.int .i64 32) (.int .i64 32)).run Try.prog w = .ok (.slice (some ⟨w.heap.size, 0, none⟩) 32 32) (w.alloc (.cells (zerosV 32) 5)) := fun w => run_make_bytes w 32 (by decide)
  have c1 := Lib.hid crc_digits
  have c2 := Lib.hid crc_noughts
  go_enter Try.func25, Try.ntmps25
  go_wp2_with fail
  refine (sum_n _ [49, 50, 51, 52, 53, 54, 55, 56, 57] 9 _ _ rfl (by decide) (bytesAt_new _ _ _ _)).mono ?_
  rintro e w' ⟨rfl, rfl⟩
  rw [c1.out]
  go_wp2_with fail
  refine (sum_n _ (List.replicate 32 0) 32 _ _ (by rfl) (by decide) (by exact bytesAt_zeros' (by simp))).mono ?_
  rintro e w' ⟨rfl, rfl⟩
  rw [c2.out]
  go_wp2_with fail
  go_ret
  exact ⟨rfl, ((Below.refl _ _).alloc (Nat.le_refl _) _).alloc (by simp) _⟩

end Go.Proofs.Ytdinnkacilgmmaa
