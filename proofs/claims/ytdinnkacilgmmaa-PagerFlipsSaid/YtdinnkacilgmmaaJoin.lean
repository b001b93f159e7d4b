/- Joining sums: the product, the iterator over a number's powers of 2, and Join itself. -/
import Derived.Test.YtdinnkacilgmmaaCrc
import Derived.Test.YtdinnkacilgmmaaMath2
import Derived.Deep.LoopGhost
import Derived.RangeFuncBox
import Derived.RangeFuncCalls
import Derived.RangeFuncLeaves
import Derived.OwnWalkIn
import Derived.TacticsInMore
import Derived.LoopNIn
import Derived.LoopIn
import Derived.BigFrameIn
import Derived.BigGuardIn
namespace Go.Proofs.Ytdinnkacilgmmaa
open Go.RowKit

theorem top_bit (x : BitVec 32) : (((x.toNat : Int) / 2147483648) == 1) = x.getLsbD 31 := by
  have hlt := x.isLt
  have e : x.getLsbD 31 = decide (x.toNat / 2147483648 % 2 = 1) := by
    show x.toNat.testBit 31 = _
    rw [Nat.testBit_eq_decide_div_mod_eq]
  rw [e]
  by_cases h : x.toNat / 2147483648 = 1
  · simp [h]; omega
  · have h0 : x.toNat / 2147483648 = 0 := by omega
    simp [h0]; omega

theorem shl_one (x : BitVec 32) : ((x.toNat : Int) * (2 : Int) % (4294967296 : Int)) = ((x <<< 1).toNat : Int) := by
  rw [BitVec.toNat_shiftLeft]
  simp [Nat.shiftLeft_eq]

theorem pr_succ (n : Nat) (a b : BitVec 32) : pr (n + 1) a b = (if a.getLsbD 31 then b else 0#32) ^^^ pr n (a <<< 1) (sh b) := rfl

theorem shl_all (x : BitVec 32) (h : x <<< 32 ≠ 0#32) : False := by
  apply h; simp

set_option maxHeartbeats 400000 in
theorem product_any (a b : BitVec 32) (w : World) :
    Calls Try.prog 83 #[.int .u32 a.toNat, .int .u32 b.toNat] w fun e w' => e = .returned (.int .u32 (pr 32 a b).toNat) ∧ w = w' := by
  go_enter Try.func83, Try.ntmps83
  go_wp2
  go_loopg [0, 1, 5] 32 (fun k s0 s1 s5 wr => ∃ x y p : BitVec 32, s0 = .int .u32 x.toNat ∧ s1 = .int .u32 y.toNat ∧ s5 = .int .u32 p.toNat ∧ w = wr ∧ Hid (p ^^^ pr k x y = pr 32 a b) ∧ Hid (k = 0 → x = 0#32) ∧ Hid (k ≤ 32 ∧ x = a <<< (32 - k)))
  case atStart => exact ⟨a, b, 0#32, rfl, rfl, rfl, rfl, (by show _ = _; simp), (by intro h; cases h), ⟨by decide, by simp⟩⟩
  case round =>
    obtain ⟨x, y, p, rfl, rfl, rfl, rfl, H1, H2, H3⟩ := hrel
    have HT := Lib.hid (top_bit x)
    have HS := Lib.hid (shl_one x)
    by_cases hz : x = 0#32
    · subst hz
      have hz0 : (((0#32).toNat : Int) != 0) = false := rfl
      go_wp2
      go_ret
      refine ⟨ret_val ?_, rfl⟩
      show Value.int _ _ = _
      have := H1.out
      rw [pr_zero, BitVec.xor_zero] at this
      rw [this]
    · have hz0 : ((x.toNat : Int) != 0) = true := by
        rw [bne_iff_ne]; intro e; apply hz; exact BitVec.eq_of_toNat_eq (by simpa using e)
      have hgk : gk ≠ 0 := fun e => hz (H2.out e)
      obtain ⟨m, rfl⟩ : ∃ m, gk = m + 1 := ⟨gk - 1, by omega⟩
      have HN0 : Hid (m = 0 → x <<< 1 = 0#32) := by
        intro e
        subst e
        have h3 := H3.out.2
        rw [h3, ← BitVec.shiftLeft_add]
        simp
      have HN3 : Hid (m ≤ 32 ∧ x <<< 1 = a <<< (32 - m)) := by
        have h3 := H3.out
        refine ⟨by omega, ?_⟩
        rw [h3.2, ← BitVec.shiftLeft_add]
        congr 1
        omega
      clear hgk H2 H3
      cases hb : x.getLsbD 31 with
      | true =>
        have ht := HT.out
        rw [hb] at ht
        have HN1 : Hid (p ^^^ y ^^^ pr m (x <<< 1) (sh y) = pr 32 a b) := by
          have h1 := H1.out
          rw [pr_succ m, hb, if_pos rfl, ← BitVec.xor_assoc] at h1
          exact h1
        have HX := Lib.hid (bits_xor p y)
        clear hb HT H1
        go_wp2_with (go_at_call 84; refine (shifted_any _ _).mono ?_; rintro e w' ⟨rfl, rfl⟩)
        go_roundg m
        case measure => omega
        case rel => exact ⟨x <<< 1, sh y, p ^^^ y, by rw [HS.out], rfl, by rw [HX.out], rfl, HN1, HN0, HN3⟩
      | false =>
        have ht := HT.out
        rw [hb] at ht
        have HN1 : Hid (p ^^^ pr m (x <<< 1) (sh y) = pr 32 a b) := by
          have h1 := H1.out
          rw [pr_succ m, hb, if_neg (by decide), BitVec.zero_xor] at h1
          exact h1
        clear hb HT H1
        go_wp2_with (go_at_call 84; refine (shifted_any _ _).mono ?_; rintro e w' ⟨rfl, rfl⟩)
        go_roundg m
        case measure => omega
        case rel => exact ⟨x <<< 1, sh y, p, by rw [HS.out], rfl, rfl, rfl, HN1, HN0, HN3⟩

/-! ### the iterator -/

/-- which powers of 2 a number is made of, below k -/
def onesF (N : Nat) : Nat → List (Fin 64)
  | 0 => []
  | k + 1 => if h : N.testBit k = true ∧ k < 64 then onesF N k ++ [⟨k, h.2⟩] else onesF N k

theorem onesF_val (N k : Nat) (hk : k ≤ 64) : (onesF N k).map (·.val) = onesTo N k := by
  induction k with
  | zero => rfl
  | succ k ih =>
    rw [onesTo_succ]
    simp only [onesF]
    by_cases hb : N.testBit k = true
    · rw [dif_pos ⟨hb, by omega⟩, if_pos hb, List.map_append, ih (by omega)]; rfl
    · rw [dif_neg (by simp [hb]), if_neg hb, ih (by omega)]

theorem and_one_i64 (x : Nat) (h : x < 9223372036854775808) : (bits BinOp.and IntKind.i64 (x : Int) 1 == 1) = x.testBit 0 := by
  have e : bits BinOp.and IntKind.i64 (x : Int) 1 = ((x &&& 1 : Nat) : Int) := by
    show IntKind.i64.wrap ((BitVec.ofInt 64 (x : Int) &&& BitVec.ofInt 64 (1 : Int)).toNat : Int) = _
    rw [BitVec.toNat_and, show (BitVec.ofInt 64 (x : Int)).toNat = x by rw [BitVec.ofInt_natCast, BitVec.toNat_ofNat]; omega, show (BitVec.ofInt 64 (1 : Int)).toNat = 1 by decide]
    have h1 : x &&& 1 ≤ 1 := Nat.and_le_right
    rw [IntKind.wrap_i64]
    omega
  rw [e, Nat.and_one_is_mod]
  have h2 : x.testBit 0 = decide (x % 2 = 1) := by rw [Nat.testBit_zero]
  rw [h2]
  by_cases h3 : x % 2 = 1
  · simp [h3]
  · have : x % 2 = 0 := by omega
    simp [this]

theorem bit_n (N k : Nat) (hN : N < 9223372036854775808) : (bits BinOp.and IntKind.i64 ((N : Int) / 2 ^ k) 1 == 1) = N.testBit k := by
  have e : (N : Int) / 2 ^ k = ((N / 2 ^ k : Nat) : Int) := by simp
  have hle : N / 2 ^ k ≤ N := Nat.div_le_self _ _
  rw [e, and_one_i64 _ (by omega), Nat.testBit_zero]
  rw [Nat.testBit_eq_decide_div_mod_eq]

theorem onesF_length (N k : Nat) : (onesF N k).length ≤ k := by
  induction k with
  | zero => simp [onesF]
  | succ k ih =>
    simp only [onesF]
    split
    · simp; omega
    · omega

theorem testBit_high (N k j : Nat) (h : N / 2 ^ k = 0) (hj : k ≤ j) : N.testBit j = false := by
  have h1 : N < 2 ^ k := by
    rcases Nat.lt_or_ge N (2 ^ k) with h2 | h2
    · exact h2
    · have := Nat.div_pos h2 (Nat.two_pow_pos k); omega
  exact Nat.testBit_lt_two_pow (Nat.lt_of_lt_of_le h1 (Nat.pow_le_pow_right (by decide) hj))

theorem onesF_end (N k : Nat) (h : N / 2 ^ k = 0) (d : Nat) : onesF N (k + d) = onesF N k := by
  induction d with
  | zero => rfl
  | succ d ih =>
    have e : onesF N (k + (d + 1)) = (if h : N.testBit (k + d) = true ∧ k + d < 64 then onesF N (k + d) ++ [⟨k + d, h.2⟩] else onesF N (k + d)) := rfl
    rw [e, dif_neg (by rw [testBit_high N k (k + d) h (by omega)]; simp), ih]

attribute [local go_sem] Oper.semAt_some

/-- the box keeps what it holds -/
def KeepsAt (B : Nat) (W W' : World) : Prop := W'.cell? ⟨B, 0, none⟩ = W.cell? ⟨B, 0, none⟩

set_option maxRecDepth 100000 in
set_option maxHeartbeats 2000000 in
theorem ones1_in (F : Fence) (n : Nat) (hf : F.fn 121) (hro : F.round = none) (hn : 1 ≤ n) (l B N : Nat) (hN : N < 2 ^ 63) (J Jx : List (Fin 64) → World → Prop)
    (hY : ∀ pre x W, J pre W → pre.length < 64 → YieldAt F (n - 1) Try.prog l #[.int .i64 ((x.val : Nat) : Int)] W fun e W' =>
      (e = .returned (.bool true) ∧ J (pre ++ [x]) W' ∧ KeepsAt B W W') ∨ (e = .returned (.bool false) ∧ Jx (pre ++ [x]) W'))
    (W : World) (hB : W.cell? ⟨B, 0, none⟩ = some (.int .i64 (N : Int))) (h0 : J [] W) :
    CallsIn F n Try.prog 121 #[.func (.yield l) #[] #[], .pointer (some ⟨B, 0, none⟩)] W fun e W' => (∃ v, e = .returned v) ∧
      ((∃ ys, ys = onesF N 64 ∧ J ys W') ∨ (∃ pre, (∃ k, k ≤ 64 ∧ pre = onesF N k) ∧ Jx pre W')) := by
  refine callsIn_of_wp Try.func121 rfl hf ?_ hro
  simp only [Try.ntmps121, List.size_toArray, List.length_cons, List.length_nil, Nat.reduceAdd, Nat.reduceSub, Array.replicate_succ, Array.replicate_zero, List.push_toArray, List.append_toArray, List.nil_append, List.cons_append]
  gi_wp2
  gi_loopw [3] (fun i wr => ∃ k : Nat, k ≤ 63 ∧ i = .int .i64 k ∧ J (onesF N k) wr ∧ wr.cell? ⟨B, 0, none⟩ = some (.int .i64 (N : Int)))
    (fun i _ => 63 - (intOf i).toNat)
  case atStart => exact ⟨0, Nat.zero_le _, rfl, h0, hB⟩
  case round =>
    obtain ⟨k, hk, rfl, hJs, hBc⟩ := hrel
    by_cases hlt : 0 < N / 2 ^ k
    · have hk63 : k < 63 := by
        rcases Nat.lt_or_ge k 63 with h | h
        · exact h
        · have : N / 2 ^ k = 0 := Nat.div_eq_of_lt (Nat.lt_of_lt_of_le hN (Nat.pow_le_pow_right (by decide) h))
          omega
      have hpos : (0 : Int) < (N : Int) / 2 ^ k := by
        have : ((N / 2 ^ k : Nat) : Int) = (N : Int) / 2 ^ k := by simp
        omega
      have hbit := bit_n N k (by omega)
      have HL := Lib.hid (onesF_length N k)
      cases hb : N.testBit k with
      | true =>
        rw [hb] at hbit
        obtain ⟨fn, tmps, assign, body, hy, hR⟩ := hY _ ⟨k, by omega⟩ wr hJs (by have := HL.out; omega)
        have HS : Hid (onesF N (k + 1) = onesF N k ++ [⟨k, by omega⟩]) := by
          show (if h : N.testBit k = true ∧ k < 64 then _ else _) = _
          rw [dif_pos ⟨hb, by omega⟩]
        clear hb
        gi_wp2
        refine hR.mono ?_
        rintro e W3 (⟨rfl, hJ3, hk3⟩ | ⟨rfl, hJx3⟩)
        · have hB3 := hk3.trans hBc
          clear hk3
          gi_wp2
          go_roundw
          case rel => exact ⟨k + 1, by omega, by simp, by rw [HS.out]; exact hJ3, hB3⟩
          case measure => simp [intOf]; omega
        · gi_wp2
          refine bodyPost_ret (results_none rfl _ _ _) rfl ?_
          exact ⟨⟨_, rfl⟩, .inr ⟨_, ⟨k + 1, by omega, HS.out.symm⟩, hJx3⟩⟩
      | false =>
        rw [hb] at hbit
        have HS : Hid (onesF N (k + 1) = onesF N k) := by
          show (if h : N.testBit k = true ∧ k < 64 then _ else _) = _
          rw [dif_neg (by simp [hb])]
        clear hb
        gi_wp2
        refine ⟨(fun f h => by cases h), ?_⟩
        gi_wp2
        go_roundw
        case rel => exact ⟨k + 1, by omega, by simp, by rw [HS.out]; exact hJs, hBc⟩
        case measure => simp [intOf]; omega
    · have h0' : N / 2 ^ k = 0 := Nat.eq_zero_of_not_pos hlt
      have hz : (N : Int) / 2 ^ k = 0 := by
        have : ((N / 2 ^ k : Nat) : Int) = (N : Int) / 2 ^ k := by simp
        omega
      have HE : Hid (onesF N 64 = onesF N k) := by
        show _ = _
        have := onesF_end N k h0' (64 - k)
        rwa [show k + (64 - k) = 64 by omega] at this
      clear h0' hlt
      gi_wp2
      go_end0
      exact ⟨⟨_, rfl⟩, .inl ⟨_, rfl, by rw [HE.out]; exact hJs⟩⟩
end Go.Proofs.Ytdinnkacilgmmaa
