/- CrcTells. -/
import Derived.Test.YtdinnkacilgmmaaCrc
import Derived.Test.YtdinnkacilgmmaaLift
namespace Go.Proofs.Ytdinnkacilgmmaa
open Go.RowKit

/-- the bytes with the first i bits turned -/
def flips (a : List UInt8) (p : Nat) (bits : BitVec 32) : Nat → List UInt8
  | 0 => a
  | i + 1 => if p + i < 8 * a.length ∧ bits.getLsbD i = true then
      (flips a p bits i).set ((p + i) / 8) ((flips a p bits i).getD ((p + i) / 8) 0 ^^^ (1 <<< UInt8.ofNat ((p + i) % 8)))
    else flips a p bits i

theorem flips_length (a : List UInt8) (p : Nat) (bits : BitVec 32) (i : Nat) : (flips a p bits i).length = a.length := by
  induction i with
  | zero => rfl
  | succ i ih => simp only [flips]; split <;> simp [ih]

theorem flips_reg (a : List UInt8) (p : Nat) (bits : BitVec 32) (hp : p < 8 * a.length) (r : BitVec 32) (i : Nat) (hi : i ≤ 32) (hpi : p + i ≤ 8 * a.length) :
    reg r (flips a p bits i) = reg r a ^^^ shn (8 * a.length - p) (low i bits) := by
  induction i with
  | zero => simp [flips, low_zero, shn_zero]
  | succ i ih =>
    have ih := ih (by omega) (by omega)
    rw [low_succ i (by omega)]
    simp only [flips]
    by_cases hb : bits.getLsbD i = true
    · rw [if_pos ⟨by omega, hb⟩, if_pos hb]
      have hj : (p + i) / 8 < (flips a p bits i).length := by rw [flips_length]; omega
      have e := reg_flip r (flips a p bits i) ((p + i) / 8) ((p + i) % 8) hj (by omega)
      rw [List.getD_eq_getElem?_getD, List.getElem?_eq_getElem hj, Option.getD_some, e, ih, shn_xor, ← BitVec.xor_assoc, flips_length]
      congr 1
      rw [show 8 * a.length - (8 * ((p + i) / 8) + (p + i) % 8) = 8 * a.length - p - i by omega]
      rw [show shn (8 * a.length - p) (1#32 <<< i) = shn (i + (8 * a.length - p - i)) (1#32 <<< i) by rw [show i + (8 * a.length - p - i) = 8 * a.length - p by omega], shn_add, shn_pow i (by omega)]
    · rw [if_neg (by simp [hb]), if_neg hb, ih]

/-- a bit has been turned -/
def anyB (len p : Nat) (bits : BitVec 32) : Nat → Bool
  | 0 => false
  | i + 1 => anyB len p bits i || (decide (p + i < 8 * len) && bits.getLsbD i)

theorem anyB_low (len p : Nat) (bits : BitVec 32) (i : Nat) (hi : i ≤ 32) (h : p + i ≤ 8 * len) : anyB len p bits i = !(low i bits == 0#32) := by
  induction i with
  | zero => simp [anyB, low_zero]
  | succ i ih =>
    simp only [anyB]
    rw [ih (by omega) (by omega), low_succ i (by omega)]
    have hlt : p + i < 8 * len := by omega
    by_cases hb : bits.getLsbD i = true
    · rw [if_pos hb, hb]
      simp only [hlt, decide_true, Bool.and_true, Bool.or_true]
      have : low i bits ^^^ (1#32 <<< i) ≠ 0#32 := by
        intro e
        have := low_eq_zero i bits (by rw [low_succ i (by omega), if_pos hb, e])
        rw [hb] at this; cases this
      simp [this]
    · rw [if_neg hb]; simp [hb]

/-- turned bits are told -/
theorem tells (a : List UInt8) (p : Nat) (bits : BitVec 32) (hp : p < 8 * a.length) (i : Nat) (hi : i ≤ 32) (hpi : p + i ≤ 8 * a.length) :
    (crc a != crc (flips a p bits i)) = anyB a.length p bits i := by
  rw [anyB_low _ _ _ _ hi hpi]
  unfold crc more
  rw [flips_reg a p bits hp _ i hi hpi]
  by_cases h : low i bits = 0#32
  · rw [h, shn_zero]; simp
  · have hne : shn (8 * a.length - p) (low i bits) ≠ 0#32 := fun e => h (shn_inj0 _ _ e)
    have : ~~~ reg (~~~ 0#32) a ≠ ~~~ (reg (~~~ 0#32) a ^^^ shn (8 * a.length - p) (low i bits)) := by
      intro e
      apply hne
      have e2 := congrArg (fun x => ~~~ x) e
      simp only [BitVec.not_not] at e2
      have e3 := congrArg (fun x => reg (~~~ 0#32) a ^^^ x) e2
      simp only [BitVec.xor_self, ← BitVec.xor_assoc, BitVec.zero_xor] at e3
      exact e3.symm
    have h1 : (low i bits == 0#32) = false := by simpa using h
    rw [h1]
    simpa using this

theorem OwnB.cellAt {w : World} {B g n cap : Nat} {l : List UInt8} (h : OwnB w B (.slice (some ⟨g, 0, none⟩) n cap) l) (j : Nat) (hj : j < l.length) :
    w.cell? ⟨g, j, none⟩ = some (byteV l[j]) ∧ w.frozen? ⟨g, j, none⟩ = false := by
  have hn : n = l.length := by
    obtain ⟨a, cap', e, _⟩ := h.shape
    cases e; rfl
  subst hn
  refine ⟨?_, World.ownsRow.frozenAt h j⟩
  rw [World.ownsRow.cellAt h j (by omega), List.getElem?_map, List.getElem?_eq_getElem hj]; rfl

theorem u8_flip (c : UInt8) (m : Nat) (hm : m < 8) : bits BinOp.xor IntKind.u8 (c.toNat : Int) (2 ^ m % 256) = ((c ^^^ (1 <<< UInt8.ofNat m)).toNat : Int) := by
  have e : ((2 : Int) ^ m % 256) = (((1 : UInt8) <<< UInt8.ofNat m).toNat : Int) := by
    have : ∀ j, j < 8 → ((2 : Int) ^ j % 256) = (((1 : UInt8) <<< UInt8.ofNat j).toNat : Int) := by decide
    exact this m hm
  rw [e, u8_xor_nat _ _ c.toNat_lt (UInt8.toNat_lt _), UInt8.toNat_xor]

theorem flips_hit (l : List UInt8) (p : Nat) (bits : BitVec 32) (k : Nat) (h : p + k < 8 * l.length) (hb : bits.getLsbD k = true) (hj : (p + k) / 8 < (flips l p bits k).length) :
    flips l p bits (k + 1) = (flips l p bits k).set ((p + k) / 8) ((flips l p bits k)[(p + k) / 8] ^^^ (1 <<< UInt8.ofNat ((p + k) % 8))) := by
  simp only [flips]
  rw [if_pos ⟨h, hb⟩, List.getD_eq_getElem?_getD, List.getElem?_eq_getElem hj, Option.getD_some]

theorem bne_bv (x y : BitVec 32) : ((x.toNat : Int) != (y.toNat : Int)) = (x != y) := by
  by_cases h : x = y
  · subst h; simp
  · have : x.toNat ≠ y.toNat := fun e => h (BitVec.eq_of_toNat_eq e)
    have h1 : ((x.toNat : Int) != (y.toNat : Int)) = true := by rw [bne_iff_ne]; omega
    have h2 : (x != y) = true := by rw [bne_iff_ne]; exact h
    rw [h1, h2]

theorem OwnB.bytes {w : World} {B n cap : Nat} {a : Option Addr} {l : List UInt8} (h : OwnB w B (.slice a n cap) l) : l.length = n ∧ BytesAt w a l := by
  obtain ⟨a', cap', e, _, _, h1⟩ := h.shape
  cases e
  exact ⟨rfl, h1⟩

theorem bit_test (x : BitVec 32) (k : Nat) : (bits BinOp.and IntKind.u32 (↑x.toNat / 2 ^ k) 1 == 1) = x.getLsbD k := by
  have e2 : (x.toNat : Int) / 2 ^ k = ((x >>> k).toNat : Int) := by
    rw [BitVec.toNat_ushiftRight, Nat.shiftRight_eq_div_pow]; simp
  rw [e2, show (1 : Int) = (((1#32).toNat : Nat) : Int) from rfl, bits_and, bit0_and]
  have e3 : (x >>> k).getLsbD 0 = x.getLsbD k := by simp
  rw [e3]
  cases x.getLsbD k <;> rfl

set_option maxRecDepth 100000 in
set_option maxHeartbeats 1000000 in
theorem tells_walk (a : Option Addr) (l : List UInt8) (cap : Nat) (at0 : Int) (bits : BitVec 32) (w : World) (hm : l.length ≤ 140737488351232)
    (hb : BytesAt w a l) :
    Calls Try.prog 3 #[.slice a l.length cap, .int .i64 at0, .int .u32 bits.toNat] w fun e w' => e = .returned (.bool true) ∧ Below w.heap.size w w' := by
  by_cases h0 : l = []
  · subst h0
    have he : (((List.length ([] : List UInt8) : Nat) : Int) == 0) = true := rfl
    go_enter Try.func3, Try.ntmps3
    go_wp2_with (go_at_call 25; refine (known_any _).mono ?_; rintro e w' ⟨rfl, hbel⟩)
    go_ret
    exact ⟨rfl, by assumption⟩
  have hl0 : 0 < l.length := List.length_pos_iff.2 h0
  have he : ((l.length : Int) == 0) = false := by simp; omega
  by_cases hz : bits = 0#32
  · subst hz
    have hq : (((0#32).toNat : Int) == 0) = true := rfl
    go_enter Try.func3, Try.ntmps3
    go_wp2_with (go_at_call 25; refine (known_any _).mono ?_; rintro e w' ⟨rfl, hbel⟩)
    go_ret
    exact ⟨rfl, by assumption⟩
  have hq : ((bits.toNat : Int) == 0) = false := by
    simp
    intro e; apply hz; exact BitVec.eq_of_toNat_eq e
  have hpos : 0 ≤ at0 % (8 * (l.length : Int)) := Int.emod_nonneg _ (by omega)
  have hplt : at0 % (8 * (l.length : Int)) < 8 * (l.length : Int) := Int.emod_lt_of_pos _ (by omega)
  obtain ⟨p, hp⟩ : ∃ p : Nat, (p : Int) = at0 % (8 * (l.length : Int)) := ⟨(at0 % (8 * (l.length : Int))).toNat, by omega⟩
  have hplt' : p < 8 * l.length := by omega
  have HP := Lib.hid hp.symm
  clear hp hplt hpos
  have hsz : l.length * 8 < 9223372036854775807 := by omega
  have hao : a = none → cap = 0 := fun e => by obtain ⟨b, off, e2, _⟩ := hb h0; rw [e] at e2; cases e2
  go_enter Try.func3, Try.ntmps3
  go_wp2_with (first
    | (go_at_call 26; refine (count_any _ _ _ (by omega) (by omega)).mono ?_; rintro e w' ⟨rfl, rfl⟩; rw [HP.out])
    | (at_builtin; refine appB rfl _ _ rfl w.heap.size (.slice none 0 0) [] rfl (OwnB.nil _ _) _ _ _ _ rfl rfl hao hb (by simp; omega) (Nat.le_refl _) ?_; intro v1 w1 hown hmod _; rw [List.nil_append] at hown; obtain ⟨g, cap1, cur, rfl, hg, -⟩ := hown.row h0; have hbel := hmod.below (B := w.heap.size) (by intro k hk; simp [Value.ownBlock] at hk) (Nat.le_refl _); clear hmod))
  go_loopw [8, 9] (fun f i wr => ∃ k : Nat, k ≤ 32 ∧ p + k ≤ 8 * l.length ∧ i = .int .i64 k ∧ f = .bool (anyB l.length p bits k) ∧ OwnB wr w.heap.size (.slice (some ⟨g, 0, none⟩) l.length cap1) (flips l p bits k) ∧ Below w.heap.size w wr)
    (fun _ i _ => 32 - (intOf i).toNat)
  case atStart => exact ⟨0, by omega, by omega, rfl, rfl, hown, hbel⟩
  case round =>
    obtain ⟨k, hk, hpk, rfl, rfl, hown', hbel'⟩ := hrel
    by_cases hlt : k < 32
    · by_cases hin : p + k < 8 * l.length
      · clear hown hbel
        have hj : (p + k) / 8 < (flips l p bits k).length := by rw [flips_length]; omega
        obtain ⟨hc, hf⟩ := hown'.cellAt _ hj
        have ht := bit_test bits k
        generalize hcc : (flips l p bits k)[(p + k) / 8] = c at hc
        by_cases hbit : bits.getLsbD k = true
        · rw [hbit] at ht
          have HF := Lib.hid (flips_hit l p bits k hin hbit hj)
          have HC := Lib.hid hcc
          have HX := Lib.hid (u8_flip c ((p + k) % 8) (by omega))
          have HA : Hid (anyB l.length p bits (k + 1) = true) := by show anyB _ _ _ _ = _; simp only [anyB]; simp [hin, hbit]
          clear hcc hbit
          go_wp2
          go_roundw
          case rel =>
            refine ⟨k + 1, by omega, by omega, by go_num, by rw [HA.out], ?_, hbel'.setCell (by exact hg) _⟩
            rw [HF.out, HC.out, HX.out]
            exact hown'.store _ _
          case measure => simp [intOf]; omega
        · have hbit' : bits.getLsbD k = false := by simpa using hbit
          rw [hbit'] at ht
          have HF : Hid (flips l p bits (k + 1) = flips l p bits k) := by show flips _ _ _ _ = _; simp only [flips]; rw [if_neg (by simp [hbit'])]
          have HA : Hid (anyB l.length p bits (k + 1) = anyB l.length p bits k) := by show anyB _ _ _ _ = _; simp only [anyB]; simp [hbit']
          clear hcc hbit hbit'
          go_wp2
          go_roundw
          case rel => exact ⟨k + 1, by omega, by omega, by go_num, by rw [HA.out], by rw [HF.out]; exact hown', hbel'⟩
          case measure => simp [intOf]; omega
      · have hpk' : p + k = 8 * l.length := by omega
        have hT := tells l p bits hplt' k (by omega) (by omega)
        rw [← bne_bv] at hT
        obtain ⟨hlen, hbf⟩ := hown'.bytes
        have hbl : BytesAt wr a l := hb.below hbel' (fun x e hl => by subst e; exact hb.lt hl)
        generalize hff : flips l p bits k = f at *
        generalize anyB l.length p bits k = tt at *
        have hbig : f.length ≤ 281474976710656 := by omega
        have hbig2 : l.length ≤ 281474976710656 := by omega
        have HLEN := Lib.hid hlen
        clear hff hlen
        go_wp2_with fail
        refine (sum_any a l cap _ hbig2 hbl).mono ?_
        rintro e w' ⟨rfl, rfl⟩
        go_wp2_with fail
        refine (sum_n _ f l.length cap1 _ HLEN.out hbig hbf).mono ?_
        rintro e w' ⟨rfl, rfl⟩
        go_wp2_with (go_at_call 25; refine (known_any _).mono ?_; rintro e w' ⟨rfl, hbk⟩)
        go_ret
        exact ⟨rfl, hbel'.trans (hbk.mono hbel'.size)⟩
    · obtain rfl : k = 32 := by omega
      have hT := tells l p bits hplt' 32 (by omega) (by omega)
      rw [← bne_bv] at hT
      obtain ⟨hlen, hbf⟩ := hown'.bytes
      have hbl : BytesAt wr a l := hb.below hbel' (fun x e hl => by subst e; exact hb.lt hl)
      generalize hff : flips l p bits 32 = f at *
      generalize anyB l.length p bits 32 = tt at *
      have hbig : f.length ≤ 281474976710656 := by omega
      have hbig2 : l.length ≤ 281474976710656 := by omega
      have HLEN := Lib.hid hlen
      clear hff hlen
      go_wp2_with fail
      refine (sum_any a l cap _ hbig2 hbl).mono ?_
      rintro e w' ⟨rfl, rfl⟩
      go_wp2_with fail
      refine (sum_n _ f l.length cap1 _ HLEN.out hbig hbf).mono ?_
      rintro e w' ⟨rfl, rfl⟩
      go_wp2_with (go_at_call 25; refine (known_any _).mono ?_; rintro e w' ⟨rfl, hbk⟩)
      go_ret
      exact ⟨rfl, hbel'.trans (hbk.mono hbel'.size)⟩

theorem u32_of_wf {n : Int} (h : (Lit.int .u32 n).wf = true) : ∃ x : BitVec 32, n = x.toNat := by
  have hb := bounds_u32 h
  refine ⟨BitVec.ofNat 32 n.toNat, ?_⟩
  rw [BitVec.toNat_ofNat]
  omega

theorem tells_all (W : World) {v : Value} {l : List UInt8} (o0 : RdB W v l) {a1 : Int} (_w1 : (Lit.int .i64 a1).wf = true) {a2 : Int} (w2 : (Lit.int .u32 a2).wf = true) :
    Calls Try.prog 3 #[v, .int .i64 a1, .int .u32 a2] W fun e w' => e = .returned (.bool true) ∧ Below W.heap.size W w' := by
  obtain ⟨a, cap, rfl, hb, hao, hm, _⟩ := o0
  obtain ⟨x, rfl⟩ := u32_of_wf w2
  exact tells_walk a l cap a1 x W hm hb
end Go.Proofs.Ytdinnkacilgmmaa
