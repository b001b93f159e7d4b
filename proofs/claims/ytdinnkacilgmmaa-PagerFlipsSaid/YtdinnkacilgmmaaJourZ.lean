/- The journal. -/
import Derived.Test.YtdinnkacilgmmaaSepZ
import Derived.IntWalk
import Derived.Test.YtdinnkacilgmmaaOrd
import Derived.Test.YtdinnkacilgmmaaRDiskZ
namespace Go.Proofs.Ytdinnkacilgmmaa
open Go.RowKit

/-- the number of bytes, the lowest first -/
def unle : List UInt8 → Nat
  | [] => 0
  | c :: r => c.toNat + 256 * unle r
/-- so many bytes of a number, the lowest first -/
def le : Nat → Nat → List UInt8
  | 0, _ => []
  | k + 1, n => UInt8.ofNat n :: le k (n / 256)

theorem le_length (k n : Nat) : (le k n).length = k := by
  induction k generalizing n with
  | zero => rfl
  | succ k ih => simp [le, ih]
theorem unle_le (k n : Nat) : unle (le k n) = n % 256 ^ k := by
  induction k generalizing n with
  | zero => simp [le, unle, Nat.mod_one]
  | succ k ih =>
    simp only [le, unle, ih]
    rw [UInt8.toNat_ofNat', show (2 : Nat) ^ 8 = 256 from rfl, Nat.pow_succ, Nat.mul_comm (256 ^ k) 256, Nat.mod_mul]
theorem unle_lt (l : List UInt8) : unle l < 256 ^ l.length := by
  induction l with
  | nil => simp [unle]
  | cons c r ih =>
    simp only [unle, List.length_cons, Nat.pow_succ]
    have := c.toNat_lt
    have h : unle r + 1 ≤ 256 ^ r.length := ih
    omega
theorem unle_snoc (l : List UInt8) (c : UInt8) : unle (l ++ [c]) = unle l + 256 ^ l.length * c.toNat := by
  induction l with
  | nil => simp [unle]
  | cons d r ih =>
    simp only [List.cons_append, unle, ih, List.length_cons, Nat.pow_succ]
    rw [Nat.mul_add, ← Nat.mul_assoc, Nat.mul_comm 256 (256 ^ r.length)]
    omega
theorem le_snoc (k n : Nat) : le (k + 1) n = le k n ++ [UInt8.ofNat (n / 256 ^ k)] := by
  induction k generalizing n with
  | zero => simp [le]
  | succ k ih =>
    rw [le, ih, le, Nat.div_div_eq_div_mul, Nat.pow_succ, Nat.mul_comm 256]
    rfl

theorem bits_or_u64 (x y : Nat) (hx : x < 18446744073709551616) (hy : y < 18446744073709551616) : bits .or .u64 (x : Int) (y : Int) = ((x ||| y : Nat) : Int) := by
  show IntKind.u64.wrap ((BitVec.ofInt 64 (x : Int) ||| BitVec.ofInt 64 (y : Int)).toNat : Int) = _
  rw [BitVec.ofInt_natCast, BitVec.ofInt_natCast, BitVec.toNat_or, BitVec.toNat_ofNat, BitVec.toNat_ofNat, Nat.mod_eq_of_lt (by omega), Nat.mod_eq_of_lt (by omega)]
  have : x ||| y < 2 ^ 64 := Nat.or_lt_two_pow (by omega) (by omega)
  rw [IntKind.wrap_u64]
  omega

theorem pow_256 (i : Nat) : (256 : Nat) ^ i = 2 ^ (8 * i) := by rw [Nat.pow_mul]

theorem back_step (i x : Nat) (c : UInt8) (hi : i < 8) (hx : x < 256 ^ i) : bits .or .u64 (x : Int) (IntKind.u64.wrap (IntKind.u64.wrap (c.toNat : Int) * 2 ^ (8 * i))) = ((x + 256 ^ i * c.toNat : Nat) : Int) := by
  have hc := c.toNat_lt
  have h64 : c.toNat * 2 ^ (8 * i) < 18446744073709551616 := by
    have h1 : c.toNat * 2 ^ (8 * i) < 2 ^ 8 * 2 ^ (8 * i) := Nat.mul_lt_mul_of_pos_right (by omega) (Nat.two_pow_pos _)
    rw [← Nat.pow_add] at h1
    have h2 : (2 : Nat) ^ (8 + 8 * i) ≤ 2 ^ 64 := Nat.pow_le_pow_right (by decide) (by omega)
    omega
  have hx64 : x < 18446744073709551616 := by
    rw [pow_256] at hx
    have h2 : (2 : Nat) ^ (8 * i) ≤ 2 ^ 64 := Nat.pow_le_pow_right (by decide) (by omega)
    omega
  rw [IntWalk.u64_in (c.toNat : Int) (by omega)]
  have e : ((c.toNat : Int) * 2 ^ (8 * i)) = ((c.toNat * 2 ^ (8 * i) : Nat) : Int) := by rw [Int.natCast_mul, Int.natCast_pow]; rfl
  rw [e, IntWalk.u64_in _ (by omega), bits_or_u64 _ _ hx64 h64]
  congr 1
  rw [pow_256] at hx ⊢
  rw [Nat.mul_comm c.toNat, Nat.or_comm, ← Nat.two_pow_add_eq_or_of_lt hx, Nat.add_comm]

set_option maxRecDepth 100000 in
theorem back_any (a : Option Addr) (l : List UInt8) (cap : Nat) (w : World) (hb : BytesAt w a l) (hl : l.length ≤ 8) :
    Calls Try.prog 123 #[.slice a l.length cap] w fun e w' => e = .returned (.int .u64 (unle l : Int)) ∧ w = w' := by
  go_enter Try.func123, Try.ntmps123
  go_wp2_with fail
  go_loop [3, 8] (fun v3 v8 => ∃ i : Nat, i ≤ l.length ∧ v8 = .int .i64 (i : Int) ∧ v3 = .int .u64 (unle (l.take i) : Int)) (fun _ v8 => l.length - (intOf v8).toNat)
  case atStart => exact ⟨0, Nat.zero_le _, rfl, rfl⟩
  case round =>
    obtain ⟨i, hi, rfl, rfl⟩ := hrel
    by_cases hlt : i < l.length
    · have hlt' : (i : Int) < (l.length : Int) := by omega
      obtain ⟨b, off, rfl, hc⟩ := hb (by intro e; rw [e] at hlt; simp at hlt)
      have xc := hc i hlt
      have hx := unle_lt (l.take i)
      rw [List.length_take, Nat.min_eq_left hi] at hx
      have hst := back_step i (unle (l.take i)) l[i] (by omega) hx
      have hsn : unle (l.take (i + 1)) = unle (l.take i) + 256 ^ i * l[i].toNat := by
        rw [List.take_succ_eq_append_getElem hlt, unle_snoc, List.length_take, Nat.min_eq_left hi]
      have HST := Lib.hid hst
      have HSN := Lib.hid hsn
      clear hst hsn hx hb hc
      generalize l[i] = c at *
      go_wp2_with fail
      go_round
      case rel => exact ⟨i + 1, by omega, by go_num, by rw [HST.out, HSN.out]⟩
      case measure => simp [intOf]; omega
    · obtain rfl : i = l.length := by omega
      rw [List.take_length]
      go_wp2
      go_ret
      exact ⟨rfl, rfl⟩

theorem splice_le_set (l : List UInt8) (off i n : Nat) (h : off + i < l.length) : (splice l off (le i n)).set (off + i) (UInt8.ofNat (n / 256 ^ i)) = splice l off (le (i + 1) n) := by
  have hl := length_splice l off (le i n) (by rw [le_length]; omega)
  apply List.ext_getElem?
  intro j
  rw [List.getElem?_set]
  unfold splice
  simp only [le_snoc, List.append_assoc, List.length_append, List.length_take, le_length, List.length_cons, List.length_nil, List.length_drop, List.getElem?_append, List.getElem?_drop, Nat.min_eq_left (show off ≤ l.length by omega)]
  by_cases e : off + i = j
  · subst e
    rw [if_pos rfl, if_pos (by omega), if_neg (by omega), if_neg (by omega), if_pos (by omega)]
    simp
  · rw [if_neg e]
    by_cases h1 : j < off
    · rw [if_pos h1, if_pos h1]
    · rw [if_neg h1, if_neg h1]
      by_cases h2 : j - off < i
      · rw [if_pos h2, if_pos h2]
      · rw [if_neg h2, if_neg h2, if_neg (by omega)]
        congr 1
        omega

theorem byte_u64 (n i : Nat) : (n : Int) / 2 ^ (8 * i) % 256 = ((UInt8.ofNat (n / 256 ^ i)).toNat : Int) := by
  rw [UInt8.toNat_ofNat', pow_256, show (2 : Int) ^ (8 * i) = ((2 ^ (8 * i) : Nat) : Int) by rw [Int.natCast_pow]; rfl, ← Int.natCast_ediv]
  generalize n / 2 ^ (8 * i) = m
  omega

set_option maxRecDepth 100000 in
theorem little_any {w : World} {B g n0 cap0 : Nat} {l : List UInt8} (ho : OwnB w B (.slice (some ⟨g, 0, none⟩) n0 cap0) l) (off k cap : Nat) (hk : k ≤ 8) (hf : off + k ≤ l.length) (n : Nat) :
    Calls Try.prog 98 #[.slice (some ⟨g, off, none⟩) k cap, .int .u64 (n : Int)] w fun e w' => e = .returned (.tuple #[]) ∧ OwnB w' B (.slice (some ⟨g, 0, none⟩) n0 cap0) (splice l off (le k n)) ∧ Mod (fun j => j = g) w w' := by
  go_enter Try.func98, Try.ntmps98
  go_wp2_with fail
  go_loopw [7] (fun v7 wr => ∃ i : Nat, i ≤ k ∧ v7 = .int .i64 (i : Int) ∧ OwnB wr B (.slice (some ⟨g, 0, none⟩) n0 cap0) (splice l off (le i n)) ∧ Mod (fun j => j = g) w wr) (fun v7 _ => k - (intOf v7).toNat)
  case atStart => exact ⟨0, Nat.zero_le _, rfl, by simpa [le, splice] using ho, Mod.refl _ _⟩
  case round =>
    obtain ⟨i, hi, rfl, hr, hm⟩ := hrel
    by_cases hlt : i < k
    · have hlt' : (i : Int) < (k : Int) := by omega
      have hlen := length_splice l off (le i n) (by rw [le_length]; omega)
      obtain ⟨x0, x1⟩ := hr.cellAt (off + i) (by rw [hlen]; omega)
      have hst := hr.store (off + i) (UInt8.ofNat (n / 256 ^ i))
      rw [splice_le_set l off i n (by omega)] at hst
      have hbu := byte_u64 n i
      have HST := Lib.hid hst
      have HBU := Lib.hid hbu
      generalize (splice l off (le i n))[off + i] = c0 at *
      clear hst hbu hlen hr ho
      go_wp2_with fail
      go_roundw
      case rel =>
        refine ⟨i + 1, by omega, by go_num, ?_, ?_⟩
        · rw [HBU.out]; exact HST.out
        · exact hm.trans (Mod.setCell (F := fun j => j = g) _ _ _ rfl) (fun _ _ e => e)
      case measure => simp [intOf]; omega
    · obtain rfl : i = k := by omega
      go_wp2
      go_end0
      exact ⟨rfl, hr, hm⟩
end Go.Proofs.Ytdinnkacilgmmaa
namespace Go.Proofs.Ytdinnkacilgmmaa
open Go.RowKit

/-- a sector's bytes behind its sum -/
def body (s : Nat) (f : UInt8) (p : List UInt8) : List UInt8 := le 8 s ++ [f, UInt8.ofNat p.length] ++ p ++ List.replicate (242 - p.length) 0
def secB (s : Nat) (f : UInt8) (p : List UInt8) : List UInt8 := le 4 (crc (body s f p)).toNat ++ body s f p
theorem body_length (s : Nat) (f : UInt8) (p : List UInt8) (h : p.length ≤ 242) : (body s f p).length = 252 := by
  simp [body, le_length]; omega
theorem secB_length (s : Nat) (f : UInt8) (p : List UInt8) (h : p.length ≤ 242) : (secB s f p).length = 256 := by
  simp [secB, le_length, body_length s f p h]

theorem zeros_split (n : Nat) (h : n ≤ 256) : List.replicate 256 (0 : UInt8) = List.replicate n 0 ++ List.replicate (256 - n) 0 := by
  rw [List.replicate_append_replicate]; congr 1; omega

/-- the row while it is being filled -/
theorem fill_steps (s : Nat) (f : UInt8) (p : List UInt8) (h : p.length ≤ 242) :
    splice (((splice (List.replicate 256 0) 4 (le 8 s)).set 12 f).set 13 (UInt8.ofNat p.length)) 14 p = List.replicate 4 0 ++ body s f p := by
  have e1 : splice (List.replicate 256 (0 : UInt8)) 4 (le 8 s) = List.replicate 4 0 ++ le 8 s ++ List.replicate 244 0 := by
    unfold splice
    rw [le_length, List.take_replicate, List.drop_replicate]
    show List.replicate 4 0 ++ (le 8 s ++ List.replicate 244 0) = _
    rw [List.append_assoc]
  have e2 : (List.replicate 4 (0 : UInt8) ++ le 8 s).length = 12 := by simp [le_length]
  rw [e1]
  generalize hA : List.replicate 4 (0 : UInt8) ++ le 8 s = A at *
  have e3 : ((A ++ List.replicate 244 0).set 12 f).set 13 (UInt8.ofNat p.length) = A ++ [f, UInt8.ofNat p.length] ++ List.replicate 242 0 := by
    rw [List.set_append_right _ _ (by omega), List.set_append_right _ _ (by omega), e2]
    rw [List.append_assoc]
    rfl
  rw [e3]
  unfold splice body
  rw [List.take_append_of_le_length (by simp [e2]), List.take_of_length_le (by simp [e2])]
  rw [List.drop_append, List.drop_of_length_le (by simp [e2])]
  simp only [List.length_append, e2, List.length_cons, List.length_nil, List.drop_replicate, List.nil_append, List.append_assoc]
  rw [← List.append_assoc (List.replicate 4 0), hA]
  simp only [List.cons_append, List.nil_append]
  congr 5
  omega

theorem fill_sum (s : Nat) (f : UInt8) (p : List UInt8) : splice (List.replicate 4 0 ++ body s f p) 0 (le 4 (crc (body s f p)).toNat) = secB s f p := by
  unfold splice secB
  rw [le_length, List.take_zero, List.nil_append]
  congr 1

set_option maxHeartbeats 1000000 in
set_option maxRecDepth 100000 in
theorem jsector_any {w : World} (s : Nat) (hs : s < 9223372036854775808) (f : UInt8) (a : Option Addr) (p : List UInt8) (cap : Nat) (hp : p.length ≤ 242) (hb : BytesAt w a p) (C : Nat) (hC : C ≤ w.heap.size) :
    Calls Try.prog 101 #[.int .i64 (s : Int), .int .u8 (f.toNat : Int), .slice a p.length cap] w fun e w' => ∃ v, e = .returned v ∧ OwnB w' C v (secB s f p) ∧ Mod (fun _ => False) w w' ∧ (∀ k, v.ownBlock = some k → w.heap.size ≤ k) := by
  have km : ∀ w : World, (Instr.makeSlice 22 (.int .i64 256) (.int .i64 256)).run Try.prog w = .ok (.slice (some ⟨w.heap.size, 0, none⟩) 256 256) (w.alloc (.cells (zerosV 256) 5)) := fun w => run_make_bytes w 256 (by decide)
  obtain ⟨W1, hW1⟩ : ∃ W1, W1 = w.alloc (.cells (zerosV 256) 5) := ⟨_, rfl⟩
  obtain ⟨g, hg⟩ : ∃ g, g = w.heap.size := ⟨_, rfl⟩
  have o1 : OwnB W1 g (.slice (some ⟨g, 0, none⟩) 256 256) (List.replicate 256 0) := by
    have := OwnB.made w g (List.replicate 256 0) (zerosV 256) rfl (by omega) (by rw [List.length_replicate]; decide)
    rw [List.length_replicate] at this
    rw [hW1, hg]
    rw [hg] at this
    exact this
  have m1 : Mod (fun _ => False) w W1 := by rw [hW1]; exact Mod.alloc _ _ _
  have hsz : g < W1.heap.size := by rw [hW1, hg]; simp
  have km2 : (Instr.makeSlice 22 (.int .i64 256) (.int .i64 256)).run Try.prog w = .ok (.slice (some ⟨g, 0, none⟩) 256 256) W1 := by rw [hW1, hg]; exact km w
  have HC := Lib.hid hC
  have HG := Lib.hid hg
  clear km hW1 hg hC
  have O1 := Lib.hid o1
  clear o1
  go_enter Try.func101, Try.ntmps101
  go_wp2_with fail
  refine (little_any O1.out 4 8 _ (by decide) (by rw [List.length_replicate]; decide) s).mono ?_
  rintro e w2 ⟨rfl, o2, m2⟩
  have hl2 : (splice (List.replicate 256 (0 : UInt8)) 4 (le 8 s)).length = 256 := by rw [length_splice _ _ _ (by rw [le_length, List.length_replicate]; decide), List.length_replicate]
  have x12 := o2.cellAt 12 (by omega)
  have x13 := o2.cellAt 13 (by omega)
  have o3 := (o2.store 12 f).store 13 (UInt8.ofNat p.length)
  have O3 := Lib.hid o3
  have HL2 := Lib.hid hl2
  obtain ⟨y0, y1⟩ := x12
  obtain ⟨z0, z1⟩ := x13
  generalize (splice (List.replicate 256 (0 : UInt8)) 4 (le 8 s))[12] = c12 at *
  generalize (splice (List.replicate 256 (0 : UInt8)) 4 (le 8 s))[13] = c13 at *
  clear o2 o3 hl2
  have hpl : (p.length : Int) ≤ 242 := by omega
  go_wp2_with fail
  have hbv : Value.int .u8 (p.length : Int) = byteV (UInt8.ofNat p.length) := by
    show _ = Value.int .u8 ((UInt8.ofNat p.length).toNat : Int)
    rw [UInt8.toNat_ofNat']
    congr 1
    omega
  obtain ⟨W3, hW3⟩ : ∃ W3, W3 = (w2.setCell ⟨g, 12, none⟩ (.int .u8 (f.toNat : Int))).setCell ⟨g, 13, none⟩ (.int .u8 (p.length : Int)) := ⟨_, rfl⟩
  rw [← hW3]
  have o3 := O3.out
  rw [show (byteV f) = Value.int .u8 (f.toNat : Int) from rfl, ← hbv, ← hW3] at o3
  have m3 : Mod (fun _ => False) w W3 := by
    have hm : Mod (fun j => j = g) w2 W3 := by rw [hW3]; exact (Mod.setCell (F := fun j => j = g) _ _ _ rfl).trans' (Mod.setCell (F := fun j => j = g) _ _ _ rfl)
    exact (m1.trans m2 (fun j hj e => by have := HG.out; omega)).trans hm (fun j hj e => by have := HG.out; omega)
  have hb3 := hb.mod m3 (fun _ _ _ => id)
  have hl3 : (((splice (List.replicate 256 0) 4 (le 8 s)).set 12 f).set 13 (UInt8.ofNat p.length)).length = 256 := by rw [List.length_set, List.length_set]; exact HL2.out
  obtain ⟨g', cap', cur, eg, -, hg3, -, -, hsz3, -⟩ := o3.row (by intro e; rw [e] at hl3; cases hl3)
  cases eg
  obtain ⟨w4, hrun, hw4, hm4⟩ := copy_run (w := W3) 3 g 14 242 242 a p.length cap p rfl hp hb3 cur 5 hg3 (by rw [hsz3]; omega)
  rw [hrun]
  clear hrun
  have o4 := OwnB.laid o3 hg3 hw4 (by rw [hl3]; omega)
  rw [fill_steps s f p hp] at o4
  have m4 : Mod (fun _ => False) w w4 := m3.trans hm4 (fun j hj e => by have := HG.out; omega)
  have hbl := body_length s f p hp
  have hbs := (OwnB.bytes o4).2.sub 4 252
  rw [Nat.zero_add, show ((List.replicate 4 (0 : UInt8) ++ body s f p).drop 4).take 252 = body s f p by rw [List.drop_left' (by rw [List.length_replicate]), List.take_of_length_le (by omega)]] at hbs
  have O4 := Lib.hid o4
  have HBS := Lib.hid hbs
  have HBL := Lib.hid hbl
  have HM4 := Lib.hid m4
  clear o3 o4 hbs hbl hw4 hm4 hg3 hsz3 hl3 hb3 m3 m4 hW3 hbv m1 m2 y0 y1 z0 z1 hb O3
  go_upto_region 5 with fail
  have md : Mod (fun _ => False) w4 w4.drew := Mod.drew _ _
  have hwq : IntKind.u64.wrap ((crc (body s f p)).toNat : Int) = ((crc (body s f p)).toNat : Int) := IntWalk.u64_in _ (by have := (crc (body s f p)).isLt; omega)
  go_region_held3 (fun _ => True) (trivial)
    (first
      | (go_at_call 27; refine (sum_n (some ⟨g, 4, none⟩) (body s f p) 252 252 _ HBL.out (by rw [HBL.out]; decide) (HBS.out.mod md (fun _ _ _ => id))).mono ?_; rintro e w' ⟨rfl, rfl⟩)
      | (go_at_call 98; refine (little_any (O4.out.mod md (fun _ _ => id)) 0 4 256 (by decide) (by rw [List.length_append]; simp) (crc (body s f p)).toNat).mono ?_; rintro e w6 ⟨rfl, o6, m6⟩))
  rw [fill_sum] at o6
  have O6 := Lib.hid o6
  have M6 := Lib.hid m6
  clear o6 m6
  go_wp2
  go_ret
  exact ⟨_, rfl, O6.out.weaken (by rw [HG.out]; exact HC.out), (HM4.out.trans' md).trans M6.out (fun j hj e => by have := HG.out; omega), fun k hk => by simp [Value.ownBlock] at hk; have := HG.out; omega⟩
end Go.Proofs.Ytdinnkacilgmmaa
namespace Go.Proofs.Ytdinnkacilgmmaa
open Go.RowKit

/-- a ring of a disk's sectors -/
structure Jr where
  frm : Nat
  size : Nat
  start : Nat
  next : Nat
  dead : Bool
def Jr.place (J : Jr) (s : Nat) : Nat := J.frm + (s - 1) % J.size

/-- a journal in memory: block q -/
def JAt (w : World) (q p : Nat) (J : Jr) : Prop :=
  w.heap[q]? = some (.cells #[.pointer (some ⟨p, 0, none⟩), .int .i64 (J.frm : Int), .int .i64 (J.size : Int), .int .i64 (J.start : Int), .int .i64 (J.next : Int), .bool J.dead] 137 (0, 0))

theorem JAt.cell {w : World} {q p : Nat} {J : Jr} (h : JAt w q p J) : w.cell? ⟨q, 0, none⟩ = some (.pointer (some ⟨p, 0, none⟩)) ∧ w.cell? ⟨q, 1, none⟩ = some (.int .i64 (J.frm : Int)) ∧ w.cell? ⟨q, 2, none⟩ = some (.int .i64 (J.size : Int)) ∧
    w.cell? ⟨q, 3, none⟩ = some (.int .i64 (J.start : Int)) ∧ w.cell? ⟨q, 4, none⟩ = some (.int .i64 (J.next : Int)) ∧ w.cell? ⟨q, 5, none⟩ = some (.bool J.dead) := by
  have hc := fun j => cell_of_row w q j _ 137 (0, 0) h
  exact ⟨hc 0, hc 1, hc 2, hc 3, hc 4, hc 5⟩
theorem JAt.mod {F : Nat → Prop} {w w' : World} {q p : Nat} {J : Jr} (h : JAt w q p J) (hm : Mod F w w') (hq : ¬ F q) : JAt w' q p J := hm.obj h hq

set_option maxRecDepth 100000 in
theorem place_any {w : World} {q p : Nat} {J : Jr} (h : JAt w q p J) (s : Nat) (hs1 : 1 ≤ s) (hs2 : s ≤ 2305843009213693952) (hf : J.frm ≤ 4096) (hz1 : 1 ≤ J.size) (hz2 : J.size ≤ 4096) :
    Calls Try.prog 100 #[.pointer (some ⟨q, 0, none⟩), .int .i64 (s : Int)] w fun e w' => e = .returned (.int .i64 (J.place s : Int)) ∧ Mod (fun _ => False) w w' := by
  obtain ⟨-, c1, c2, -⟩ := h.cell
  have hp : (J.place s : Int) = (J.frm : Int) + (((s - 1) % J.size : Nat) : Int) := by unfold Jr.place; omega
  have hlt : (s - 1) % J.size < J.size := Nat.mod_lt _ (by omega)
  have e1 : ((s : Int) - 1).tmod (J.size : Int) = (((s - 1) % J.size : Nat) : Int) := by
    rw [show (s : Int) - 1 = ((s - 1 : Nat) : Int) by omega]; rfl
  obtain ⟨r, hr⟩ : ∃ r : Nat, r = (s - 1) % J.size := ⟨_, rfl⟩
  rw [← hr] at hp hlt e1
  have HP := Lib.hid hp
  have n1 : ¬ (J.size = 0) := by omega
  have w1 : IntKind.i64.wrap ((s : Int) - 1) = (s : Int) - 1 := IntWalk.i64_in _ (by omega)
  have w2 : IntKind.i64.wrap ((r : Nat) : Int) = (r : Int) := IntWalk.i64_in _ (by omega)
  have w3 : IntKind.i64.wrap ((J.frm : Int) + (r : Int)) = (J.frm : Int) + (r : Int) := IntWalk.i64_in _ (by omega)
  clear hp hr
  go_enter Try.func100, Try.ntmps100
  go_wp2_with fail
  go_region_held3 (fun w' => w'.cell? ⟨q, 1, none⟩ = some (.int .i64 (J.frm : Int)) ∧ w'.cell? ⟨q, 2, none⟩ = some (.int .i64 (J.size : Int))) (refine ⟨?_, ?_⟩ <;> simpa using (by assumption)) (fail)
  go_wp2
  go_ret
  exact ⟨ret_val (by show Value.int _ _ = _; rw [HP.out]), Mod.drew _ _⟩

/-- what a sector that is right holds: its flags, its piece -/
def right (b : List UInt8) (s : Nat) : Option (UInt8 × List UInt8) :=
  if unle (b.take 4) = (crc (b.drop 4)).toNat ∧ unle ((b.drop 4).take 8) = s ∧ b.getD 12 0 ≤ 3 ∧ 1 ≤ b.getD 13 0 ∧ b.getD 13 0 ≤ 242 then some (b.getD 12 0, (b.drop 14).take (b.getD 13 0).toNat) else none

/-- what 'at' answers -/
def AtSaid (o : Option (UInt8 × List UInt8)) (H : Nat) (e : Ending) (w' : World) : Prop :=
  (o = none ∧ e = .returned (.tuple #[.int .u8 0, .slice none 0 0, .bool false])) ∨
  ∃ f pc g, o = some (f, pc) ∧ e = .returned (.tuple #[.int .u8 (f.toNat : Int), .slice (some ⟨g, 14, none⟩) pc.length pc.length, .bool true]) ∧ BytesAt w' (some ⟨g, 14, none⟩) pc ∧ H ≤ g

set_option maxHeartbeats 2000000 in
set_option maxRecDepth 100000 in
theorem jat_any {w : World} {B q p : Nat} {J : Jr} {D : Dsk} {F : Nat → Prop} (hj : JAt w q p J) (hd : DiskAt w B p D F) (s : Nat) (hs1 : 1 ≤ s) (hs2 : s ≤ 2305843009213693952) (hf : J.frm ≤ 4096) (hz1 : 1 ≤ J.size) (hz2 : J.size ≤ 4096) (hpl : J.place s < D.N) :
    Calls Try.prog 122 #[.pointer (some ⟨q, 0, none⟩), .int .i64 (s : Int)] w fun e w' => AtSaid (right (sector D.now (J.place s)) s) w.heap.size e w' ∧ Mod (fun _ => False) w w' := by
  obtain ⟨c0, -⟩ := hj.cell
  have hwr : D.wrong (J.place s : Int) = 0 := by unfold Dsk.wrong; rw [if_neg (by omega)]
  have KP : ∀ w', Mod (fun _ => False) w w' → Calls Try.prog 100 #[.pointer (some ⟨q, 0, none⟩), .int .i64 (s : Int)] w' fun e w'' => e = .returned (.int .i64 (J.place s : Int)) ∧ Mod (fun _ => False) w w'' := fun w' hm => (place_any (hj.mod hm id) s hs1 hs2 hf hz1 hz2).mono fun e w'' ⟨he, hm'⟩ => ⟨he, hm.trans' hm'⟩
  have KR : ∀ w', Mod (fun _ => False) w w' → Calls Try.prog 37 #[.pointer (some ⟨p, 0, none⟩), .int .i64 (J.place s : Int)] w' fun e w'' => ∃ v, e = .returned (.tuple #[v, .int .i64 0]) ∧ OwnB w'' w.heap.size v (sector D.now (J.place s)) ∧ Mod (fun _ => False) w w'' ∧ ∀ k, v.ownBlock = some k → w.heap.size ≤ k := fun w' hm => ((hd.mod hm (fun _ _ => id)).read (J.place s : Int) w.heap.size hm.size).mono fun e w'' ⟨v, he, ho, hm', hn⟩ => ⟨v, by rw [he, hwr], by rw [if_pos hwr, Int.toNat_natCast] at ho; exact ho, hm.trans' hm', fun k hk => Nat.le_trans hm.size (hn k hk)⟩
  have hsl : (sector D.now (J.place s)).length = 256 := sector_length _ _ _ (by rw [hd.wf.now]; exact Nat.le_of_eq hd.wf.len.symm) hpl
  replace KP := Lib.hid KP
  replace KR := Lib.hid KR
  have HSL := Lib.hid hsl
  clear hwr hsl hd
  generalize sector D.now (J.place s) = b at *
  obtain ⟨o, ho⟩ : ∃ o, o = right b s := ⟨_, rfl⟩
  rw [← ho]
  have HO1 := Lib.hid ho
  clear ho
  go_enter Try.func122, Try.ntmps122
  go_upto_region 1 with fail
  go_cut [7, 8] (fun v7 v8 wx => ∃ g cap, v7 = .slice (some ⟨g, 0, none⟩) 256 cap ∧ v8 = .int .i64 0 ∧ OwnB wx w.heap.size (.slice (some ⟨g, 0, none⟩) 256 cap) b ∧ Mod (fun _ => False) w wx ∧ 256 ≤ cap ∧ w.heap.size ≤ g)
  case first =>
    have md : Mod (fun _ => False) w w.drew := Mod.drew _ _
    go_region_held3 (fun w' => w'.cell? ⟨q, 0, none⟩ = some (.pointer (some ⟨p, 0, none⟩))) (first | (show _ = _; simpa using c0) | exact hma.cell' c0 id | exact hmb.cell' c0 id)
      (first
        | (go_at_call 100; refine (KP.out _ md).mono ?_; rintro e wa ⟨rfl, hma⟩)
        | (go_at_call 37; refine (KR.out _ (by assumption)).mono ?_; rintro e wb ⟨v, rfl, hob, hmb, hnb⟩))
    go_wp2_with fail
    go_meet
    obtain ⟨g, cap, _, ev, -, -, hle, -⟩ := hob.row (by intro e; have := HSL.out; rw [e] at this; cases this)
    rw [HSL.out] at ev hle
    subst ev
    exact ⟨g, cap, rfl, rfl, hob, hmb, hle, hnb g rfl⟩
  case rest =>
    obtain ⟨g, cap, rfl, rfl, hob, hm, hcap, hg⟩ := hcut
    have hbs := (OwnB.bytes hob).2
    have e1 : (b.drop 0).take 4 = b.take 4 := by rw [List.drop_zero]
    have e2 : (b.drop 4).take 252 = b.drop 4 := List.take_of_length_le (by rw [List.length_drop, HSL.out]; decide)
    have b1 := hbs.sub 0 4
    have b2 := hbs.sub 4 252
    have b3 := hbs.sub 4 8
    rw [e1] at b1
    rw [e2] at b2
    have KB1 : ∀ w', Mod (fun _ => False) wc w' → Calls Try.prog 123 #[.slice (some ⟨g, 0, none⟩) 4 cap] w' fun e w'' => e = .returned (.int .u64 (unle (b.take 4) : Int)) ∧ w' = w'' := fun w' hm' => by
      have := back_any (some ⟨g, 0, none⟩) (b.take 4) cap w' (b1.mod hm' (fun _ _ _ => id)) (by rw [List.length_take]; omega)
      rwa [List.length_take, HSL.out] at this
    have KS : ∀ w', Mod (fun _ => False) wc w' → Calls Try.prog 27 #[.slice (some ⟨g, 4, none⟩) 252 (cap - 4)] w' fun e w'' => e = .returned (.int .u32 ((crc (b.drop 4)).toNat : Int)) ∧ w' = w'' := fun w' hm' =>
      sum_n _ (b.drop 4) 252 _ w' (by rw [List.length_drop, HSL.out]) (by rw [List.length_drop, HSL.out]; decide) (by rw [Nat.zero_add] at b2; exact b2.mod hm' (fun _ _ _ => id))
    have KB2 : ∀ w', Mod (fun _ => False) wc w' → Calls Try.prog 123 #[.slice (some ⟨g, 4, none⟩) 8 (cap - 4)] w' fun e w'' => e = .returned (.int .u64 (unle ((b.drop 4).take 8) : Int)) ∧ w' = w'' := fun w' hm' => by
      rw [Nat.zero_add] at b3
      have := back_any (some ⟨g, 4, none⟩) ((b.drop 4).take 8) (cap - 4) w' (b3.mod hm' (fun _ _ _ => id)) (by rw [List.length_take]; omega)
      rwa [List.length_take, List.length_drop, HSL.out] at this
    replace KB1 := Lib.hid KB1
    replace KS := Lib.hid KS
    replace KB2 := Lib.hid KB2
    clear hbs b1 b2 b3 e1 e2 c0 KP KR
    have hSlt := (crc (b.drop 4)).isLt
    have ho := HO1.out
    unfold right at ho
    generalize unle (b.take 4) = A at *
    generalize (crc (b.drop 4)).toNat = S at *
    generalize unle ((b.drop 4).take 8) = X at *
    have HO := Lib.hid ho
    clear ho HO1
    have x12 := (hob.cellAt 12 (by rw [HSL.out]; decide)).1
    have x13 := (hob.cellAt 13 (by rw [HSL.out]; decide)).1
    have hg12 : b.getD 12 0 = b[12]'(by rw [HSL.out]; decide) := by simp [List.getD_eq_getElem?_getD, List.getElem?_eq_getElem (show 12 < b.length by rw [HSL.out]; decide)]
    have hg13 : b.getD 13 0 = b[13]'(by rw [HSL.out]; decide) := by simp [List.getD_eq_getElem?_getD, List.getElem?_eq_getElem (show 13 < b.length by rw [HSL.out]; decide)]
    rw [← hg12] at x12
    rw [← hg13] at x13
    clear hg12 hg13
    generalize b.getD 12 0 = f at *
    generalize b.getD 13 0 = n at *
    have HOB := Lib.hid hob
    have HM := Lib.hid hm
    clear hob
    have hcap4 : (4 : Int) ≤ (cap : Int) := by omega
    have hcap12 : (12 : Int) ≤ (cap : Int) := by omega
    have hcapn : ¬ (cap = 4) := by omega
    go_upto_region 2 with fail
    go_cut [40] (fun v40 wx => v40 = .bool (!(decide (A = S) && decide (X = s))) ∧ Mod (fun _ => False) wc wx)
    case first =>
      have md : Mod (fun _ => False) wc wc.drew := Mod.drew _ _
      have wS : IntKind.u64.wrap (S : Int) = (S : Int) := IntWalk.u64_in _ (by omega)
      have ws : IntKind.u64.wrap (s : Int) = (s : Int) := IntWalk.u64_in _ (by omega)
      by_cases hA : A = S
      · have hA' : ((A : Int) != (S : Int)) = false := by rw [bne_eq_false_iff_eq]; omega
        by_cases hX : X = s
        · have hX' : ((X : Int) != (s : Int)) = false := by rw [bne_eq_false_iff_eq]; omega
          have HR : (!(decide (A = S) && decide (X = s))) = false := by simp [hA, hX]
          have HR2 := Lib.hid HR
          clear hA hX HR
          go_region_held3 (fun w' => Mod (fun _ => False) wc w') (assumption)
            (first
              | (go_at_call 123; (with_reducible refine (KB1.out _ (by assumption)).mono ?_); rintro e w' ⟨rfl, rfl⟩)
              | (go_at_call 27; (with_reducible refine (KS.out _ (by assumption)).mono ?_); rintro e w' ⟨rfl, rfl⟩)
              | (go_at_call 123; (with_reducible refine (KB2.out _ (by assumption)).mono ?_); rintro e w' ⟨rfl, rfl⟩))
          go_wp2_with fail
          go_meet
          exact ⟨congrArg Value.bool HR2.out.symm, md⟩
        · have hX' : ((X : Int) != (s : Int)) = true := by rw [bne_iff_ne]; omega
          have HR : (!(decide (A = S) && decide (X = s))) = true := by simp [hA, hX]
          have HR2 := Lib.hid HR
          clear hA hX HR
          go_region_held3 (fun w' => Mod (fun _ => False) wc w') (assumption)
            (first
              | (go_at_call 123; (with_reducible refine (KB1.out _ (by assumption)).mono ?_); rintro e w' ⟨rfl, rfl⟩)
              | (go_at_call 27; (with_reducible refine (KS.out _ (by assumption)).mono ?_); rintro e w' ⟨rfl, rfl⟩)
              | (go_at_call 123; (with_reducible refine (KB2.out _ (by assumption)).mono ?_); rintro e w' ⟨rfl, rfl⟩))
          go_wp2_with fail
          go_meet
          exact ⟨congrArg Value.bool HR2.out.symm, md⟩
      · have hA' : ((A : Int) != (S : Int)) = true := by rw [bne_iff_ne]; omega
        have HR : (!(decide (A = S) && decide (X = s))) = true := by simp [hA]
        have HR2 := Lib.hid HR
        clear hA HR
        refine wp_region_held_drew (S := fun w' => Mod (fun _ => False) wc w') (by kernel_rfl) (md) (fun hHeld => ?_)
        refine wpAnyH_take (i := 0) (oi := { dst := some 21, op := Op.move (Operand.tmp 8), type := 32, pos := "journal.go:61", after := #[], guard := none }) (v := ?_) rfl (by kernel_rfl) (by kernel_rfl) (by kernel_rfl) (fun _ _ _ h => h) (Or.inl ⟨by rfl, ?_⟩) (by assumption) ?_
        rotate_left
        · (intro w hSw; (try dsimp only at hSw); go_simp; try with_reducible rfl)
        simp only [Act.put, List.setIfInBounds_toArray, List.set_cons_zero, List.set_cons_succ]
        refine wpAnyH_take (i := 1) (oi := { dst := some 22, op := Op.binOp BinOp.neq 32 (Operand.tmp 21) (Operand.const (Value.int IntKind.i64 0)) 32, type := 4, pos := "journal.go:61", after := #[{ on := 0, ground := Ground.data }], guard := none }) (v := ?_) rfl (by kernel_rfl) (by kernel_rfl) (by kernel_rfl) (fun _ _ _ h => h) (Or.inl ⟨by rfl, ?_⟩) (by assumption) ?_
        rotate_left
        · (intro w hSw; (try dsimp only at hSw); go_simp; try with_reducible rfl)
        simp only [Act.put, List.setIfInBounds_toArray, List.set_cons_zero, List.set_cons_succ]
        refine wpAnyH_take (i := 2) (oi := { dst := some 23, op := Op.move (Operand.tmp 22), type := 4, pos := "journal.go:61", after := #[{ on := 1, ground := Ground.data }], guard := none }) (v := ?_) rfl (by kernel_rfl) (by kernel_rfl) (by kernel_rfl) (fun _ _ _ h => h) (Or.inl ⟨by rfl, ?_⟩) (by assumption) ?_
        rotate_left
        · (intro w hSw; (try dsimp only at hSw); go_simp; try with_reducible rfl)
        simp only [Act.put, List.setIfInBounds_toArray, List.set_cons_zero, List.set_cons_succ]
        refine wpAnyH_take (i := 3) (oi := { dst := some 24, op := Op.move (Operand.tmp 7), type := 22, pos := "journal.go:61", after := #[{ on := 2, ground := Ground.guard }], guard := some (2, false) }) (v := ?_) rfl (by kernel_rfl) (by kernel_rfl) (by kernel_rfl) (fun _ _ _ h => h) (Or.inl ⟨by rfl, ?_⟩) (by assumption) ?_
        rotate_left
        · (intro w hSw; (try dsimp only at hSw); go_simp; try with_reducible rfl)
        simp only [Act.put, List.setIfInBounds_toArray, List.set_cons_zero, List.set_cons_succ]
        refine wpAnyH_take (i := 4) (oi := { dst := some 25, op := Op.slice 22 (Operand.tmp 24) none (some (Operand.const (Value.int IntKind.i64 4))) none, type := 22, pos := "journal.go:61", after := #[{ on := 3, ground := Ground.data }, { on := 2, ground := Ground.guard }], guard := some (2, false) }) (v := ?_) rfl (by kernel_rfl) (by kernel_rfl) (by kernel_rfl) (fun _ _ _ h => h) (Or.inl ⟨by rfl, ?_⟩) (by assumption) ?_
        rotate_left
        · (intro w hSw; (try dsimp only at hSw); go_simp; try with_reducible rfl)
        simp only [Act.put, List.setIfInBounds_toArray, List.set_cons_zero, List.set_cons_succ]
        refine wpAnyH_take (i := 6) (oi := { dst := some 27, op := Op.move (Operand.tmp 7), type := 22, pos := "journal.go:61", after := #[{ on := 2, ground := Ground.guard }], guard := some (2, false) }) (v := ?_) rfl (by kernel_rfl) (by kernel_rfl) (by kernel_rfl) (fun _ _ _ h => h) (Or.inl ⟨by rfl, ?_⟩) (by assumption) ?_
        rotate_left
        · (intro w hSw; (try dsimp only at hSw); go_simp; try with_reducible rfl)
        simp only [Act.put, List.setIfInBounds_toArray, List.set_cons_zero, List.set_cons_succ]
        refine wpAnyH_take (i := 7) (oi := { dst := some 28, op := Op.slice 22 (Operand.tmp 27) (some (Operand.const (Value.int IntKind.i64 4))) none none, type := 22, pos := "journal.go:61", after := #[{ on := 6, ground := Ground.data }, { on := 2, ground := Ground.guard }], guard := some (2, false) }) (v := ?_) rfl (by kernel_rfl) (by kernel_rfl) (by kernel_rfl) (fun _ _ _ h => h) (Or.inl ⟨by rfl, ?_⟩) (by assumption) ?_
        rotate_left
        · (intro w hSw; (try dsimp only at hSw); go_simp; try with_reducible rfl)
        simp only [Act.put, List.setIfInBounds_toArray, List.set_cons_zero, List.set_cons_succ]
        refine held_call (i := 5) (oi := { dst := some 26, op := Op.call { callee := Callee.value (Operand.func 123), args := #[Operand.tmp 25], argTypes := #[22] }, type := 142, pos := "journal.go:61", after := #[{ on := 4, ground := Ground.data }, { on := 2, ground := Ground.chain }, { on := 2, ground := Ground.guard }], guard := some (2, false) }) (v := (.int .u64 (A : Int))) rfl (by kernel_rfl) (by kernel_rfl) (by kernel_rfl) (fun _ _ _ h => h) (by assumption) 123 #[.slice (some ⟨g, 0, none⟩) 4 cap] (by rfl) (fun w => by go_simp) (fun w hSw => KB1.out _ hSw) ?_
        simp only [Act.put, List.setIfInBounds_toArray, List.set_cons_zero, List.set_cons_succ]
        refine held_call (i := 8) (oi := { dst := some 29, op := Op.call { callee := Callee.value (Operand.func 27), args := #[Operand.tmp 28], argTypes := #[22] }, type := 23, pos := "journal.go:61", after := #[{ on := 7, ground := Ground.data }, { on := 5, ground := Ground.chain }, { on := 2, ground := Ground.guard }], guard := some (2, false) }) (v := (.int .u32 (S : Int))) rfl (by kernel_rfl) (by kernel_rfl) (by kernel_rfl) (fun _ _ _ h => h) (by assumption) 27 #[.slice (some ⟨g, 4, none⟩) 252 (cap - 4)] (by rfl) (fun w => by go_simp) (fun w hSw => KS.out _ hSw) ?_
        simp only [Act.put, List.setIfInBounds_toArray, List.set_cons_zero, List.set_cons_succ]
        refine wpAnyH_take (i := 9) (oi := { dst := some 30, op := Op.convert 23 142 (Operand.tmp 29), type := 142, pos := "journal.go:61", after := #[{ on := 8, ground := Ground.data }, { on := 2, ground := Ground.guard }], guard := some (2, false) }) (v := ?_) rfl (by kernel_rfl) (by kernel_rfl) (by kernel_rfl) (fun _ _ _ h => h) (Or.inl ⟨by rfl, ?_⟩) (by assumption) ?_
        rotate_left
        · (intro w hSw; (try dsimp only at hSw); go_simp; try with_reducible rfl)
        simp only [Act.put, List.setIfInBounds_toArray, List.set_cons_zero, List.set_cons_succ]
        refine wpAnyH_take (i := 10) (oi := { dst := some 31, op := Op.binOp BinOp.neq 142 (Operand.tmp 26) (Operand.tmp 30) 142, type := 4, pos := "journal.go:61", after := #[{ on := 5, ground := Ground.data }, { on := 9, ground := Ground.data }, { on := 2, ground := Ground.guard }], guard := some (2, false) }) (v := ?_) rfl (by kernel_rfl) (by kernel_rfl) (by kernel_rfl) (fun _ _ _ h => h) (Or.inl ⟨by rfl, ?_⟩) (by assumption) ?_
        rotate_left
        · (intro w hSw; (try dsimp only at hSw); go_simp; try with_reducible rfl)
        simp only [Act.put, List.setIfInBounds_toArray, List.set_cons_zero, List.set_cons_succ]
        refine wpAnyH_take (i := 11) (oi := { dst := some 32, op := Op.pick (Operand.tmp 23) (Operand.const (Value.bool true)) (Operand.tmp 31), type := 4, pos := "journal.go:61", after := #[{ on := 2, ground := Ground.data }, { on := 10, ground := Ground.data }], guard := none }) (v := ?_) rfl (by kernel_rfl) (by kernel_rfl) (by kernel_rfl) (fun _ _ _ h => h) (Or.inl ⟨by rfl, ?_⟩) (by assumption) ?_
        rotate_left
        · (intro w hSw; (try dsimp only at hSw); go_simp; try with_reducible rfl)
        simp only [Act.put, List.setIfInBounds_toArray, List.set_cons_zero, List.set_cons_succ]
        refine wpAnyH_take (i := 12) (oi := { dst := some 33, op := Op.move (Operand.tmp 32), type := 4, pos := "journal.go:61", after := #[{ on := 11, ground := Ground.data }, { on := 8, ground := Ground.chain }], guard := none }) (v := ?_) rfl (by kernel_rfl) (by kernel_rfl) (by kernel_rfl) (fun _ _ _ h => h) (Or.inl ⟨by rfl, ?_⟩) (by assumption) ?_
        rotate_left
        · (intro w hSw; (try dsimp only at hSw); go_simp; try with_reducible rfl)
        simp only [Act.put, List.setIfInBounds_toArray, List.set_cons_zero, List.set_cons_succ]
        refine wpAnyH_take (i := 13) (oi := { dst := some 34, op := Op.move (Operand.tmp 7), type := 22, pos := "journal.go:61", after := #[{ on := 12, ground := Ground.guard }], guard := some (12, false) }) (v := undef) rfl (by kernel_rfl) (by kernel_rfl) (by kernel_rfl) (fun _ _ _ h => h) (Or.inr ⟨by rfl, rfl⟩) (by assumption) ?_
        simp only [Act.put, List.setIfInBounds_toArray, List.set_cons_zero, List.set_cons_succ]
        refine wpAnyH_take (i := 14) (oi := { dst := some 35, op := Op.slice 22 (Operand.tmp 34) (some (Operand.const (Value.int IntKind.i64 4))) (some (Operand.const (Value.int IntKind.i64 12))) none, type := 22, pos := "journal.go:61", after := #[{ on := 13, ground := Ground.data }, { on := 12, ground := Ground.guard }], guard := some (12, false) }) (v := undef) rfl (by kernel_rfl) (by kernel_rfl) (by kernel_rfl) (fun _ _ _ h => h) (Or.inr ⟨by rfl, rfl⟩) (by assumption) ?_
        simp only [Act.put, List.setIfInBounds_toArray, List.set_cons_zero, List.set_cons_succ]
        refine wpAnyH_take (i := 15) (oi := { dst := some 36, op := Op.call { callee := Callee.value (Operand.func 123), args := #[Operand.tmp 35], argTypes := #[22] }, type := 142, pos := "journal.go:61", after := #[{ on := 14, ground := Ground.data }, { on := 12, ground := Ground.chain }, { on := 12, ground := Ground.guard }], guard := some (12, false) }) (v := undef) rfl (by kernel_rfl) (by kernel_rfl) (by kernel_rfl) (fun _ _ _ h => h) (Or.inr ⟨by rfl, rfl⟩) (by assumption) ?_
        simp only [Act.put, List.setIfInBounds_toArray, List.set_cons_zero, List.set_cons_succ]
        refine wpAnyH_take (i := 16) (oi := { dst := some 37, op := Op.move (Operand.tmp 1), type := 2, pos := "journal.go:61", after := #[{ on := 12, ground := Ground.guard }], guard := some (12, false) }) (v := undef) rfl (by kernel_rfl) (by kernel_rfl) (by kernel_rfl) (fun _ _ _ h => h) (Or.inr ⟨by rfl, rfl⟩) (by assumption) ?_
        simp only [Act.put, List.setIfInBounds_toArray, List.set_cons_zero, List.set_cons_succ]
        refine wpAnyH_take (i := 17) (oi := { dst := some 38, op := Op.convert 2 142 (Operand.tmp 37), type := 142, pos := "journal.go:61", after := #[{ on := 16, ground := Ground.data }, { on := 12, ground := Ground.guard }], guard := some (12, false) }) (v := undef) rfl (by kernel_rfl) (by kernel_rfl) (by kernel_rfl) (fun _ _ _ h => h) (Or.inr ⟨by rfl, rfl⟩) (by assumption) ?_
        simp only [Act.put, List.setIfInBounds_toArray, List.set_cons_zero, List.set_cons_succ]
        refine wpAnyH_take (i := 18) (oi := { dst := some 39, op := Op.binOp BinOp.neq 142 (Operand.tmp 36) (Operand.tmp 38) 142, type := 4, pos := "journal.go:61", after := #[{ on := 15, ground := Ground.data }, { on := 17, ground := Ground.data }, { on := 12, ground := Ground.guard }], guard := some (12, false) }) (v := undef) rfl (by kernel_rfl) (by kernel_rfl) (by kernel_rfl) (fun _ _ _ h => h) (Or.inr ⟨by rfl, rfl⟩) (by assumption) ?_
        simp only [Act.put, List.setIfInBounds_toArray, List.set_cons_zero, List.set_cons_succ]
        refine wpAnyH_take (i := 19) (oi := { dst := some 40, op := Op.pick (Operand.tmp 33) (Operand.const (Value.bool true)) (Operand.tmp 39), type := 4, pos := "journal.go:61", after := #[{ on := 12, ground := Ground.data }, { on := 18, ground := Ground.data }], guard := none }) (v := ?_) rfl (by kernel_rfl) (by kernel_rfl) (by kernel_rfl) (fun _ _ _ h => h) (Or.inl ⟨by rfl, ?_⟩) (by assumption) ?_
        rotate_left
        · (intro w hSw; (try dsimp only at hSw); go_simp; try with_reducible rfl)
        simp only [Act.put, List.setIfInBounds_toArray, List.set_cons_zero, List.set_cons_succ]
        refine wpAnyH_done (by kernel_rfl) ?_ _
        go_wp2_with fail
        go_meet
        exact ⟨congrArg Value.bool HR2.out.symm, md⟩
    case rest =>
      obtain ⟨rfl, hm2⟩ := hcut
      clear KB1 KB2 KS
      have z12 := hm2.cell' x12 id
      have z13 := hm2.cell' x13 id
      have hmm := HM.out.trans' hm2
      have hob2 := HOB.out.mod hm2 (fun _ _ => id)
      have HMM := Lib.hid hmm
      have HOB2 := Lib.hid hob2
      clear x12 x13 hm2 hmm hob2 HOB HM hm hj
      by_cases hAX : A = S ∧ X = s
      · have HV : (!(decide (A = S) && decide (X = s))) = false := by simp [hAX]
        rw [HV]
        have hfl : f.toNat < 256 := f.toNat_lt
        have hnl : n.toNat < 256 := n.toNat_lt
        by_cases c1 : (3 : Int) < (f.toNat : Int)
        · have hn : o = none := by rw [HO.out, if_neg (by rintro ⟨-, -, h, -⟩; rw [UInt8.le_iff_toNat_le] at h; have h' : f.toNat ≤ 3 := h; omega)]
          have HN := Lib.hid hn
          clear hn hAX HV
          go_wp2
          go_ret3
          exact ⟨.inl ⟨HN.out, rfl⟩, HMM.out⟩
        · by_cases c2 : (n.toNat : Int) < 1
          · have hn : o = none := by rw [HO.out, if_neg (by rintro ⟨-, -, -, h, -⟩; rw [UInt8.le_iff_toNat_le] at h; have h' : 1 ≤ n.toNat := h; omega)]
            have HN := Lib.hid hn
            clear hn hAX HV
            go_wp2
            go_ret3
            exact ⟨.inl ⟨HN.out, rfl⟩, HMM.out⟩
          · by_cases c3 : (242 : Int) < (n.toNat : Int)
            · have hn : o = none := by rw [HO.out, if_neg (by rintro ⟨-, -, -, -, h⟩; rw [UInt8.le_iff_toNat_le] at h; have h' : n.toNat ≤ 242 := h; omega)]
              have HN := Lib.hid hn
              clear hn hAX HV
              go_wp2
              go_ret3
              exact ⟨.inl ⟨HN.out, rfl⟩, HMM.out⟩
            · have hn : o = some (f, (b.drop 14).take n.toNat) := by
                rw [HO.out, if_pos]
                refine ⟨hAX.1, hAX.2, ?_, ?_, ?_⟩ <;> rw [UInt8.le_iff_toNat_le]
                · show f.toNat ≤ 3; omega
                · show 1 ≤ n.toNat; omega
                · show n.toNat ≤ 242; omega
              have hpl : ((b.drop 14).take n.toNat).length = n.toNat := by rw [List.length_take, List.length_drop, HSL.out]; omega
              have hbp := (OwnB.bytes HOB2.out).2.sub 14 n.toNat
              rw [Nat.zero_add] at hbp
              have HN := Lib.hid hn
              have HPL := Lib.hid hpl
              have HBP := Lib.hid hbp
              clear hn hAX HV hpl hbp
              go_upto_region 7 with fail
              have d12 : wc.drew.cell? ⟨g, 12, none⟩ = some (byteV f) := by simpa using z12
              have k1 : (0 : Int) ≤ 14 + (n.toNat : Int) := by omega
              have k2 : (14 : Int) + (n.toNat : Int) ≤ (cap : Int) := by omega
              have k3 : (14 : Int) ≤ 14 + (n.toNat : Int) := by omega
              have k4 : ((14 : Int) + (n.toNat : Int)).toNat = 14 + n.toNat := by omega
              have k5 : ¬ (14 + n.toNat = 14) := by omega
              have k7 : ¬ (cap = 14) := by omega
              have k8 : ¬ (n.toNat = 0) := by omega
              have k6 : IntKind.i64.wrap (14 + (n.toNat : Int)) = 14 + (n.toNat : Int) := IntWalk.i64_in _ (by omega)
              go_region_held3 (fun w' => w'.cell? ⟨g, 12, none⟩ = some (byteV f)) (first | assumption) (fail)
              clear k6
              have md : Mod (fun _ => False) wc wc.drew := Mod.drew _ _
              go_wp2
              go_ret3
              exact ⟨.inr ⟨f, _, g, HN.out, by rw [HPL.out]; rfl, HBP.out.mod md (fun _ _ _ => id), hg⟩, HMM.out.trans' md⟩
      · have HV : (!(decide (A = S) && decide (X = s))) = true := by
          by_cases hA : A = S
          · have hX : ¬ X = s := fun e => hAX ⟨hA, e⟩
            simp [hA, hX]
          · simp [hA]
        have hn : o = none := by rw [HO.out, if_neg (by rintro ⟨h1, h2, -⟩; exact hAX ⟨h1, h2⟩)]
        have HN := Lib.hid hn
        rw [HV]
        clear hn hAX HV
        go_wp2
        go_ret3
        exact ⟨.inl ⟨HN.out, rfl⟩, HMM.out⟩
end Go.Proofs.Ytdinnkacilgmmaa
namespace Go.Proofs.Ytdinnkacilgmmaa
open Go.RowKit

theorem right_piece {b : List UInt8} {s : Nat} {f : UInt8} {p : List UInt8} (h : right b s = some (f, p)) : p.length ≤ 242 ∧ f.toNat ≤ 3 := by
  unfold right at h
  split at h
  · rename_i hc
    obtain ⟨-, -, h3, -, h5⟩ := hc
    rw [UInt8.le_iff_toNat_le] at h3 h5
    have h3' : (b.getD 12 0).toNat ≤ 3 := h3
    have h5' : (b.getD 13 0).toNat ≤ 242 := h5
    injection h with h
    injection h with h1 h2
    subst h1 h2
    exact ⟨by rw [List.length_take]; omega, h3'⟩
  · cases h

/-- the record that stands from s on, behind n sectors that have been read -/
def recGo (rd : Nat → Option (UInt8 × List UInt8)) (s : Nat) : Nat → Nat → List UInt8 → Option (List UInt8 × Nat)
  | 0, _, _ => none
  | fuel + 1, n, all => match rd (s + n) with
    | none => none
    | some (f, p) => if (decide (f.toNat % 2 = 1) != decide (n = 0)) = true then none
      else if f.toNat < 2 then recGo rd s fuel (n + 1) (all ++ p)
      else if 4 ≤ (all ++ p).length ∧ (all ++ p).length ≤ 8196 ∧ unle ((all ++ p).take 4) = (crc ((all ++ p).drop 4)).toNat then some ((all ++ p).drop 4, n + 1) else none

def Jr.rd (J : Jr) (D : Dsk) (s : Nat) : Option (UInt8 × List UInt8) := right (sector D.now (J.place s)) s
def Jr.rec_ (J : Jr) (D : Dsk) (s : Nat) : Option (List UInt8 × Nat) := recGo (J.rd D) s (J.start + J.size - s) 0 []

theorem and1_u8 (f : UInt8) (h : f.toNat ≤ 3) : (bits .and .u8 (f.toNat : Int) 1 != 0) = decide (f.toNat % 2 = 1) := by
  have : f.toNat = 0 ∨ f.toNat = 1 ∨ f.toNat = 2 ∨ f.toNat = 3 := by omega
  rcases this with e | e | e | e <;> rw [e] <;> decide
theorem and2_u8 (f : UInt8) (h : f.toNat ≤ 3) : (bits .and .u8 (f.toNat : Int) 2 == 0) = decide (f.toNat < 2) := by
  have : f.toNat = 0 ∨ f.toNat = 1 ∨ f.toNat = 2 ∨ f.toNat = 3 := by omega
  rcases this with e | e | e | e <;> rw [e] <;> decide

/-- what 'record' answers -/
def RecSaid (o : Option (List UInt8 × Nat)) (C H : Nat) (e : Ending) (w' : World) : Prop :=
  (o = none ∧ e = .returned (.tuple #[.slice none 0 0, .int .i64 0])) ∨
  ∃ b n v, o = some (b, n) ∧ e = .returned (.tuple #[v, .int .i64 (n : Int)]) ∧ OwnB w' C v b ∧ ∀ k, v.ownBlock = some k → H ≤ k

set_option maxHeartbeats 16000000 in
set_option maxRecDepth 100000 in
theorem record_any {w : World} {B q p : Nat} {J : Jr} {D : Dsk} {F : Nat → Prop} (hj : JAt w q p J) (hd : DiskAt w B p D F) (s : Nat) (hs1 : 1 ≤ s) (hs2 : J.start + J.size ≤ 2305843009213693952) (hs3 : s ≤ J.start + J.size) (hs4 : J.start ≤ s) (hz1 : 1 ≤ J.size) (hfit : J.frm + J.size ≤ D.N) (C : Nat) (hC : C ≤ w.heap.size) :
    Calls Try.prog 95 #[.pointer (some ⟨q, 0, none⟩), .int .i64 (s : Int)] w fun e w' => RecSaid (J.rec_ D s) C w.heap.size e w' ∧ Mod (fun _ => False) w w' := by
  obtain ⟨-, -, c2, c3, -, -⟩ := hj.cell
  have htop := hd.wf.top
  have hz2 : J.size ≤ 4096 := by omega
  have hf : J.frm ≤ 4096 := by omega
  have KA : ∀ k w', k < J.start + J.size → 1 ≤ k → Mod (fun _ => False) w w' → Calls Try.prog 122 #[.pointer (some ⟨q, 0, none⟩), .int .i64 (k : Int)] w' fun e w'' => AtSaid (J.rd D k) w.heap.size e w'' ∧ Mod (fun _ => False) w' w'' := fun k w' h1 h2 hm => by
    refine (jat_any (hj.mod hm id) (hd.mod hm (fun _ _ => id)) k h2 (by omega) hf hz1 hz2 ?_).mono ?_
    · have := Nat.mod_lt (k - 1) (show 0 < J.size by omega)
      unfold Jr.place
      omega
    · rintro e w'' ⟨ha, hm'⟩
      refine ⟨?_, hm'⟩
      rcases ha with ha | ⟨f, pc, g, h1, h2, h3, h4⟩
      · exact .inl ha
      · exact .inr ⟨f, pc, g, h1, h2, h3, Nat.le_trans hm.size h4⟩
  have KRP : ∀ k f pc, J.rd D k = some (f, pc) → pc.length ≤ 242 ∧ f.toNat ≤ 3 := fun k f pc h => right_piece h
  unfold Jr.rec_
  obtain ⟨fu, hfu⟩ : ∃ fu, fu = J.start + J.size - s := ⟨_, rfl⟩
  rw [← hfu]
  have hfu' : s + fu = J.start + J.size := by omega
  obtain ⟨O, hO⟩ : ∃ O, O = recGo (J.rd D) s fu 0 [] := ⟨_, rfl⟩
  rw [← hO]
  replace KA := Lib.hid KA
  replace KRP := Lib.hid KRP
  have HO := Lib.hid hO
  clear hfu hO hd hj
  have hstI : (s : Int) + (fu : Int) = (J.start : Int) + (J.size : Int) := by omega
  have hI0 : (J.start : Int) + (J.size : Int) ≤ 2305843009213693952 := by omega
  have HST := Lib.hid hstI
  have HFU := Lib.hid hfu'
  clear hstI hfu'
  go_enter Try.func95, Try.ntmps95
  go_wp2_with fail
  go_loopw [6, 7] (fun v6 v7 wr => ∃ (n : Nat) (all : List UInt8), n ≤ fu ∧ v7 = .int .i64 (n : Int) ∧ OwnB wr w.heap.size v6 all ∧ Mod (fun _ => False) w wr ∧ all.length ≤ 242 * n ∧ recGo (J.rd D) s (fu - n) n all = O) (fun _ v7 _ => fu - (intOf v7).toNat)
  case atStart => exact ⟨0, [], Nat.zero_le _, rfl, OwnB.nil _ _, Mod.refl _ _, by simp, HO.out.symm⟩
  case round =>
    obtain ⟨n, all, hn, rfl, ho, hm, hal, hgo⟩ := hrel
    have d2 := hm.cell' c2 id
    have d3 := hm.cell' c3 id
    have HGO := Lib.hid hgo
    clear hgo
    have hfb : fu ≤ 4096 := by have := HFU.out; omega
    have w1 : IntKind.i64.wrap ((s : Int) + (n : Int)) = (s : Int) + (n : Int) := IntWalk.i64_in _ (by omega)
    have w2 : IntKind.i64.wrap ((J.start : Int) + (J.size : Int)) = (J.start : Int) + (J.size : Int) := IntWalk.i64_in _ (by omega)
    go_upto_region 3 with fail
    go_cut [23] (fun v23 wx => v23 = .bool (decide (n < fu)) ∧ wx = wr.drew)
    case first =>
      go_region_held3 (fun w' => w'.cell? ⟨q, 2, none⟩ = some (.int .i64 (J.size : Int)) ∧ w'.cell? ⟨q, 3, none⟩ = some (.int .i64 (J.start : Int))) (refine ⟨?_, ?_⟩ <;> simpa using (by assumption)) (fail)
      clear w1 w2
      go_wp2_with fail
      go_meet
      exact ⟨congrArg Value.bool (decide_eq_decide.2 (by have := HST.out; omega)), rfl⟩
    case rest =>
      obtain ⟨rfl, rfl⟩ := hcut
      clear w1 w2 d2 d3
      have md : Mod (fun _ => False) wr wr.drew := Mod.drew _ _
      have hmd := hm.trans' md
      have hod := ho.mod md (fun _ _ => id)
      clear ho hm md
      generalize wr.drew = w2 at *
      by_cases hlt : n < fu
      · have hdt : decide (n < fu) = true := by simpa using hlt
        rw [hdt]
        obtain ⟨r, hr⟩ : ∃ r, fu - n = r + 1 := ⟨fu - n - 1, by omega⟩
        have hr2 : fu - (n + 1) = r := by omega
        have hgo := HGO.out
        rw [hr] at hgo
        simp only [recGo] at hgo
        have hkt : s + n < J.start + J.size := by have := HFU.out; omega
        have hcast : (s : Int) + (n : Int) = ((s + n : Nat) : Int) := by omega
        have KA' := KA.out (s + n) w2 hkt (by omega) hmd
        have KRP' := KRP.out (s + n)
        rw [show ((s + n : Nat) : Int) = (s : Int) + (n : Int) from hcast.symm] at KA'
        generalize J.rd D (s + n) = oa at *
        have HR2 := Lib.hid hr2
        have HGO2 := Lib.hid hgo
        have HHO := Lib.hid hod
        have KRP2 := Lib.hid KRP'
        have hfb2 : fu ≤ 4096 := hfb
        have hsn : (s : Int) + (n : Int) ≤ 2305843009213693952 := by omega
        clear hgo hr hr2 hdt KRP' hcast HGO hod
        go_wp2_with fail
        refine KA'.mono ?_
        rintro e w3 ⟨hat, hm3⟩
        clear KA'
        rcases hat with ⟨rfl, rfl⟩ | ⟨f, pc, g, rfl, rfl, hbp, hgH⟩
        · have hON : O = none := HGO2.out.symm
          have HON := Lib.hid hON
          clear hON
          go_wp2
          go_ret2
          exact ⟨.inl ⟨HON.out, rfl⟩, hmd.trans' hm3⟩
        · obtain ⟨hpl, hf3⟩ := KRP2.out f pc rfl
          have b1 := and1_u8 f hf3
          have b2 := and2_u8 f hf3
          have hgo := HGO2.out
          simp only [] at hgo
          have HG3 := Lib.hid hgo
          have hnz : ((n : Int) == 0) = decide (n = 0) := by
            by_cases h : n = 0
            · subst h; rfl
            · rw [decide_eq_false h, beq_eq_false_iff_ne]; omega
          clear hgo HGO2 KRP2
          go_upto_region 6 with fail
          go_cut [44] (fun v44 wx => v44 = .bool (decide (f.toNat % 2 = 1) != decide (n = 0)) ∧ w3 = wx)
          case first =>
            clear b2
            generalize decide (f.toNat % 2 = 1) = d1 at *
            generalize decide (n = 0) = d2 at *
            go_wp2_with fail
            go_meet
            exact ⟨rfl, rfl⟩
          case rest =>
            obtain ⟨rfl, rfl⟩ := hcut
            have ho3 := HHO.out.mod hm3 (fun _ _ => id)
            have hw3 := hmd.trans' hm3
            have hHO3 := Lib.hid ho3
            clear HHO hmd hm3 b1 hnz
            cases hmm : (decide (f.toNat % 2 = 1) != decide (n = 0))
            · have hg4 := HG3.out
              rw [hmm, if_neg (by decide)] at hg4
              have HG4 := Lib.hid hg4
              clear HG3 hmm hg4
              have hall : all.length + pc.length ≤ 242 * (n + 1) := by omega
              have hle3 : w.heap.size ≤ w3.heap.size := hw3.size
              clear ho3
              by_cases hf2 : f.toNat < 2
              · have hd2 : decide (f.toNat < 2) = true := by simpa using hf2
                have hg5 := HG4.out
                rw [if_pos hf2] at hg5
                rw [hd2] at b2
                have HG5 := Lib.hid hg5
                clear hg5 HG4 hd2
                go_wp2_with (first
                  | (at_builtin; refine appB rfl _ _ rfl w.heap.size _ all rfl hHO3.out (some ⟨g, 14, none⟩) _ _ pc rfl rfl (fun e => by cases e) hbp (by omega) hle3 ?_; intro v4 w4 ho4 hm4 _))
                have hw4 : Mod (fun _ => False) w w4 := hw3.trans hm4 (fun k hk e => by have := (World.ownsRow.lt hHO3.out k e.symm).1; omega)
                obtain ⟨a4, c4, e4, hlc, -, -⟩ := ho4.shape
                have hALL := hall
                rw [← List.length_append] at hALL
                generalize all ++ pc = al at *
                subst e4
                have HO4 := Lib.hid ho4
                clear ho4 hm4 hw3 hbp hHO3 hall
                go_roundw
                case rel => exact ⟨n + 1, al, by omega, by go_num, HO4.out, hw4, hALL, by rw [HR2.out]; exact HG5.out⟩
                case measure => simp [intOf]; omega
              · have hd2 : decide (f.toNat < 2) = false := by simpa using hf2
                have hg5 := HG4.out
                rw [if_neg hf2] at hg5
                rw [hd2] at b2
                have HG5 := Lib.hid hg5
                clear hg5 HG4 hd2
                go_wp2_with (first
                  | (at_builtin; refine appB rfl _ _ rfl w.heap.size _ all rfl hHO3.out (some ⟨g, 14, none⟩) _ _ pc rfl rfl (fun e => by cases e) hbp (by omega) hle3 ?_; intro v4 w4 ho4 hm4 _))
                have hw4 : Mod (fun _ => False) w w4 := hw3.trans hm4 (fun k hk e => by have := (World.ownsRow.lt hHO3.out k e.symm).1; omega)
                obtain ⟨a4, c4, e4, hlc, -, -⟩ := ho4.shape
                have hALL := hall
                rw [← List.length_append] at hALL
                generalize all ++ pc = al at *
                subst e4
                have HO4 := Lib.hid ho4
                clear ho4 hm4 hw3 hbp hHO3 hall
                go_upto_region 10 with fail
                have md4 : Mod (fun _ => False) w4 w4.drew := Mod.drew _ _
                obtain ⟨A, hA⟩ : ∃ A, A = unle (al.take 4) := ⟨_, rfl⟩
                obtain ⟨X, hX⟩ : ∃ X, X = (crc (al.drop 4)).toNat := ⟨_, rfl⟩
                have hXl : X < 4294967296 := by rw [hX]; exact (crc (al.drop 4)).isLt
                rw [← hA, ← hX] at HG5
                have HA := Lib.hid hA
                have HX := Lib.hid hX
                clear hA hX
                obtain ⟨L, hL⟩ : ∃ L, L = al.length := ⟨_, rfl⟩
                rw [← hL] at HG5 hALL hlc ⊢
                have HL := Lib.hid hL
                have HO5 := HO4.out
                rw [← hL] at HO5
                replace HO5 := Lib.hid HO5
                clear hL HO4
                go_cut [68] (fun v68 wx => v68 = .bool (!decide (4 ≤ L ∧ L ≤ 8196 ∧ A = X)) ∧ Mod (fun _ => False) w4 wx)
                case first =>
                  by_cases l1 : (L : Int) < 4
                  · have hg : (!decide (4 ≤ L ∧ L ≤ 8196 ∧ A = X)) = true := by rw [decide_eq_false (by omega)]; rfl
                    have HG4 := Lib.hid hg
                    clear hg
                    refine wp_region_held_drew (S := fun w' => Mod (fun _ => False) w4 w') (by kernel_rfl) (md4) (fun hHeld => ?_)
                    refine wpAnyH_take (i := 0) (oi := { dst := some 51, op := Op.move (Operand.tmp 6), type := 22, pos := "journal.go:83", after := #[], guard := none }) (v := ?_) rfl (by kernel_rfl) (by kernel_rfl) (by kernel_rfl) (fun _ _ _ h => h) (Or.inl ⟨by rfl, ?_⟩) (by assumption) ?_
                    rotate_left
                    · (intro w hSw; (try dsimp only at hSw); go_simp; try with_reducible rfl)
                    simp only [Act.put, List.setIfInBounds_toArray, List.set_cons_zero, List.set_cons_succ]
                    refine wpAnyH_take (i := 1) (oi := { dst := some 52, op := Op.call { callee := Callee.builtin Builtin.len, args := #[Operand.tmp 51], argTypes := #[22] }, type := 3, pos := "journal.go:83", after := #[{ on := 0, ground := Ground.data }], guard := none }) (v := ?_) rfl (by kernel_rfl) (by kernel_rfl) (by kernel_rfl) (fun _ _ _ h => h) (Or.inl ⟨by rfl, ?_⟩) (by assumption) ?_
                    rotate_left
                    · (intro w hSw; (try dsimp only at hSw); go_simp; try with_reducible rfl)
                    simp only [Act.put, List.setIfInBounds_toArray, List.set_cons_zero, List.set_cons_succ]
                    refine wpAnyH_take (i := 2) (oi := { dst := some 53, op := Op.binOp BinOp.lss 3 (Operand.tmp 52) (Operand.const (Value.int IntKind.i64 4)) 3, type := 4, pos := "journal.go:83", after := #[{ on := 1, ground := Ground.data }], guard := none }) (v := ?_) rfl (by kernel_rfl) (by kernel_rfl) (by kernel_rfl) (fun _ _ _ h => h) (Or.inl ⟨by rfl, ?_⟩) (by assumption) ?_
                    rotate_left
                    · (intro w hSw; (try dsimp only at hSw); go_simp; try with_reducible rfl)
                    simp only [Act.put, List.setIfInBounds_toArray, List.set_cons_zero, List.set_cons_succ]
                    refine wpAnyH_take (i := 3) (oi := { dst := some 54, op := Op.move (Operand.tmp 53), type := 4, pos := "journal.go:83", after := #[{ on := 2, ground := Ground.data }], guard := none }) (v := ?_) rfl (by kernel_rfl) (by kernel_rfl) (by kernel_rfl) (fun _ _ _ h => h) (Or.inl ⟨by rfl, ?_⟩) (by assumption) ?_
                    rotate_left
                    · (intro w hSw; (try dsimp only at hSw); go_simp; try with_reducible rfl)
                    simp only [Act.put, List.setIfInBounds_toArray, List.set_cons_zero, List.set_cons_succ]
                    refine wpAnyH_take (i := 4) (oi := { dst := some 55, op := Op.move (Operand.tmp 6), type := 22, pos := "journal.go:83", after := #[{ on := 3, ground := Ground.guard }], guard := some (3, false) }) (v := undef) rfl (by kernel_rfl) (by kernel_rfl) (by kernel_rfl) (fun _ _ _ h => h) (Or.inr ⟨by rfl, rfl⟩) (by assumption) ?_
                    simp only [Act.put, List.setIfInBounds_toArray, List.set_cons_zero, List.set_cons_succ]
                    refine wpAnyH_take (i := 5) (oi := { dst := some 56, op := Op.call { callee := Callee.builtin Builtin.len, args := #[Operand.tmp 55], argTypes := #[22] }, type := 3, pos := "journal.go:83", after := #[{ on := 4, ground := Ground.data }, { on := 3, ground := Ground.guard }], guard := some (3, false) }) (v := undef) rfl (by kernel_rfl) (by kernel_rfl) (by kernel_rfl) (fun _ _ _ h => h) (Or.inr ⟨by rfl, rfl⟩) (by assumption) ?_
                    simp only [Act.put, List.setIfInBounds_toArray, List.set_cons_zero, List.set_cons_succ]
                    refine wpAnyH_take (i := 6) (oi := { dst := some 57, op := Op.binOp BinOp.gtr 3 (Operand.tmp 56) (Operand.const (Value.int IntKind.i64 8196)) 3, type := 4, pos := "journal.go:83", after := #[{ on := 5, ground := Ground.data }, { on := 3, ground := Ground.guard }], guard := some (3, false) }) (v := undef) rfl (by kernel_rfl) (by kernel_rfl) (by kernel_rfl) (fun _ _ _ h => h) (Or.inr ⟨by rfl, rfl⟩) (by assumption) ?_
                    simp only [Act.put, List.setIfInBounds_toArray, List.set_cons_zero, List.set_cons_succ]
                    refine wpAnyH_take (i := 7) (oi := { dst := some 58, op := Op.pick (Operand.tmp 54) (Operand.const (Value.bool true)) (Operand.tmp 57), type := 4, pos := "journal.go:83", after := #[{ on := 3, ground := Ground.data }, { on := 6, ground := Ground.data }], guard := none }) (v := ?_) rfl (by kernel_rfl) (by kernel_rfl) (by kernel_rfl) (fun _ _ _ h => h) (Or.inl ⟨by rfl, ?_⟩) (by assumption) ?_
                    rotate_left
                    · (intro w hSw; (try dsimp only at hSw); go_simp; try with_reducible rfl)
                    simp only [Act.put, List.setIfInBounds_toArray, List.set_cons_zero, List.set_cons_succ]
                    refine wpAnyH_take (i := 8) (oi := { dst := some 59, op := Op.move (Operand.tmp 58), type := 4, pos := "journal.go:83", after := #[{ on := 7, ground := Ground.data }, { on := 3, ground := Ground.chain }], guard := none }) (v := ?_) rfl (by kernel_rfl) (by kernel_rfl) (by kernel_rfl) (fun _ _ _ h => h) (Or.inl ⟨by rfl, ?_⟩) (by assumption) ?_
                    rotate_left
                    · (intro w hSw; (try dsimp only at hSw); go_simp; try with_reducible rfl)
                    simp only [Act.put, List.setIfInBounds_toArray, List.set_cons_zero, List.set_cons_succ]
                    refine wpAnyH_take (i := 9) (oi := { dst := some 60, op := Op.move (Operand.tmp 6), type := 22, pos := "journal.go:83", after := #[{ on := 8, ground := Ground.guard }], guard := some (8, false) }) (v := undef) rfl (by kernel_rfl) (by kernel_rfl) (by kernel_rfl) (fun _ _ _ h => h) (Or.inr ⟨by rfl, rfl⟩) (by assumption) ?_
                    simp only [Act.put, List.setIfInBounds_toArray, List.set_cons_zero, List.set_cons_succ]
                    refine wpAnyH_take (i := 10) (oi := { dst := some 61, op := Op.slice 22 (Operand.tmp 60) none (some (Operand.const (Value.int IntKind.i64 4))) none, type := 22, pos := "journal.go:83", after := #[{ on := 9, ground := Ground.data }, { on := 8, ground := Ground.guard }], guard := some (8, false) }) (v := undef) rfl (by kernel_rfl) (by kernel_rfl) (by kernel_rfl) (fun _ _ _ h => h) (Or.inr ⟨by rfl, rfl⟩) (by assumption) ?_
                    simp only [Act.put, List.setIfInBounds_toArray, List.set_cons_zero, List.set_cons_succ]
                    refine wpAnyH_take (i := 11) (oi := { dst := some 62, op := Op.call { callee := Callee.value (Operand.func 123), args := #[Operand.tmp 61], argTypes := #[22] }, type := 142, pos := "journal.go:83", after := #[{ on := 10, ground := Ground.data }, { on := 8, ground := Ground.chain }, { on := 8, ground := Ground.guard }], guard := some (8, false) }) (v := undef) rfl (by kernel_rfl) (by kernel_rfl) (by kernel_rfl) (fun _ _ _ h => h) (Or.inr ⟨by rfl, rfl⟩) (by assumption) ?_
                    simp only [Act.put, List.setIfInBounds_toArray, List.set_cons_zero, List.set_cons_succ]
                    refine wpAnyH_take (i := 12) (oi := { dst := some 63, op := Op.move (Operand.tmp 6), type := 22, pos := "journal.go:83", after := #[{ on := 8, ground := Ground.guard }], guard := some (8, false) }) (v := undef) rfl (by kernel_rfl) (by kernel_rfl) (by kernel_rfl) (fun _ _ _ h => h) (Or.inr ⟨by rfl, rfl⟩) (by assumption) ?_
                    simp only [Act.put, List.setIfInBounds_toArray, List.set_cons_zero, List.set_cons_succ]
                    refine wpAnyH_take (i := 13) (oi := { dst := some 64, op := Op.slice 22 (Operand.tmp 63) (some (Operand.const (Value.int IntKind.i64 4))) none none, type := 22, pos := "journal.go:83", after := #[{ on := 12, ground := Ground.data }, { on := 8, ground := Ground.guard }], guard := some (8, false) }) (v := undef) rfl (by kernel_rfl) (by kernel_rfl) (by kernel_rfl) (fun _ _ _ h => h) (Or.inr ⟨by rfl, rfl⟩) (by assumption) ?_
                    simp only [Act.put, List.setIfInBounds_toArray, List.set_cons_zero, List.set_cons_succ]
                    refine wpAnyH_take (i := 14) (oi := { dst := some 65, op := Op.call { callee := Callee.value (Operand.func 27), args := #[Operand.tmp 64], argTypes := #[22] }, type := 23, pos := "journal.go:83", after := #[{ on := 13, ground := Ground.data }, { on := 11, ground := Ground.chain }, { on := 8, ground := Ground.guard }], guard := some (8, false) }) (v := undef) rfl (by kernel_rfl) (by kernel_rfl) (by kernel_rfl) (fun _ _ _ h => h) (Or.inr ⟨by rfl, rfl⟩) (by assumption) ?_
                    simp only [Act.put, List.setIfInBounds_toArray, List.set_cons_zero, List.set_cons_succ]
                    refine wpAnyH_take (i := 15) (oi := { dst := some 66, op := Op.convert 23 142 (Operand.tmp 65), type := 142, pos := "journal.go:83", after := #[{ on := 14, ground := Ground.data }, { on := 8, ground := Ground.guard }], guard := some (8, false) }) (v := undef) rfl (by kernel_rfl) (by kernel_rfl) (by kernel_rfl) (fun _ _ _ h => h) (Or.inr ⟨by rfl, rfl⟩) (by assumption) ?_
                    simp only [Act.put, List.setIfInBounds_toArray, List.set_cons_zero, List.set_cons_succ]
                    refine wpAnyH_take (i := 16) (oi := { dst := some 67, op := Op.binOp BinOp.neq 142 (Operand.tmp 62) (Operand.tmp 66) 142, type := 4, pos := "journal.go:83", after := #[{ on := 11, ground := Ground.data }, { on := 15, ground := Ground.data }, { on := 8, ground := Ground.guard }], guard := some (8, false) }) (v := undef) rfl (by kernel_rfl) (by kernel_rfl) (by kernel_rfl) (fun _ _ _ h => h) (Or.inr ⟨by rfl, rfl⟩) (by assumption) ?_
                    simp only [Act.put, List.setIfInBounds_toArray, List.set_cons_zero, List.set_cons_succ]
                    refine wpAnyH_take (i := 17) (oi := { dst := some 68, op := Op.pick (Operand.tmp 59) (Operand.const (Value.bool true)) (Operand.tmp 67), type := 4, pos := "journal.go:83", after := #[{ on := 8, ground := Ground.data }, { on := 16, ground := Ground.data }], guard := none }) (v := ?_) rfl (by kernel_rfl) (by kernel_rfl) (by kernel_rfl) (fun _ _ _ h => h) (Or.inl ⟨by rfl, ?_⟩) (by assumption) ?_
                    rotate_left
                    · (intro w hSw; (try dsimp only at hSw); go_simp; try with_reducible rfl)
                    simp only [Act.put, List.setIfInBounds_toArray, List.set_cons_zero, List.set_cons_succ]
                    refine wpAnyH_done (by kernel_rfl) ?_ _
                    go_wp2_with fail
                    go_meet
                    exact ⟨congrArg Value.bool HG4.out.symm, md4⟩

                  · by_cases l2 : (8196 : Int) < (L : Int)
                    · have hg : (!decide (4 ≤ L ∧ L ≤ 8196 ∧ A = X)) = true := by rw [decide_eq_false (by omega)]; rfl
                      have HG4 := Lib.hid hg
                      clear hg
                      refine wp_region_held_drew (S := fun w' => Mod (fun _ => False) w4 w') (by kernel_rfl) (md4) (fun hHeld => ?_)
                      refine wpAnyH_take (i := 0) (oi := { dst := some 51, op := Op.move (Operand.tmp 6), type := 22, pos := "journal.go:83", after := #[], guard := none }) (v := ?_) rfl (by kernel_rfl) (by kernel_rfl) (by kernel_rfl) (fun _ _ _ h => h) (Or.inl ⟨by rfl, ?_⟩) (by assumption) ?_
                      rotate_left
                      · (intro w hSw; (try dsimp only at hSw); go_simp; try with_reducible rfl)
                      simp only [Act.put, List.setIfInBounds_toArray, List.set_cons_zero, List.set_cons_succ]
                      refine wpAnyH_take (i := 1) (oi := { dst := some 52, op := Op.call { callee := Callee.builtin Builtin.len, args := #[Operand.tmp 51], argTypes := #[22] }, type := 3, pos := "journal.go:83", after := #[{ on := 0, ground := Ground.data }], guard := none }) (v := ?_) rfl (by kernel_rfl) (by kernel_rfl) (by kernel_rfl) (fun _ _ _ h => h) (Or.inl ⟨by rfl, ?_⟩) (by assumption) ?_
                      rotate_left
                      · (intro w hSw; (try dsimp only at hSw); go_simp; try with_reducible rfl)
                      simp only [Act.put, List.setIfInBounds_toArray, List.set_cons_zero, List.set_cons_succ]
                      refine wpAnyH_take (i := 2) (oi := { dst := some 53, op := Op.binOp BinOp.lss 3 (Operand.tmp 52) (Operand.const (Value.int IntKind.i64 4)) 3, type := 4, pos := "journal.go:83", after := #[{ on := 1, ground := Ground.data }], guard := none }) (v := ?_) rfl (by kernel_rfl) (by kernel_rfl) (by kernel_rfl) (fun _ _ _ h => h) (Or.inl ⟨by rfl, ?_⟩) (by assumption) ?_
                      rotate_left
                      · (intro w hSw; (try dsimp only at hSw); go_simp; try with_reducible rfl)
                      simp only [Act.put, List.setIfInBounds_toArray, List.set_cons_zero, List.set_cons_succ]
                      refine wpAnyH_take (i := 3) (oi := { dst := some 54, op := Op.move (Operand.tmp 53), type := 4, pos := "journal.go:83", after := #[{ on := 2, ground := Ground.data }], guard := none }) (v := ?_) rfl (by kernel_rfl) (by kernel_rfl) (by kernel_rfl) (fun _ _ _ h => h) (Or.inl ⟨by rfl, ?_⟩) (by assumption) ?_
                      rotate_left
                      · (intro w hSw; (try dsimp only at hSw); go_simp; try with_reducible rfl)
                      simp only [Act.put, List.setIfInBounds_toArray, List.set_cons_zero, List.set_cons_succ]
                      refine wpAnyH_take (i := 4) (oi := { dst := some 55, op := Op.move (Operand.tmp 6), type := 22, pos := "journal.go:83", after := #[{ on := 3, ground := Ground.guard }], guard := some (3, false) }) (v := ?_) rfl (by kernel_rfl) (by kernel_rfl) (by kernel_rfl) (fun _ _ _ h => h) (Or.inl ⟨by rfl, ?_⟩) (by assumption) ?_
                      rotate_left
                      · (intro w hSw; (try dsimp only at hSw); go_simp; try with_reducible rfl)
                      simp only [Act.put, List.setIfInBounds_toArray, List.set_cons_zero, List.set_cons_succ]
                      refine wpAnyH_take (i := 5) (oi := { dst := some 56, op := Op.call { callee := Callee.builtin Builtin.len, args := #[Operand.tmp 55], argTypes := #[22] }, type := 3, pos := "journal.go:83", after := #[{ on := 4, ground := Ground.data }, { on := 3, ground := Ground.guard }], guard := some (3, false) }) (v := ?_) rfl (by kernel_rfl) (by kernel_rfl) (by kernel_rfl) (fun _ _ _ h => h) (Or.inl ⟨by rfl, ?_⟩) (by assumption) ?_
                      rotate_left
                      · (intro w hSw; (try dsimp only at hSw); go_simp; try with_reducible rfl)
                      simp only [Act.put, List.setIfInBounds_toArray, List.set_cons_zero, List.set_cons_succ]
                      refine wpAnyH_take (i := 6) (oi := { dst := some 57, op := Op.binOp BinOp.gtr 3 (Operand.tmp 56) (Operand.const (Value.int IntKind.i64 8196)) 3, type := 4, pos := "journal.go:83", after := #[{ on := 5, ground := Ground.data }, { on := 3, ground := Ground.guard }], guard := some (3, false) }) (v := ?_) rfl (by kernel_rfl) (by kernel_rfl) (by kernel_rfl) (fun _ _ _ h => h) (Or.inl ⟨by rfl, ?_⟩) (by assumption) ?_
                      rotate_left
                      · (intro w hSw; (try dsimp only at hSw); go_simp; try with_reducible rfl)
                      simp only [Act.put, List.setIfInBounds_toArray, List.set_cons_zero, List.set_cons_succ]
                      refine wpAnyH_take (i := 7) (oi := { dst := some 58, op := Op.pick (Operand.tmp 54) (Operand.const (Value.bool true)) (Operand.tmp 57), type := 4, pos := "journal.go:83", after := #[{ on := 3, ground := Ground.data }, { on := 6, ground := Ground.data }], guard := none }) (v := ?_) rfl (by kernel_rfl) (by kernel_rfl) (by kernel_rfl) (fun _ _ _ h => h) (Or.inl ⟨by rfl, ?_⟩) (by assumption) ?_
                      rotate_left
                      · (intro w hSw; (try dsimp only at hSw); go_simp; try with_reducible rfl)
                      simp only [Act.put, List.setIfInBounds_toArray, List.set_cons_zero, List.set_cons_succ]
                      refine wpAnyH_take (i := 8) (oi := { dst := some 59, op := Op.move (Operand.tmp 58), type := 4, pos := "journal.go:83", after := #[{ on := 7, ground := Ground.data }, { on := 3, ground := Ground.chain }], guard := none }) (v := ?_) rfl (by kernel_rfl) (by kernel_rfl) (by kernel_rfl) (fun _ _ _ h => h) (Or.inl ⟨by rfl, ?_⟩) (by assumption) ?_
                      rotate_left
                      · (intro w hSw; (try dsimp only at hSw); go_simp; try with_reducible rfl)
                      simp only [Act.put, List.setIfInBounds_toArray, List.set_cons_zero, List.set_cons_succ]
                      refine wpAnyH_take (i := 9) (oi := { dst := some 60, op := Op.move (Operand.tmp 6), type := 22, pos := "journal.go:83", after := #[{ on := 8, ground := Ground.guard }], guard := some (8, false) }) (v := undef) rfl (by kernel_rfl) (by kernel_rfl) (by kernel_rfl) (fun _ _ _ h => h) (Or.inr ⟨by rfl, rfl⟩) (by assumption) ?_
                      simp only [Act.put, List.setIfInBounds_toArray, List.set_cons_zero, List.set_cons_succ]
                      refine wpAnyH_take (i := 10) (oi := { dst := some 61, op := Op.slice 22 (Operand.tmp 60) none (some (Operand.const (Value.int IntKind.i64 4))) none, type := 22, pos := "journal.go:83", after := #[{ on := 9, ground := Ground.data }, { on := 8, ground := Ground.guard }], guard := some (8, false) }) (v := undef) rfl (by kernel_rfl) (by kernel_rfl) (by kernel_rfl) (fun _ _ _ h => h) (Or.inr ⟨by rfl, rfl⟩) (by assumption) ?_
                      simp only [Act.put, List.setIfInBounds_toArray, List.set_cons_zero, List.set_cons_succ]
                      refine wpAnyH_take (i := 11) (oi := { dst := some 62, op := Op.call { callee := Callee.value (Operand.func 123), args := #[Operand.tmp 61], argTypes := #[22] }, type := 142, pos := "journal.go:83", after := #[{ on := 10, ground := Ground.data }, { on := 8, ground := Ground.chain }, { on := 8, ground := Ground.guard }], guard := some (8, false) }) (v := undef) rfl (by kernel_rfl) (by kernel_rfl) (by kernel_rfl) (fun _ _ _ h => h) (Or.inr ⟨by rfl, rfl⟩) (by assumption) ?_
                      simp only [Act.put, List.setIfInBounds_toArray, List.set_cons_zero, List.set_cons_succ]
                      refine wpAnyH_take (i := 12) (oi := { dst := some 63, op := Op.move (Operand.tmp 6), type := 22, pos := "journal.go:83", after := #[{ on := 8, ground := Ground.guard }], guard := some (8, false) }) (v := undef) rfl (by kernel_rfl) (by kernel_rfl) (by kernel_rfl) (fun _ _ _ h => h) (Or.inr ⟨by rfl, rfl⟩) (by assumption) ?_
                      simp only [Act.put, List.setIfInBounds_toArray, List.set_cons_zero, List.set_cons_succ]
                      refine wpAnyH_take (i := 13) (oi := { dst := some 64, op := Op.slice 22 (Operand.tmp 63) (some (Operand.const (Value.int IntKind.i64 4))) none none, type := 22, pos := "journal.go:83", after := #[{ on := 12, ground := Ground.data }, { on := 8, ground := Ground.guard }], guard := some (8, false) }) (v := undef) rfl (by kernel_rfl) (by kernel_rfl) (by kernel_rfl) (fun _ _ _ h => h) (Or.inr ⟨by rfl, rfl⟩) (by assumption) ?_
                      simp only [Act.put, List.setIfInBounds_toArray, List.set_cons_zero, List.set_cons_succ]
                      refine wpAnyH_take (i := 14) (oi := { dst := some 65, op := Op.call { callee := Callee.value (Operand.func 27), args := #[Operand.tmp 64], argTypes := #[22] }, type := 23, pos := "journal.go:83", after := #[{ on := 13, ground := Ground.data }, { on := 11, ground := Ground.chain }, { on := 8, ground := Ground.guard }], guard := some (8, false) }) (v := undef) rfl (by kernel_rfl) (by kernel_rfl) (by kernel_rfl) (fun _ _ _ h => h) (Or.inr ⟨by rfl, rfl⟩) (by assumption) ?_
                      simp only [Act.put, List.setIfInBounds_toArray, List.set_cons_zero, List.set_cons_succ]
                      refine wpAnyH_take (i := 15) (oi := { dst := some 66, op := Op.convert 23 142 (Operand.tmp 65), type := 142, pos := "journal.go:83", after := #[{ on := 14, ground := Ground.data }, { on := 8, ground := Ground.guard }], guard := some (8, false) }) (v := undef) rfl (by kernel_rfl) (by kernel_rfl) (by kernel_rfl) (fun _ _ _ h => h) (Or.inr ⟨by rfl, rfl⟩) (by assumption) ?_
                      simp only [Act.put, List.setIfInBounds_toArray, List.set_cons_zero, List.set_cons_succ]
                      refine wpAnyH_take (i := 16) (oi := { dst := some 67, op := Op.binOp BinOp.neq 142 (Operand.tmp 62) (Operand.tmp 66) 142, type := 4, pos := "journal.go:83", after := #[{ on := 11, ground := Ground.data }, { on := 15, ground := Ground.data }, { on := 8, ground := Ground.guard }], guard := some (8, false) }) (v := undef) rfl (by kernel_rfl) (by kernel_rfl) (by kernel_rfl) (fun _ _ _ h => h) (Or.inr ⟨by rfl, rfl⟩) (by assumption) ?_
                      simp only [Act.put, List.setIfInBounds_toArray, List.set_cons_zero, List.set_cons_succ]
                      refine wpAnyH_take (i := 17) (oi := { dst := some 68, op := Op.pick (Operand.tmp 59) (Operand.const (Value.bool true)) (Operand.tmp 67), type := 4, pos := "journal.go:83", after := #[{ on := 8, ground := Ground.data }, { on := 16, ground := Ground.data }], guard := none }) (v := ?_) rfl (by kernel_rfl) (by kernel_rfl) (by kernel_rfl) (fun _ _ _ h => h) (Or.inl ⟨by rfl, ?_⟩) (by assumption) ?_
                      rotate_left
                      · (intro w hSw; (try dsimp only at hSw); go_simp; try with_reducible rfl)
                      simp only [Act.put, List.setIfInBounds_toArray, List.set_cons_zero, List.set_cons_succ]
                      refine wpAnyH_done (by kernel_rfl) ?_ _
                      go_wp2_with fail
                      go_meet
                      exact ⟨congrArg Value.bool HG4.out.symm, md4⟩

                    · have hne : al ≠ [] := by intro e; have := HL.out; rw [e] at this; simp at this; omega
                      obtain ⟨g4, _, _, e4, -, -, -, -, -, -⟩ := HO5.out.row hne
                      injection e4 with e4 e5 e6
                      subst e4
                      clear e5 e6
                      have hcI : (4 : Int) ≤ (c4 : Int) := by omega
                      have hbs4 := (OwnB.bytes HO5.out).2
                      have KB1 : ∀ w', Mod (fun _ => False) w4 w' → Calls Try.prog 123 #[.slice (some ⟨g4, 0, none⟩) 4 c4] w' fun e w'' => e = .returned (.int .u64 (A : Int)) ∧ w' = w'' := fun w' hm' => by
                        have := back_any (some ⟨g4, 0, none⟩) (al.take 4) c4 w' ((hbs4.take0 4).mod hm' (fun _ _ _ => id)) (by rw [List.length_take]; omega)
                        rw [List.length_take, ← HL.out, Nat.min_eq_left (by omega), ← HA.out] at this
                        exact this
                      have KB2 : ∀ w', Mod (fun _ => False) w4 w' → ∀ ax, (ax = (⟨g4, 4, none⟩ : Addr) ∨ L = 4) → Calls Try.prog 27 #[.slice (some ax) (L - 4) (c4 - 4)] w' fun e w'' => e = .returned (.int .u32 (X : Int)) ∧ w' = w'' := fun w' hm' ax hax => by
                        have hdl : (al.drop 4).length = L - 4 := by rw [List.length_drop, ← HL.out]
                        have hb : BytesAt w' (some ax) (al.drop 4) := by
                          rcases hax with rfl | h4
                          · have := (hbs4.sub 4 (L - 4)).mod hm' (fun _ _ _ => id)
                            rw [Nat.zero_add, List.take_of_length_le (by rw [hdl]; exact Nat.le_refl _)] at this
                            exact this
                          · have hnil : al.drop 4 = [] := List.eq_nil_of_length_eq_zero (by rw [hdl]; omega)
                            rw [hnil]
                            exact BytesAt.nil _ _
                        have := sum_n (some ax) (al.drop 4) (L - 4) (c4 - 4) w' hdl (by rw [hdl]; omega) hb
                        rw [← HX.out] at this
                        exact this
                      replace KB1 := Lib.hid KB1
                      replace KB2 := Lib.hid KB2
                      have wX : IntKind.u64.wrap (X : Int) = (X : Int) := IntWalk.u64_in _ (by omega)
                      obtain ⟨bx, hbx⟩ : ∃ bx : Bool, ((A : Int) != (X : Int)) = bx := ⟨_, rfl⟩
                      have hg : (!decide (4 ≤ L ∧ L ≤ 8196 ∧ A = X)) = bx := by
                        rw [← hbx]
                        by_cases h : A = X
                        · rw [decide_eq_true (by omega), h]; simp
                        · rw [decide_eq_false (by omega)]
                          symm
                          rw [show (!false) = true from rfl, bne_iff_ne]
                          omega
                      have HG4 := Lib.hid hg
                      have l3 : (4 : Int) ≤ (L : Int) := by omega
                      have l4 : (L : Int) ≤ 8196 := by omega
                      have l1b : decide ((L : Int) < 4) = false := by simpa using l1
                      have l2b : decide ((8196 : Int) < (L : Int)) = false := by simpa using l2
                      clear hg hbs4 hne
                      by_cases hc4 : c4 = 4
                      · obtain rfl : L = 4 := by omega
                        subst hc4
                        clear l1 l2 l3 l4 hcI
                        refine wp_region_held_drew (S := fun w' => Mod (fun _ => False) w4 w') (by kernel_rfl) (md4) (fun hHeld => ?_)
                        refine wpAnyH_take (i := 0) (oi := { dst := some 51, op := Op.move (Operand.tmp 6), type := 22, pos := "journal.go:83", after := #[], guard := none }) (v := ?_) rfl (by kernel_rfl) (by kernel_rfl) (by kernel_rfl) (fun _ _ _ h => h) (Or.inl ⟨by rfl, ?_⟩) (by assumption) ?_
                        rotate_left
                        · (intro w hSw; (try dsimp only at hSw); go_simp; try with_reducible rfl)
                        simp only [Act.put, List.setIfInBounds_toArray, List.set_cons_zero, List.set_cons_succ]
                        refine wpAnyH_take (i := 1) (oi := { dst := some 52, op := Op.call { callee := Callee.builtin Builtin.len, args := #[Operand.tmp 51], argTypes := #[22] }, type := 3, pos := "journal.go:83", after := #[{ on := 0, ground := Ground.data }], guard := none }) (v := ?_) rfl (by kernel_rfl) (by kernel_rfl) (by kernel_rfl) (fun _ _ _ h => h) (Or.inl ⟨by rfl, ?_⟩) (by assumption) ?_
                        rotate_left
                        · (intro w hSw; (try dsimp only at hSw); go_simp; try with_reducible rfl)
                        simp only [Act.put, List.setIfInBounds_toArray, List.set_cons_zero, List.set_cons_succ]
                        refine wpAnyH_take (i := 2) (oi := { dst := some 53, op := Op.binOp BinOp.lss 3 (Operand.tmp 52) (Operand.const (Value.int IntKind.i64 4)) 3, type := 4, pos := "journal.go:83", after := #[{ on := 1, ground := Ground.data }], guard := none }) (v := ?_) rfl (by kernel_rfl) (by kernel_rfl) (by kernel_rfl) (fun _ _ _ h => h) (Or.inl ⟨by rfl, ?_⟩) (by assumption) ?_
                        rotate_left
                        · (intro w hSw; (try dsimp only at hSw); go_simp; try with_reducible rfl)
                        simp only [Act.put, List.setIfInBounds_toArray, List.set_cons_zero, List.set_cons_succ]
                        refine wpAnyH_take (i := 3) (oi := { dst := some 54, op := Op.move (Operand.tmp 53), type := 4, pos := "journal.go:83", after := #[{ on := 2, ground := Ground.data }], guard := none }) (v := ?_) rfl (by kernel_rfl) (by kernel_rfl) (by kernel_rfl) (fun _ _ _ h => h) (Or.inl ⟨by rfl, ?_⟩) (by assumption) ?_
                        rotate_left
                        · (intro w hSw; (try dsimp only at hSw); go_simp; try with_reducible rfl)
                        simp only [Act.put, List.setIfInBounds_toArray, List.set_cons_zero, List.set_cons_succ]
                        refine wpAnyH_take (i := 4) (oi := { dst := some 55, op := Op.move (Operand.tmp 6), type := 22, pos := "journal.go:83", after := #[{ on := 3, ground := Ground.guard }], guard := some (3, false) }) (v := ?_) rfl (by kernel_rfl) (by kernel_rfl) (by kernel_rfl) (fun _ _ _ h => h) (Or.inl ⟨by rfl, ?_⟩) (by assumption) ?_
                        rotate_left
                        · (intro w hSw; (try dsimp only at hSw); go_simp; try with_reducible rfl)
                        simp only [Act.put, List.setIfInBounds_toArray, List.set_cons_zero, List.set_cons_succ]
                        refine wpAnyH_take (i := 5) (oi := { dst := some 56, op := Op.call { callee := Callee.builtin Builtin.len, args := #[Operand.tmp 55], argTypes := #[22] }, type := 3, pos := "journal.go:83", after := #[{ on := 4, ground := Ground.data }, { on := 3, ground := Ground.guard }], guard := some (3, false) }) (v := ?_) rfl (by kernel_rfl) (by kernel_rfl) (by kernel_rfl) (fun _ _ _ h => h) (Or.inl ⟨by rfl, ?_⟩) (by assumption) ?_
                        rotate_left
                        · (intro w hSw; (try dsimp only at hSw); go_simp; try with_reducible rfl)
                        simp only [Act.put, List.setIfInBounds_toArray, List.set_cons_zero, List.set_cons_succ]
                        refine wpAnyH_take (i := 6) (oi := { dst := some 57, op := Op.binOp BinOp.gtr 3 (Operand.tmp 56) (Operand.const (Value.int IntKind.i64 8196)) 3, type := 4, pos := "journal.go:83", after := #[{ on := 5, ground := Ground.data }, { on := 3, ground := Ground.guard }], guard := some (3, false) }) (v := ?_) rfl (by kernel_rfl) (by kernel_rfl) (by kernel_rfl) (fun _ _ _ h => h) (Or.inl ⟨by rfl, ?_⟩) (by assumption) ?_
                        rotate_left
                        · (intro w hSw; (try dsimp only at hSw); go_simp; try with_reducible rfl)
                        simp only [Act.put, List.setIfInBounds_toArray, List.set_cons_zero, List.set_cons_succ]
                        refine wpAnyH_take (i := 7) (oi := { dst := some 58, op := Op.pick (Operand.tmp 54) (Operand.const (Value.bool true)) (Operand.tmp 57), type := 4, pos := "journal.go:83", after := #[{ on := 3, ground := Ground.data }, { on := 6, ground := Ground.data }], guard := none }) (v := ?_) rfl (by kernel_rfl) (by kernel_rfl) (by kernel_rfl) (fun _ _ _ h => h) (Or.inl ⟨by rfl, ?_⟩) (by assumption) ?_
                        rotate_left
                        · (intro w hSw; (try dsimp only at hSw); go_simp; try with_reducible rfl)
                        simp only [Act.put, List.setIfInBounds_toArray, List.set_cons_zero, List.set_cons_succ]
                        refine wpAnyH_take (i := 8) (oi := { dst := some 59, op := Op.move (Operand.tmp 58), type := 4, pos := "journal.go:83", after := #[{ on := 7, ground := Ground.data }, { on := 3, ground := Ground.chain }], guard := none }) (v := ?_) rfl (by kernel_rfl) (by kernel_rfl) (by kernel_rfl) (fun _ _ _ h => h) (Or.inl ⟨by rfl, ?_⟩) (by assumption) ?_
                        rotate_left
                        · (intro w hSw; (try dsimp only at hSw); go_simp; try with_reducible rfl)
                        simp only [Act.put, List.setIfInBounds_toArray, List.set_cons_zero, List.set_cons_succ]
                        refine wpAnyH_take (i := 9) (oi := { dst := some 60, op := Op.move (Operand.tmp 6), type := 22, pos := "journal.go:83", after := #[{ on := 8, ground := Ground.guard }], guard := some (8, false) }) (v := ?_) rfl (by kernel_rfl) (by kernel_rfl) (by kernel_rfl) (fun _ _ _ h => h) (Or.inl ⟨by rfl, ?_⟩) (by assumption) ?_
                        rotate_left
                        · (intro w hSw; (try dsimp only at hSw); go_simp; try with_reducible rfl)
                        simp only [Act.put, List.setIfInBounds_toArray, List.set_cons_zero, List.set_cons_succ]
                        refine wpAnyH_take (i := 10) (oi := { dst := some 61, op := Op.slice 22 (Operand.tmp 60) none (some (Operand.const (Value.int IntKind.i64 4))) none, type := 22, pos := "journal.go:83", after := #[{ on := 9, ground := Ground.data }, { on := 8, ground := Ground.guard }], guard := some (8, false) }) (v := ?_) rfl (by kernel_rfl) (by kernel_rfl) (by kernel_rfl) (fun _ _ _ h => h) (Or.inl ⟨by rfl, ?_⟩) (by assumption) ?_
                        rotate_left
                        · (intro w hSw; (try dsimp only at hSw); go_simp; try with_reducible rfl)
                        simp only [Act.put, List.setIfInBounds_toArray, List.set_cons_zero, List.set_cons_succ]
                        refine wpAnyH_take (i := 12) (oi := { dst := some 63, op := Op.move (Operand.tmp 6), type := 22, pos := "journal.go:83", after := #[{ on := 8, ground := Ground.guard }], guard := some (8, false) }) (v := ?_) rfl (by kernel_rfl) (by kernel_rfl) (by kernel_rfl) (fun _ _ _ h => h) (Or.inl ⟨by rfl, ?_⟩) (by assumption) ?_
                        rotate_left
                        · (intro w hSw; (try dsimp only at hSw); go_simp; try with_reducible rfl)
                        simp only [Act.put, List.setIfInBounds_toArray, List.set_cons_zero, List.set_cons_succ]
                        refine wpAnyH_take (i := 13) (oi := { dst := some 64, op := Op.slice 22 (Operand.tmp 63) (some (Operand.const (Value.int IntKind.i64 4))) none none, type := 22, pos := "journal.go:83", after := #[{ on := 12, ground := Ground.data }, { on := 8, ground := Ground.guard }], guard := some (8, false) }) (v := ?_) rfl (by kernel_rfl) (by kernel_rfl) (by kernel_rfl) (fun _ _ _ h => h) (Or.inl ⟨by rfl, ?_⟩) (by assumption) ?_
                        rotate_left
                        · (intro w hSw; (try dsimp only at hSw); go_simp; try with_reducible rfl)
                        simp only [Act.put, List.setIfInBounds_toArray, List.set_cons_zero, List.set_cons_succ]
                        refine held_call (i := 11) (oi := { dst := some 62, op := Op.call { callee := Callee.value (Operand.func 123), args := #[Operand.tmp 61], argTypes := #[22] }, type := 142, pos := "journal.go:83", after := #[{ on := 10, ground := Ground.data }, { on := 8, ground := Ground.chain }, { on := 8, ground := Ground.guard }], guard := some (8, false) }) (v := (.int .u64 (A : Int))) rfl (by kernel_rfl) (by kernel_rfl) (by kernel_rfl) (fun _ _ _ h => h) (by assumption) 123 #[.slice (some ⟨g4, 0, none⟩) 4 4] (by rfl) (fun w => by go_simp) (fun w hSw => KB1.out _ hSw) ?_
                        simp only [Act.put, List.setIfInBounds_toArray, List.set_cons_zero, List.set_cons_succ]
                        refine held_call (i := 14) (oi := { dst := some 65, op := Op.call { callee := Callee.value (Operand.func 27), args := #[Operand.tmp 64], argTypes := #[22] }, type := 23, pos := "journal.go:83", after := #[{ on := 13, ground := Ground.data }, { on := 11, ground := Ground.chain }, { on := 8, ground := Ground.guard }], guard := some (8, false) }) (v := (.int .u32 (X : Int))) rfl (by kernel_rfl) (by kernel_rfl) (by kernel_rfl) (fun _ _ _ h => h) (by assumption) 27 #[.slice (some ⟨g4, 0, none⟩) (4 - 4) (4 - 4)] (by rfl) (fun w => by go_simp) (fun w hSw => KB2.out _ hSw _ (.inr rfl)) ?_
                        simp only [Act.put, List.setIfInBounds_toArray, List.set_cons_zero, List.set_cons_succ]
                        refine wpAnyH_take (i := 15) (oi := { dst := some 66, op := Op.convert 23 142 (Operand.tmp 65), type := 142, pos := "journal.go:83", after := #[{ on := 14, ground := Ground.data }, { on := 8, ground := Ground.guard }], guard := some (8, false) }) (v := ?_) rfl (by kernel_rfl) (by kernel_rfl) (by kernel_rfl) (fun _ _ _ h => h) (Or.inl ⟨by rfl, ?_⟩) (by assumption) ?_
                        rotate_left
                        · (intro w hSw; (try dsimp only at hSw); go_simp; try with_reducible rfl)
                        simp only [Act.put, List.setIfInBounds_toArray, List.set_cons_zero, List.set_cons_succ]
                        refine wpAnyH_take (i := 16) (oi := { dst := some 67, op := Op.binOp BinOp.neq 142 (Operand.tmp 62) (Operand.tmp 66) 142, type := 4, pos := "journal.go:83", after := #[{ on := 11, ground := Ground.data }, { on := 15, ground := Ground.data }, { on := 8, ground := Ground.guard }], guard := some (8, false) }) (v := ?_) rfl (by kernel_rfl) (by kernel_rfl) (by kernel_rfl) (fun _ _ _ h => h) (Or.inl ⟨by rfl, ?_⟩) (by assumption) ?_
                        rotate_left
                        · (intro w hSw; (try dsimp only at hSw); go_simp; try with_reducible rfl)
                        simp only [Act.put, List.setIfInBounds_toArray, List.set_cons_zero, List.set_cons_succ]
                        refine wpAnyH_take (i := 17) (oi := { dst := some 68, op := Op.pick (Operand.tmp 59) (Operand.const (Value.bool true)) (Operand.tmp 67), type := 4, pos := "journal.go:83", after := #[{ on := 8, ground := Ground.data }, { on := 16, ground := Ground.data }], guard := none }) (v := ?_) rfl (by kernel_rfl) (by kernel_rfl) (by kernel_rfl) (fun _ _ _ h => h) (Or.inl ⟨by rfl, ?_⟩) (by assumption) ?_
                        rotate_left
                        · (intro w hSw; (try dsimp only at hSw); go_simp; try with_reducible rfl)
                        simp only [Act.put, List.setIfInBounds_toArray, List.set_cons_zero, List.set_cons_succ]
                        refine wpAnyH_done (by kernel_rfl) ?_ _
                        go_wp2_with fail
                        go_meet
                        exact ⟨congrArg Value.bool HG4.out.symm, md4⟩

                      · have hs0 : ¬ (c4 = 4) := hc4
                        refine wp_region_held_drew (S := fun w' => Mod (fun _ => False) w4 w') (by kernel_rfl) (md4) (fun hHeld => ?_)
                        refine wpAnyH_take (i := 0) (oi := { dst := some 51, op := Op.move (Operand.tmp 6), type := 22, pos := "journal.go:83", after := #[], guard := none }) (v := ?_) rfl (by kernel_rfl) (by kernel_rfl) (by kernel_rfl) (fun _ _ _ h => h) (Or.inl ⟨by rfl, ?_⟩) (by assumption) ?_
                        rotate_left
                        · (intro w hSw; (try dsimp only at hSw); go_simp; try with_reducible rfl)
                        simp only [Act.put, List.setIfInBounds_toArray, List.set_cons_zero, List.set_cons_succ]
                        refine wpAnyH_take (i := 1) (oi := { dst := some 52, op := Op.call { callee := Callee.builtin Builtin.len, args := #[Operand.tmp 51], argTypes := #[22] }, type := 3, pos := "journal.go:83", after := #[{ on := 0, ground := Ground.data }], guard := none }) (v := ?_) rfl (by kernel_rfl) (by kernel_rfl) (by kernel_rfl) (fun _ _ _ h => h) (Or.inl ⟨by rfl, ?_⟩) (by assumption) ?_
                        rotate_left
                        · (intro w hSw; (try dsimp only at hSw); go_simp; try with_reducible rfl)
                        simp only [Act.put, List.setIfInBounds_toArray, List.set_cons_zero, List.set_cons_succ]
                        refine wpAnyH_take (i := 2) (oi := { dst := some 53, op := Op.binOp BinOp.lss 3 (Operand.tmp 52) (Operand.const (Value.int IntKind.i64 4)) 3, type := 4, pos := "journal.go:83", after := #[{ on := 1, ground := Ground.data }], guard := none }) (v := ?_) rfl (by kernel_rfl) (by kernel_rfl) (by kernel_rfl) (fun _ _ _ h => h) (Or.inl ⟨by rfl, ?_⟩) (by assumption) ?_
                        rotate_left
                        · (intro w hSw; (try dsimp only at hSw); go_simp; try with_reducible rfl)
                        simp only [Act.put, List.setIfInBounds_toArray, List.set_cons_zero, List.set_cons_succ]
                        refine wpAnyH_take (i := 3) (oi := { dst := some 54, op := Op.move (Operand.tmp 53), type := 4, pos := "journal.go:83", after := #[{ on := 2, ground := Ground.data }], guard := none }) (v := ?_) rfl (by kernel_rfl) (by kernel_rfl) (by kernel_rfl) (fun _ _ _ h => h) (Or.inl ⟨by rfl, ?_⟩) (by assumption) ?_
                        rotate_left
                        · (intro w hSw; (try dsimp only at hSw); go_simp; try with_reducible rfl)
                        simp only [Act.put, List.setIfInBounds_toArray, List.set_cons_zero, List.set_cons_succ]
                        refine wpAnyH_take (i := 4) (oi := { dst := some 55, op := Op.move (Operand.tmp 6), type := 22, pos := "journal.go:83", after := #[{ on := 3, ground := Ground.guard }], guard := some (3, false) }) (v := ?_) rfl (by kernel_rfl) (by kernel_rfl) (by kernel_rfl) (fun _ _ _ h => h) (Or.inl ⟨by rfl, ?_⟩) (by assumption) ?_
                        rotate_left
                        · (intro w hSw; (try dsimp only at hSw); go_simp; try with_reducible rfl)
                        simp only [Act.put, List.setIfInBounds_toArray, List.set_cons_zero, List.set_cons_succ]
                        refine wpAnyH_take (i := 5) (oi := { dst := some 56, op := Op.call { callee := Callee.builtin Builtin.len, args := #[Operand.tmp 55], argTypes := #[22] }, type := 3, pos := "journal.go:83", after := #[{ on := 4, ground := Ground.data }, { on := 3, ground := Ground.guard }], guard := some (3, false) }) (v := ?_) rfl (by kernel_rfl) (by kernel_rfl) (by kernel_rfl) (fun _ _ _ h => h) (Or.inl ⟨by rfl, ?_⟩) (by assumption) ?_
                        rotate_left
                        · (intro w hSw; (try dsimp only at hSw); go_simp; try with_reducible rfl)
                        simp only [Act.put, List.setIfInBounds_toArray, List.set_cons_zero, List.set_cons_succ]
                        refine wpAnyH_take (i := 6) (oi := { dst := some 57, op := Op.binOp BinOp.gtr 3 (Operand.tmp 56) (Operand.const (Value.int IntKind.i64 8196)) 3, type := 4, pos := "journal.go:83", after := #[{ on := 5, ground := Ground.data }, { on := 3, ground := Ground.guard }], guard := some (3, false) }) (v := ?_) rfl (by kernel_rfl) (by kernel_rfl) (by kernel_rfl) (fun _ _ _ h => h) (Or.inl ⟨by rfl, ?_⟩) (by assumption) ?_
                        rotate_left
                        · (intro w hSw; (try dsimp only at hSw); go_simp; try with_reducible rfl)
                        simp only [Act.put, List.setIfInBounds_toArray, List.set_cons_zero, List.set_cons_succ]
                        refine wpAnyH_take (i := 7) (oi := { dst := some 58, op := Op.pick (Operand.tmp 54) (Operand.const (Value.bool true)) (Operand.tmp 57), type := 4, pos := "journal.go:83", after := #[{ on := 3, ground := Ground.data }, { on := 6, ground := Ground.data }], guard := none }) (v := ?_) rfl (by kernel_rfl) (by kernel_rfl) (by kernel_rfl) (fun _ _ _ h => h) (Or.inl ⟨by rfl, ?_⟩) (by assumption) ?_
                        rotate_left
                        · (intro w hSw; (try dsimp only at hSw); go_simp; try with_reducible rfl)
                        simp only [Act.put, List.setIfInBounds_toArray, List.set_cons_zero, List.set_cons_succ]
                        refine wpAnyH_take (i := 8) (oi := { dst := some 59, op := Op.move (Operand.tmp 58), type := 4, pos := "journal.go:83", after := #[{ on := 7, ground := Ground.data }, { on := 3, ground := Ground.chain }], guard := none }) (v := ?_) rfl (by kernel_rfl) (by kernel_rfl) (by kernel_rfl) (fun _ _ _ h => h) (Or.inl ⟨by rfl, ?_⟩) (by assumption) ?_
                        rotate_left
                        · (intro w hSw; (try dsimp only at hSw); go_simp; try with_reducible rfl)
                        simp only [Act.put, List.setIfInBounds_toArray, List.set_cons_zero, List.set_cons_succ]
                        refine wpAnyH_take (i := 9) (oi := { dst := some 60, op := Op.move (Operand.tmp 6), type := 22, pos := "journal.go:83", after := #[{ on := 8, ground := Ground.guard }], guard := some (8, false) }) (v := ?_) rfl (by kernel_rfl) (by kernel_rfl) (by kernel_rfl) (fun _ _ _ h => h) (Or.inl ⟨by rfl, ?_⟩) (by assumption) ?_
                        rotate_left
                        · (intro w hSw; (try dsimp only at hSw); go_simp; try with_reducible rfl)
                        simp only [Act.put, List.setIfInBounds_toArray, List.set_cons_zero, List.set_cons_succ]
                        refine wpAnyH_take (i := 10) (oi := { dst := some 61, op := Op.slice 22 (Operand.tmp 60) none (some (Operand.const (Value.int IntKind.i64 4))) none, type := 22, pos := "journal.go:83", after := #[{ on := 9, ground := Ground.data }, { on := 8, ground := Ground.guard }], guard := some (8, false) }) (v := ?_) rfl (by kernel_rfl) (by kernel_rfl) (by kernel_rfl) (fun _ _ _ h => h) (Or.inl ⟨by rfl, ?_⟩) (by assumption) ?_
                        rotate_left
                        · (intro w hSw; (try dsimp only at hSw); go_simp; try with_reducible rfl)
                        simp only [Act.put, List.setIfInBounds_toArray, List.set_cons_zero, List.set_cons_succ]
                        refine wpAnyH_take (i := 12) (oi := { dst := some 63, op := Op.move (Operand.tmp 6), type := 22, pos := "journal.go:83", after := #[{ on := 8, ground := Ground.guard }], guard := some (8, false) }) (v := ?_) rfl (by kernel_rfl) (by kernel_rfl) (by kernel_rfl) (fun _ _ _ h => h) (Or.inl ⟨by rfl, ?_⟩) (by assumption) ?_
                        rotate_left
                        · (intro w hSw; (try dsimp only at hSw); go_simp; try with_reducible rfl)
                        simp only [Act.put, List.setIfInBounds_toArray, List.set_cons_zero, List.set_cons_succ]
                        refine wpAnyH_take (i := 13) (oi := { dst := some 64, op := Op.slice 22 (Operand.tmp 63) (some (Operand.const (Value.int IntKind.i64 4))) none none, type := 22, pos := "journal.go:83", after := #[{ on := 12, ground := Ground.data }, { on := 8, ground := Ground.guard }], guard := some (8, false) }) (v := ?_) rfl (by kernel_rfl) (by kernel_rfl) (by kernel_rfl) (fun _ _ _ h => h) (Or.inl ⟨by rfl, ?_⟩) (by assumption) ?_
                        rotate_left
                        · (intro w hSw; (try dsimp only at hSw); go_simp; try with_reducible rfl)
                        simp only [Act.put, List.setIfInBounds_toArray, List.set_cons_zero, List.set_cons_succ]
                        refine held_call (i := 11) (oi := { dst := some 62, op := Op.call { callee := Callee.value (Operand.func 123), args := #[Operand.tmp 61], argTypes := #[22] }, type := 142, pos := "journal.go:83", after := #[{ on := 10, ground := Ground.data }, { on := 8, ground := Ground.chain }, { on := 8, ground := Ground.guard }], guard := some (8, false) }) (v := (.int .u64 (A : Int))) rfl (by kernel_rfl) (by kernel_rfl) (by kernel_rfl) (fun _ _ _ h => h) (by assumption) 123 #[.slice (some ⟨g4, 0, none⟩) 4 c4] (by rfl) (fun w => by go_simp) (fun w hSw => KB1.out _ hSw) ?_
                        simp only [Act.put, List.setIfInBounds_toArray, List.set_cons_zero, List.set_cons_succ]
                        refine held_call (i := 14) (oi := { dst := some 65, op := Op.call { callee := Callee.value (Operand.func 27), args := #[Operand.tmp 64], argTypes := #[22] }, type := 23, pos := "journal.go:83", after := #[{ on := 13, ground := Ground.data }, { on := 11, ground := Ground.chain }, { on := 8, ground := Ground.guard }], guard := some (8, false) }) (v := (.int .u32 (X : Int))) rfl (by kernel_rfl) (by kernel_rfl) (by kernel_rfl) (fun _ _ _ h => h) (by assumption) 27 #[.slice (some ⟨g4, 4, none⟩) (L - 4) (c4 - 4)] (by rfl) (fun w => by go_simp) (fun w hSw => KB2.out _ hSw _ (.inl rfl)) ?_
                        simp only [Act.put, List.setIfInBounds_toArray, List.set_cons_zero, List.set_cons_succ]
                        refine wpAnyH_take (i := 15) (oi := { dst := some 66, op := Op.convert 23 142 (Operand.tmp 65), type := 142, pos := "journal.go:83", after := #[{ on := 14, ground := Ground.data }, { on := 8, ground := Ground.guard }], guard := some (8, false) }) (v := ?_) rfl (by kernel_rfl) (by kernel_rfl) (by kernel_rfl) (fun _ _ _ h => h) (Or.inl ⟨by rfl, ?_⟩) (by assumption) ?_
                        rotate_left
                        · (intro w hSw; (try dsimp only at hSw); go_simp; try with_reducible rfl)
                        simp only [Act.put, List.setIfInBounds_toArray, List.set_cons_zero, List.set_cons_succ]
                        refine wpAnyH_take (i := 16) (oi := { dst := some 67, op := Op.binOp BinOp.neq 142 (Operand.tmp 62) (Operand.tmp 66) 142, type := 4, pos := "journal.go:83", after := #[{ on := 11, ground := Ground.data }, { on := 15, ground := Ground.data }, { on := 8, ground := Ground.guard }], guard := some (8, false) }) (v := ?_) rfl (by kernel_rfl) (by kernel_rfl) (by kernel_rfl) (fun _ _ _ h => h) (Or.inl ⟨by rfl, ?_⟩) (by assumption) ?_
                        rotate_left
                        · (intro w hSw; (try dsimp only at hSw); go_simp; try with_reducible rfl)
                        simp only [Act.put, List.setIfInBounds_toArray, List.set_cons_zero, List.set_cons_succ]
                        refine wpAnyH_take (i := 17) (oi := { dst := some 68, op := Op.pick (Operand.tmp 59) (Operand.const (Value.bool true)) (Operand.tmp 67), type := 4, pos := "journal.go:83", after := #[{ on := 8, ground := Ground.data }, { on := 16, ground := Ground.data }], guard := none }) (v := ?_) rfl (by kernel_rfl) (by kernel_rfl) (by kernel_rfl) (fun _ _ _ h => h) (Or.inl ⟨by rfl, ?_⟩) (by assumption) ?_
                        rotate_left
                        · (intro w hSw; (try dsimp only at hSw); go_simp; try with_reducible rfl)
                        simp only [Act.put, List.setIfInBounds_toArray, List.set_cons_zero, List.set_cons_succ]
                        refine wpAnyH_done (by kernel_rfl) ?_ _
                        go_wp2_with fail
                        go_meet
                        exact ⟨congrArg Value.bool HG4.out.symm, md4⟩

                case rest =>
                  obtain ⟨rfl, hm5⟩ := hcut
                  have hw5 := hw4.trans' hm5
                  have HO6 := Lib.hid (HO5.out.mod hm5 (fun _ _ => id))
                  clear md4 hw4 HO5
                  have hg6 := HG5.out
                  by_cases hgd : 4 ≤ L ∧ L ≤ 8196 ∧ A = X
                  · rw [if_pos hgd] at hg6
                    rw [decide_eq_true hgd]
                    have HG6 := Lib.hid hg6
                    have hne : al ≠ [] := by intro e; have := HL.out; rw [e] at this; simp at this; omega
                    obtain ⟨g4, _, _, e4, -, -, -, -, -, -⟩ := HO6.out.row hne
                    injection e4 with e4 e5 e6
                    subst e4
                    clear e5 e6
                    have l3 : (4 : Int) ≤ (L : Int) := by omega
                    have hcI : (L : Int) ≤ (c4 : Int) := by omega
                    have hsz : C ≤ wc.heap.size := Nat.le_trans hC hw5.size
                    have hn4 : n ≤ 4096 := by omega
                    have hbs4 := (OwnB.bytes HO6.out).2
                    have KC : ∀ ax, (ax = (⟨g4, 4, none⟩ : Addr) ∨ L = 4) → Calls Try.prog 86 #[.slice (some ax) (L - 4) (c4 - 4)] wc fun e w'' => ∃ v, e = .returned v ∧ OwnB w'' C v (al.drop 4) ∧ Mod (fun _ => False) wc w'' ∧ (∀ k, v.ownBlock = some k → wc.heap.size ≤ k) := fun ax hax => by
                      have hdl : (al.drop 4).length = L - 4 := by rw [List.length_drop, ← HL.out]
                      have hb : BytesAt wc (some ax) (al.drop 4) := by
                        rcases hax with rfl | h4
                        · have := hbs4.sub 4 (L - 4)
                          rw [Nat.zero_add, List.take_of_length_le (by rw [hdl]; exact Nat.le_refl _)] at this
                          exact this
                        · have hnil : al.drop 4 = [] := List.eq_nil_of_length_eq_zero (by rw [hdl]; omega)
                          rw [hnil]
                          exact BytesAt.nil _ _
                      exact clone_n (some ax) (al.drop 4) (L - 4) (c4 - 4) wc C hdl hsz (by rw [hdl]; omega) (fun e => by cases e) hb
                    replace KC := Lib.hid KC
                    clear hg6 hgd hbs4 HG5
                    by_cases hc4 : c4 = 4
                    · obtain rfl : L = 4 := by omega
                      subst hc4
                      clear l3 hcI
                      go_wp2_with fail
                      refine (KC.out _ (by first | exact .inr rfl | exact .inr trivial)).mono ?_
                      rintro e w6 ⟨v, rfl, hv, hm6, hn6⟩
                      go_wp2
                      go_ret2
                      exact ⟨.inr ⟨_, n + 1, _, HG6.out.symm, rfl, hv, fun k hk => Nat.le_trans hw5.size (hn6 k hk)⟩, hw5.trans' hm6⟩
                    · go_wp2_with fail
                      refine (KC.out _ (.inl rfl)).mono ?_
                      rintro e w6 ⟨v, rfl, hv, hm6, hn6⟩
                      go_wp2
                      go_ret2
                      exact ⟨.inr ⟨_, n + 1, _, HG6.out.symm, rfl, hv, fun k hk => Nat.le_trans hw5.size (hn6 k hk)⟩, hw5.trans' hm6⟩
                  · rw [if_neg hgd] at hg6
                    rw [decide_eq_false hgd]
                    have HG6 := Lib.hid hg6
                    clear hg6 hgd HG5
                    go_wp2
                    go_ret2
                    exact ⟨.inl ⟨HG6.out.symm, rfl⟩, hw5⟩
            · have hON : O = none := by have := HG3.out; rw [hmm, if_pos rfl] at this; exact this.symm
              have HON := Lib.hid hON
              clear hON hmm HG3 ho3
              go_wp2
              go_ret2
              exact ⟨.inl ⟨HON.out, rfl⟩, hw3⟩
      · have hdf : decide (n < fu) = false := by simpa using hlt
        rw [hdf]
        obtain rfl : n = fu := by omega
        have hON : O = none := by rw [← HGO.out, Nat.sub_self]; rfl
        have HON := Lib.hid hON
        clear hON hdf HGO
        go_wp2
        go_ret2
        exact ⟨.inl ⟨HON.out, rfl⟩, hmd⟩
end Go.Proofs.Ytdinnkacilgmmaa
namespace Go.Proofs.Ytdinnkacilgmmaa
open Go.RowKit

/-- what stands where records will be is gone: behind n numbers -/
def scrubGo (J : Jr) (D : Dsk) : Nat → Dsk × Bool
  | 0 => (D, false)
  | n + 1 => if (J.rd (scrubGo J D n).1 (J.next + n)).isSome = true then ((scrubGo J D n).1.write (J.place (J.next + n) : Int) [], true) else scrubGo J D n
def Jr.scrub (J : Jr) (D : Dsk) : Dsk := if (scrubGo J D J.size).2 = true then (scrubGo J D J.size).1.sync else (scrubGo J D J.size).1

structure Dsk.fine (D : Dsk) : Prop where
  bad : D.bad = false
  full : D.full = false
  gone : D.gone = false

theorem Dsk.fine.why {D : Dsk} (h : D.fine) (n : Nat) (hn : n < D.N) (b : List UInt8) (hb : b.length ≤ 256) : D.why (n : Int) b = 0 := by
  unfold Dsk.why
  rw [if_neg (by rw [h.gone]; decide), if_neg (by omega), if_neg (by omega), if_neg (by rw [h.full]; decide)]

theorem scrub_keeps (J : Jr) (D : Dsk) (h : D.fine) : ∀ n, (scrubGo J D n).1.safe = D.safe ∧ (scrubGo J D n).1.l.length ≤ D.l.length + n ∧ (scrubGo J D n).1.fine := by
  intro n
  induction n with
  | zero => exact ⟨rfl, by simp [scrubGo], h⟩
  | succ n ih =>
    obtain ⟨h1, h2, h3⟩ := ih
    simp only [scrubGo]
    split
    · unfold Dsk.write
      split
      · exact ⟨h1, by simp; omega, ⟨h3.bad, h3.full, h3.gone⟩⟩
      · exact ⟨h1, Nat.le_succ_of_le h2, h3⟩
    · exact ⟨h1, Nat.le_succ_of_le h2, h3⟩

set_option maxHeartbeats 4000000 in
set_option maxRecDepth 100000 in
theorem scrub_any {w : World} {B q p : Nat} {J : Jr} {D : Dsk} {F : Nat → Prop} (hj : JAt w q p J) (hd : DiskAt w B p D F) (hq : ¬ F q) (hfine : D.fine) (hs1 : 1 ≤ J.next) (hs2 : J.next + J.size ≤ 2305843009213693952) (hz1 : 1 ≤ J.size) (hfit : J.frm + J.size ≤ D.N) (hlim : D.l.length ≤ 1000000) :
    Calls Try.prog 96 #[.pointer (some ⟨q, 0, none⟩)] w fun e w' => e = .returned (.int .i64 0) ∧ Turned w B p F (J.scrub D) w' := by
  obtain ⟨c0, -, c2, -, c4, -⟩ := hj.cell
  have htop := hd.wf.top
  have hz2 : J.size ≤ 4096 := by omega
  have hf : J.frm ≤ 4096 := by omega
  have HK := Lib.hid (scrub_keeps J D hfine)
  have hND : ∀ n, (scrubGo J D n).1.N = D.N := fun n => by unfold Dsk.N; rw [(scrub_keeps J D hfine n).1]
  have HND := Lib.hid hND
  have hplc : ∀ k, J.place k < D.N := fun k => by
    have := Nat.mod_lt (k - 1) (show 0 < J.size by omega)
    unfold Jr.place
    omega
  have HPL := Lib.hid hplc
  have HJ := Lib.hid hj
  have hpw : DiskAt w B p D F := hd
  clear hND hplc hj
  go_enter Try.func96, Try.ntmps96
  go_upto_block 0 with fail
  go_cut [3] (fun v3 wx => ∃ F', v3 = .bool (scrubGo J D J.size).2 ∧ DiskAt wx B p (scrubGo J D J.size).1 F' ∧ Mod F w wx ∧ ∀ k, F' k → F k ∨ w.heap.size ≤ k)
  case first =>
    go_wp2_with fail
    go_loopw [3, 13] (fun v3 v13 wr => ∃ (n : Nat) (F' : Nat → Prop), n ≤ J.size ∧ v13 = .int .i64 (n : Int) ∧ v3 = .bool (scrubGo J D n).2 ∧ DiskAt wr B p (scrubGo J D n).1 F' ∧ Mod F w wr ∧ ∀ k, F' k → F k ∨ w.heap.size ≤ k) (fun _ v13 _ => J.size - (intOf v13).toNat)
    case atStart => exact ⟨0, F, Nat.zero_le _, rfl, rfl, hpw, Mod.refl _ _, fun k hk => .inl hk⟩
    case round =>
      obtain ⟨n, F', hn, rfl, rfl, hdn, hm, hsub⟩ := hrel
      by_cases hlt : n < J.size
      · have hlt' : (n : Int) < (J.size : Int) := by omega
        obtain ⟨k1, k2, k3⟩ := HK.out n
        have hN := HND.out n
        have hjr := HJ.out.mod hm hq
        have d0 := hm.cell' c0 hq
        have d4 := hm.cell' c4 hq
        have hat := jat_any hjr hdn (J.next + n) (by omega) (by omega) hf hz1 hz2 (by rw [hN]; exact HPL.out _)
        rw [show ((J.next + n : Nat) : Int) = (J.next : Int) + (n : Int) by omega] at hat
        have hsucc : scrubGo J D (n + 1) = if (J.rd (scrubGo J D n).1 (J.next + n)).isSome = true then ((scrubGo J D n).1.write (J.place (J.next + n) : Int) [], true) else scrubGo J D n := rfl
        have hwhy := k3.why (J.place (J.next + n)) (by rw [hN]; exact HPL.out _) [] (by decide)
        have hlim2 : (scrubGo J D n).1.l.length + 1 ≤ 1048576 := by omega
        rw [show right (sector (scrubGo J D n).1.now (J.place (J.next + n))) (J.next + n) = J.rd (scrubGo J D n).1 (J.next + n) from rfl] at hat
        have HS := Lib.hid hsucc
        have HW := Lib.hid hwhy
        have HAT := Lib.hid hat
        have hsI : (J.next : Int) + (n : Int) ≤ 2305843009213693952 := by omega
        have HSUB := Lib.hid hsub
        have HQ2 : ¬ F' q := fun e => by
          rcases hsub q e with h | h
          · exact hq h
          · have := lt_of_block HJ.out; omega
        clear hsucc hwhy hat k1 k2 k3 hN hsub
        generalize scrubGo J D n = E at *
        go_wp2_with fail
        refine HAT.out.mono ?_
        rintro e w3 ⟨ha, hm3⟩
        rcases ha with ⟨hnone, rfl⟩ | ⟨f, pc, g, hsome, rfl, -, -⟩
        · have hE : scrubGo J D (n + 1) = E := by rw [HS.out, hnone]; rfl
          have HE := Lib.hid hE
          clear hE HS HAT hnone
          go_wp2
          go_roundw
          case rel => exact ⟨n + 1, F', by omega, by go_num, by rw [HE.out], by rw [HE.out]; exact hdn.mod hm3 (fun _ _ => id), hm.trans hm3 (fun _ _ e => e.elim), HSUB.out⟩
          case measure => simp [intOf]; omega
        · have hE : scrubGo J D (n + 1) = (E.1.write (J.place (J.next + n) : Int) [], true) := by rw [HS.out, hsome]; rfl
          have HE := Lib.hid hE
          clear hE HS HAT hsome
          have hd3 := hdn.mod hm3 (fun _ _ => id)
          have hj3 := hjr.mod hm3 id
          have e0 := hm3.cell' d0 id
          have e4 := hm3.cell' d4 id
          have KP : ∀ w', Mod (fun _ => False) w3 w' → Calls Try.prog 100 #[.pointer (some ⟨q, 0, none⟩), .int .i64 ((J.next : Int) + (n : Int))] w' fun e w'' => e = .returned (.int .i64 (J.place (J.next + n) : Int)) ∧ Mod (fun _ => False) w3 w'' := fun w' hm' => by
            have := place_any (hj3.mod hm' id) (J.next + n) (by omega) (by omega) hf hz1 hz2
            rw [show ((J.next + n : Nat) : Int) = (J.next : Int) + (n : Int) by omega] at this
            exact this.mono fun e w'' ⟨he, h2⟩ => ⟨he, hm'.trans' h2⟩
          have KW : ∀ w', Mod (fun _ => False) w3 w' → Calls Try.prog 40 #[.pointer (some ⟨p, 0, none⟩), .int .i64 (J.place (J.next + n) : Int), .slice none 0 0] w' fun e w'' => e = .returned (.int .i64 0) ∧ Turned w3 B p F' (E.1.write (J.place (J.next + n) : Int) []) w'' := fun w' hm' =>
            ((hd3.mod hm' (fun _ _ => id)).write hlim2 (J.place (J.next + n) : Int) none [] 0 0 rfl (BytesAt.nil _ _) (by decide)).mono fun e w'' ⟨he, ht⟩ => ⟨by rw [he, HW.out], ht.pre hm'⟩
          replace KP := Lib.hid KP
          replace KW := Lib.hid KW
          clear hdn hd3 hj3 hjr d0 d4
          go_upto_region 8 with fail
          have md3 : Mod (fun _ => False) w3 w3.drew := Mod.drew _ _
          have wn : IntKind.i64.wrap ((J.next : Int) + (n : Int)) = (J.next : Int) + (n : Int) := IntWalk.i64_in _ (by omega)
          go_cut [8] (fun v8 wx => v8 = .int .i64 0 ∧ Turned w3 B p F' (E.1.write (J.place (J.next + n) : Int) []) wx)
          case first =>
            go_region_held3 (fun w' => w'.cell? ⟨q, 0, none⟩ = some (.pointer (some ⟨p, 0, none⟩)) ∧ w'.cell? ⟨q, 4, none⟩ = some (.int .i64 (J.next : Int)))
              (first
                | (refine ⟨?_, ?_⟩ <;> simpa using (by assumption))
                | exact ⟨hma.cell' e0 id, hma.cell' e4 id⟩
                | exact ⟨htw.1.cell' e0 HQ2, htw.1.cell' e4 HQ2⟩)
              (first
                | (go_at_call 100; (with_reducible refine (KP.out _ md3).mono ?_); rintro e wa ⟨rfl, hma⟩)
                | (go_at_call 40; (with_reducible refine (KW.out _ hma).mono ?_); rintro e wb ⟨rfl, htw⟩))
            clear wn
            go_wp2_with fail
            go_meet
            exact ⟨rfl, htw⟩
          case rest =>
            obtain ⟨rfl, htw⟩ := hcut
            clear wn
            obtain ⟨hmw, F2, hd4, hF2⟩ := htw
            have hsz3 : w.heap.size ≤ w3.heap.size := Nat.le_trans hm.size hm3.size
            go_wp2
            go_roundw
            case rel =>
              refine ⟨n + 1, F2, by omega, by go_num, by rw [HE.out], by rw [HE.out]; exact hd4, (hm.trans hm3 (fun _ _ e => e.elim)).trans hmw (fun k hk e => ?_), fun k hk => ?_⟩
              · rcases HSUB.out k e with h | h
                · exact h
                · omega
              · rcases hF2 k hk with h | h
                · exact HSUB.out k h
                · exact .inr (by omega)
            case measure => simp [intOf]; omega
      · obtain rfl : n = J.size := by omega
        go_wp2
        go_meet
        exact ⟨F', rfl, hdn, hm, hsub⟩
  case rest =>
    obtain ⟨F', rfl, hdn, hm, hsub⟩ := hcut
    have d0 := hm.cell' c0 hq
    have hfn := (HK.out J.size).2.2
    cases hany : (scrubGo J D J.size).2
    · have hsc : J.scrub D = (scrubGo J D J.size).1 := by unfold Jr.scrub; rw [hany]; rfl
      have HSC := Lib.hid hsc
      clear hsc hfn hany
      go_wp2
      go_ret
      exact ⟨rfl, hm, F', by rw [HSC.out]; exact hdn, hsub⟩
    · have hsc : J.scrub D = (scrubGo J D J.size).1.sync := by unfold Jr.scrub; rw [hany, if_pos rfl]
      have hws : (scrubGo J D J.size).1.whySync = 0 := by unfold Dsk.whySync; rw [if_neg (by rw [hfn.gone]; decide), if_neg (by rw [hfn.bad]; decide)]
      have HSC := Lib.hid hsc
      have HWS := Lib.hid hws
      clear hsc hfn hany hws
      go_wp2_with fail
      refine hdn.sync.mono ?_
      rintro e w5 ⟨rfl, hmw, F2, hd4, hF2⟩
      rw [HWS.out]
      have hsz := hm.size
      go_wp2
      go_ret
      refine ⟨rfl, hm.trans hmw (fun k hk e => ?_), F2, by rw [HSC.out]; exact hd4, fun k hk => ?_⟩
      · rcases hsub k e with h | h
        · exact h
        · omega
      · rcases hF2 k hk with h | h
        · exact hsub k h
        · exact .inr (by omega)
end Go.Proofs.Ytdinnkacilgmmaa
namespace Go.Proofs.Ytdinnkacilgmmaa
open Go.RowKit

section
variable {w : World} {B q p : Nat} {J : Jr}

theorem jstart_any (h : JAt w q p J) : Calls Try.prog 61 #[.pointer (some ⟨q, 0, none⟩)] w fun e w' => e = .returned (.int .i64 (J.start : Int)) ∧ w = w' := by
  obtain ⟨-, -, -, c3, -, -⟩ := h.cell
  go_enter Try.func61, Try.ntmps61
  go_wp2
  go_ret
  exact ⟨rfl, rfl⟩
theorem jnext_any (h : JAt w q p J) : Calls Try.prog 57 #[.pointer (some ⟨q, 0, none⟩)] w fun e w' => e = .returned (.int .i64 (J.next : Int)) ∧ w = w' := by
  obtain ⟨-, -, -, -, c4, -⟩ := h.cell
  go_enter Try.func57, Try.ntmps57
  go_wp2
  go_ret
  exact ⟨rfl, rfl⟩
theorem jdead_any (h : JAt w q p J) : Calls Try.prog 62 #[.pointer (some ⟨q, 0, none⟩)] w fun e w' => e = .returned (.bool J.dead) ∧ w = w' := by
  obtain ⟨-, -, -, -, -, c5⟩ := h.cell
  go_enter Try.func62, Try.ntmps62
  go_wp2
  go_ret
  exact ⟨rfl, rfl⟩

theorem sectors_any (n : Nat) (hn : n ≤ 1000000) : Calls Try.prog 97 #[.int .i64 (n : Int)] w fun e w' => e = .returned (.int .i64 (((n + 245) / 242 : Nat) : Int)) ∧ w = w' := by
  have e : ((n : Int) + 4 + 242 - 1) / 242 = (((n + 245) / 242 : Nat) : Int) := by omega
  have e2 : ((n : Int) + 245) / 242 = (((n + 245) / 242 : Nat) : Int) := by omega
  have H := Lib.hid e
  have H2 := Lib.hid e2
  clear e e2
  go_enter Try.func97, Try.ntmps97
  go_wp2
  go_ret
  exact ⟨ret_val (by show Value.int _ _ = _; first | rw [H.out] | rw [H2.out]), rfl⟩

/-- Trim -/
def Jr.whyTrim (J : Jr) (s : Int) : Int := if s < (J.start : Int) ∨ (J.next : Int) < s then 1 else 0
def Jr.trim (J : Jr) (s : Int) : Jr := if s < (J.start : Int) ∨ (J.next : Int) < s then J else { J with start := s.toNat }
theorem jtrim_any (h : JAt w q p J) (s : Int) : Calls Try.prog 60 #[.pointer (some ⟨q, 0, none⟩), .int .i64 s] w fun e w' => e = .returned (.int .i64 (J.whyTrim s)) ∧ JAt w' q p (J.trim s) ∧ Mod (fun k => k = q) w w' := by
  obtain ⟨-, -, -, c3, c4, -⟩ := h.cell
  have t3 := thaw_of (i := 3) h
  by_cases h1 : s < (J.start : Int)
  · have e1 : J.whyTrim s = 1 := by simp [Jr.whyTrim, h1]
    have e2 : J.trim s = J := by simp [Jr.trim, h1]
    rw [e1, e2]
    go_enter Try.func60, Try.ntmps60
    go_wp2
    go_ret
    exact ⟨rfl, h, Mod.refl _ _⟩
  · by_cases h2 : (J.next : Int) < s
    · have e1 : J.whyTrim s = 1 := by simp [Jr.whyTrim, h2]
      have e2 : J.trim s = J := by simp [Jr.trim, h2]
      rw [e1, e2]
      go_enter Try.func60, Try.ntmps60
      go_wp2
      go_ret
      exact ⟨rfl, h, Mod.refl _ _⟩
    · have e1 : J.whyTrim s = 0 := by simp [Jr.whyTrim, h1, h2]
      have e2 : J.trim s = { J with start := s.toNat } := by simp [Jr.trim, h1, h2]
      have hs : ((s.toNat : Nat) : Int) = s := by omega
      have hb := setCell_block (i := 3) h (.int .i64 s)
      have hJ : JAt (w.setCell ⟨q, 3, none⟩ (.int .i64 s)) q p { J with start := s.toNat } := by
        unfold JAt
        rw [hb]
        simp only [hs]
        rfl
      rw [e1, e2]
      have HJ := Lib.hid hJ
      clear hJ hb hs e1 e2
      go_enter Try.func60, Try.ntmps60
      go_wp2
      go_ret
      exact ⟨rfl, HJ.out, Mod.setCell _ _ _ rfl⟩

/-- Room -/
def Jr.room (J : Jr) : Int := if J.dead then 0 else max (min (((J.start : Int) + J.size - J.next) * 242 - 4) 8192) 0
theorem jroom_any (h : JAt w q p J) (hb : J.start + J.size ≤ 2305843009213693952) (hn : J.next ≤ J.start + J.size) (hz : J.size ≤ 4096) (hs : J.start ≤ J.next) : Calls Try.prog 59 #[.pointer (some ⟨q, 0, none⟩)] w fun e w' => e = .returned (.int .i64 J.room) ∧ Mod (fun _ => False) w w' := by
  obtain ⟨-, -, c2, c3, c4, c5⟩ := h.cell
  cases hd : J.dead
  · rw [hd] at c5
    obtain ⟨f, hf⟩ : ∃ f : Nat, (f : Int) = (J.start : Int) + J.size - J.next := ⟨J.start + J.size - J.next, by omega⟩
    have hr : J.room = max (min ((f : Int) * 242 - 4) 8192) 0 := by unfold Jr.room; rw [hd, if_neg (by decide), hf]
    have hf4 : f ≤ 4096 := by omega
    have HR := Lib.hid hr
    have w1 : IntKind.i64.wrap ((J.start : Int) + (J.size : Int)) = (J.start : Int) + (J.size : Int) := IntWalk.i64_in _ (by omega)
    have w2 : IntKind.i64.wrap ((J.start : Int) + (J.size : Int) - (J.next : Int)) = (f : Int) := by rw [← hf]; exact IntWalk.i64_in _ (by omega)
    clear hr hf hd
    have kmx : ∀ (w : World) (ts : Array TypeId) (t : TypeId) (x : Int), (Builtin.max_ ts t #[.int .i64 x, .int .i64 0]).run Try.prog w = .ok (.int .i64 (max x 0)) w := fun w ts t x => by rw [run_max_int2]; congr 2; split <;> omega
    have kmn : ∀ (w : World) (ts : Array TypeId) (t : TypeId) (x : Int), (Builtin.min_ ts t #[.int .i64 x, .int .i64 8192]).run Try.prog w = .ok (.int .i64 (min x 8192)) w := fun w ts t x => by rw [run_min_int2]; congr 2; split <;> omega
    go_enter Try.func59, Try.ntmps59
    go_wp2_with fail
    go_region_held3 (fun w' => w'.cell? ⟨q, 2, none⟩ = some (.int .i64 (J.size : Int)) ∧ w'.cell? ⟨q, 3, none⟩ = some (.int .i64 (J.start : Int)) ∧ w'.cell? ⟨q, 4, none⟩ = some (.int .i64 (J.next : Int))) (refine ⟨?_, ?_, ?_⟩ <;> simpa using (by assumption)) (fail)
    clear w1 w2
    go_wp2
    go_ret
    exact ⟨ret_val (by show Value.int _ _ = _; rw [HR.out]), Mod.drew _ _⟩
  · have hr : J.room = 0 := by unfold Jr.room; rw [hd]; rfl
    rw [hr]
    rw [hd] at c5
    go_enter Try.func59, Try.ntmps59
    go_wp2
    go_ret
    exact ⟨rfl, Mod.refl _ _⟩

/-- Sync -/
theorem jsync_dead (h : JAt w q p J) (hdd : J.dead = true) : Calls Try.prog 55 #[.pointer (some ⟨q, 0, none⟩)] w fun e w' => e = .returned (.int .i64 21) ∧ w = w' := by
  obtain ⟨c0, -, -, -, -, c5⟩ := h.cell
  rw [hdd] at c5
  clear hdd
  go_enter Try.func55, Try.ntmps55
  go_wp2
  go_ret
  exact ⟨rfl, rfl⟩
theorem jsync_any {D : Dsk} {F : Nat → Prop} (h : JAt w q p J) (hd : DiskAt w B p D F) (hq : ¬ F q) (hdd : J.dead = false) : Calls Try.prog 55 #[.pointer (some ⟨q, 0, none⟩)] w fun e w' =>
    e = .returned (.int .i64 D.whySync) ∧ JAt w' q p { J with dead := D.whySync != 0 } ∧ Mod (fun k => F k ∨ k = q) w w' ∧ ∃ F', DiskAt w' B p D.sync F' ∧ (∀ k, F' k → F k ∨ w.heap.size ≤ k) := by
  obtain ⟨c0, -, -, -, -, c5⟩ := h.cell
  rw [hdd] at c5
  clear hdd
  obtain ⟨c, hc⟩ : ∃ c, c = D.whySync := ⟨_, rfl⟩
  have hqs : q < w.heap.size := lt_of_block h
  rw [← hc]
  have HC := Lib.hid hc
  clear hc
  go_enter Try.func55, Try.ntmps55
  go_wp2_with fail
  refine hd.sync.mono ?_
  rintro e w2 ⟨rfl, hm, F', hd2, hF'⟩
  rw [← HC.out]
  have h2 := h.mod hm hq
  obtain ⟨-, -, -, -, -, d5⟩ := h2.cell
  have t5 := thaw_of (i := 5) h2
  have hb := setCell_block (i := 5) h2 (.bool (c != 0))
  have m3 : Mod (fun k => k = q) w2 (w2.setCell ⟨q, 5, none⟩ (.bool (c != 0))) := Mod.setCell _ _ _ rfl
  have hqF : ∀ k, F' k → k ≠ q := fun k hk e => by
    subst e
    rcases hF' k hk with e | e
    · exact hq e
    · omega
  have HD := Lib.hid (hd2.mod m3 hqF)
  have HJ : Hid (JAt (w2.setCell ⟨q, 5, none⟩ (.bool (c != 0))) q p { J with dead := c != 0 }) := Lib.hid (by unfold JAt; rw [hb]; rfl)
  have HM := Lib.hid ((hm.mono (fun k _ e => Or.inl e : ∀ k, k < w.heap.size → F k → F k ∨ k = q)).trans m3 (fun k _ e => Or.inr e))
  have HF := Lib.hid hF'
  clear hb m3 hqF hd2 hF' h2
  go_wp2
  go_ret
  exact ⟨rfl, HJ.out, HM.out, F', HD.out, HF.out⟩
end
end Go.Proofs.Ytdinnkacilgmmaa
namespace Go.Proofs.Ytdinnkacilgmmaa
open Go.RowKit

/-- the slice value v owns rows of bytes, each of which is owned -/
def OBB (w : World) (B : Nat) (v : Value) (ls : List (List UInt8)) (G : Nat → Prop) : Prop :=
  ∃ xs : List Value, w.ownsRow B 22 1 v xs.length xs ∧ xs.length = ls.length ∧ (∀ i (h : i < xs.length) (h2 : i < ls.length), OwnB w B xs[i] ls[i]) ∧ G = fun k => v.ownBlock = some k ∨ ∃ x ∈ xs, x.ownBlock = some k

theorem OBB.nil (w : World) (B : Nat) : OBB w B (.slice none 0 0) [] (fun _ => False) :=
  ⟨[], World.ownsRow_nil w B 22 1, rfl, fun i h => by simp at h, by funext k; simp [Value.ownBlock]⟩
theorem OBB.lt {w : World} {B : Nat} {v : Value} {ls : List (List UInt8)} {G : Nat → Prop} (h : OBB w B v ls G) : ∀ k, G k → B ≤ k ∧ k < w.heap.size := by
  obtain ⟨xs, h1, h2, h3, rfl⟩ := h
  rintro k (e | ⟨x, hx, e⟩)
  · exact World.ownsRow.lt h1 k e
  · obtain ⟨i, hi, rfl⟩ := List.getElem_of_mem hx
    exact World.ownsRow.lt (h3 i hi (by omega)) k e
theorem OBB.mod {F G : Nat → Prop} {w w' : World} {B : Nat} {v : Value} {ls : List (List UInt8)} (h : OBB w B v ls G) (hm : Mod F w w') (hF : ∀ k, G k → ¬ F k) : OBB w' B v ls G := by
  obtain ⟨xs, h1, h2, h3, rfl⟩ := h
  exact ⟨xs, owns_mod h1 hm (fun k hk => hF k (.inl hk)), h2, fun i hi hi2 => (h3 i hi hi2).mod hm (fun k hk => hF k (.inr ⟨_, List.getElem_mem hi, hk⟩)), rfl⟩
def BBT (B : Nat) (v : Value) (ls : List (List UInt8)) : Thg B := ⟨fun w F => OBB w B v ls F, fun h => h.lt, fun h hm hF => h.mod hm hF⟩
/-- a block of another kind is none of its blocks -/
theorem OBB.ne {w : World} {B : Nat} {v : Value} {ls : List (List UInt8)} {G : Nat → Prop} (h : OBB w B v ls G) {q : Nat} {C : Array Value} {t : TypeId} {fz : Nat × Nat} (hq : w.heap[q]? = some (.cells C t fz)) (h1 : t ≠ 22) (h2 : t ≠ 5) : ¬ G q := by
  obtain ⟨xs, k1, k2, k3, rfl⟩ := h
  rintro (e | ⟨x, hx, e⟩)
  · exact own_ne k1 hq h1 e
  · obtain ⟨i, hi, rfl⟩ := List.getElem_of_mem hx
    exact own_ne (k3 i hi (by omega)) hq h2 e
theorem OBB.shape {w : World} {B : Nat} {v : Value} {ls : List (List UInt8)} {G : Nat → Prop} (h : OBB w B v ls G) : ∃ a cap, v = .slice a ls.length cap ∧ ls.length ≤ cap ∧ cap ≤ maxLen := by
  obtain ⟨xs, h1, h2, -, -⟩ := h
  obtain ⟨a, cap, e, h3, h4, -⟩ := owns_shape h1
  rw [h2] at e h3
  exact ⟨a, cap, e, h3, h4⟩

/-- a row more -/
theorem OBB.push {w w3 : World} {B : Nat} {v v' x : Value} {ls : List (List UInt8)} {b : List UInt8} {G : Nat → Prop} {xs : List Value} {o : Obj}
    (h1 : w.ownsRow B 22 1 v xs.length xs) (h2 : xs.length = ls.length) (h3 : ∀ i (h : i < xs.length) (h2 : i < ls.length), OwnB w B xs[i] ls[i]) (hG : G = fun k => v.ownBlock = some k ∨ ∃ x ∈ xs, x.ownBlock = some k) (hx : OwnB w B x b)
    (k1 : w3.ownsRow B 22 1 v' (xs.length + 1) (xs ++ [x])) (k2 : Mod (fun k => some k = v.ownBlock) (w.alloc o) w3) (k3 : v'.ownBlock = v.ownBlock ∨ v'.ownBlock = some (w.alloc o).heap.size) :
    ∃ G', OBB w3 B v' (ls ++ [b]) G' ∧ ∀ k, G' k → G k ∨ x.ownBlock = some k ∨ w.heap.size ≤ k := by
  have m1 : Mod (fun _ => False) w (w.alloc o) := Mod.alloc _ _ _
  have keep : ∀ {u : Value} {l : List UInt8}, OwnB w B u l → OwnB w3 B u l := fun {u l} hu => by
    have hu' := hu.mod m1 (fun _ _ => id)
    refine hu'.mod k2 (fun k hk e => ?_)
    obtain ⟨c, hc⟩ := own_type hu' hk
    exact own_ne (owns_mod h1 m1 (fun _ _ => id)) hc (by decide) e.symm
  refine ⟨_, ⟨xs ++ [x], by rw [List.length_append]; exact k1, by simp [h2], fun i hi hi2 => ?_, rfl⟩, ?_⟩
  · by_cases e : i < xs.length
    · have e2 : i < ls.length := by omega
      simp only [List.getElem_append_left e, List.getElem_append_left e2]
      exact keep (h3 i e e2)
    · have : i = xs.length := by simp at hi; omega
      subst this
      simp only [List.getElem_append_right (Nat.le_refl _), List.getElem_append_right (show ls.length ≤ xs.length by omega)]
      simpa [h2] using keep hx
  · subst hG
    rintro k (e | ⟨y, hy, e⟩)
    · rcases k3 with e2 | e2
      · exact .inl (.inl (by rw [← e2]; exact e))
      · rw [e2] at e
        cases e
        exact .inr (.inr m1.size)
    · rcases List.mem_append.1 hy with hy | hy
      · exact .inl (.inr ⟨y, hy, e⟩)
      · rw [List.mem_singleton.1 hy] at e
        exact .inr (.inl e)

/-! ### what stands -/
theorem recGo_bounds (rd : Nat → Option (UInt8 × List UInt8)) (s : Nat) : ∀ (fuel n : Nat) (all : List UInt8) (b : List UInt8) (m : Nat), recGo rd s fuel n all = some (b, m) → n < m ∧ m ≤ n + fuel ∧ b.length ≤ 8192 := by
  intro fuel
  induction fuel with
  | zero => intro n all b m h; cases h
  | succ fuel ih =>
    intro n all b m h
    simp only [recGo] at h
    split at h
    · cases h
    · split at h
      · cases h
      · split at h
        · have := ih _ _ _ _ h
          omega
        · split at h
          · rename_i hc
            injection h with h
            injection h with h1 h2
            subst h1 h2
            rw [List.length_drop]
            omega
          · cases h
theorem rec_bounds {J : Jr} {D : Dsk} {s : Nat} {b : List UInt8} {n : Nat} (h : J.rec_ D s = some (b, n)) : 1 ≤ n ∧ s + n ≤ J.start + J.size ∧ b.length ≤ 8192 := by
  have h' := h
  unfold Jr.rec_ at h
  have := recGo_bounds _ _ _ _ _ _ _ h
  refine ⟨by omega, ?_, this.2.2⟩
  by_cases hs : s ≤ J.start + J.size
  · omega
  · have e : J.start + J.size - s = 0 := by omega
    rw [e] at h
    cases h

/-- the records that stand from s on, and the number behind them -/
def Jr.recs (J : Jr) (D : Dsk) : Nat → Nat → List (List UInt8) × Nat
  | 0, s => ([], s)
  | fuel + 1, s => match J.rec_ D s with
    | none => ([], s)
    | some (b, n) => (b :: (J.recs D fuel (s + n)).1, (J.recs D fuel (s + n)).2)
end Go.Proofs.Ytdinnkacilgmmaa
namespace Go.Proofs.Ytdinnkacilgmmaa
open Go.RowKit

theorem open_nil {w : World} (a b c : Int) : Calls Try.prog 53 #[.pointer none, .int .i64 a, .int .i64 b, .int .i64 c] w fun e w' => e = .returned (.tuple #[.pointer none, .slice none 0 0, .int .i64 2]) ∧ w = w' := by
  go_enter Try.func53, Try.ntmps53
  go_wp2
  go_ret3
  exact ⟨rfl, rfl⟩

/-- what 'record' has left in two slots -/
def RecIn (o : Option (List UInt8 × Nat)) (w : World) (H : Nat) (v n : Value) : Prop :=
  (o = none ∧ v = .slice none 0 0 ∧ n = .int .i64 0) ∨ ∃ b m, o = some (b, m) ∧ n = .int .i64 ((m : Nat) : Int) ∧ OwnB w H v b

/-- a journal that was just opened -/
def Jr.opened (frm size next : Nat) (D : Dsk) : Jr := { frm := frm, size := size, start := next, next := (Jr.recs ⟨frm, size, next, next, false⟩ D (size + 1) next).2, dead := false }
def openRecs (frm size next : Nat) (D : Dsk) : List (List UInt8) := (Jr.recs ⟨frm, size, next, next, false⟩ D (size + 1) next).1

theorem rec_none_end (J : Jr) (D : Dsk) (s : Nat) (h : J.start + J.size ≤ s) : J.rec_ D s = none := by
  cases hr : J.rec_ D s with
  | none => rfl
  | some bn =>
    obtain ⟨b, n⟩ := bn
    have := rec_bounds hr
    omega
theorem recs_fuel (J : Jr) (D : Dsk) : ∀ f1 f2 s, J.start + J.size ≤ f1 + s → J.start + J.size ≤ f2 + s → J.recs D f1 s = J.recs D f2 s := by
  intro f1
  induction f1 with
  | zero =>
    intro f2 s h1 h2
    cases f2 with
    | zero => rfl
    | succ f2 => simp only [Jr.recs, rec_none_end J D s (by omega)]
  | succ f1 ih =>
    intro f2 s h1 h2
    cases f2 with
    | zero => simp only [Jr.recs, rec_none_end J D s (by omega)]
    | succ f2 =>
      cases hr : J.rec_ D s with
      | none => simp only [Jr.recs, hr]
      | some bn =>
        obtain ⟨b, n⟩ := bn
        have hb := rec_bounds hr
        simp only [Jr.recs, hr]
        rw [ih f2 (s + n) (by omega) (by omega)]
theorem recs_bounds (J : Jr) (D : Dsk) : ∀ f s, s ≤ J.start + J.size → s ≤ (J.recs D f s).2 ∧ (J.recs D f s).2 ≤ J.start + J.size := by
  intro f
  induction f with
  | zero => intro s h; exact ⟨Nat.le_refl _, h⟩
  | succ f ih =>
    intro s h
    cases hr : J.rec_ D s with
    | none => simp only [Jr.recs, hr]; exact ⟨Nat.le_refl _, h⟩
    | some bn =>
      obtain ⟨b, n⟩ := bn
      have hb := rec_bounds hr
      simp only [Jr.recs, hr]
      have := ih (s + n) (by omega)
      omega
theorem slices_oneCell7 (a : Option Addr) (n c : Nat) : ∀ u ∈ [Value.slice a n c], u.oneCell' = true := by
  intro u hu; rw [List.mem_singleton] at hu; subst hu; rfl
def slLen : Value → Nat
  | .slice _ n _ => n
  | _ => 0

set_option maxHeartbeats 4000000 in
set_option maxRecDepth 100000 in
theorem open_ok {w : World} {B p : Nat} {D : Dsk} {F : Nat → Prop} (hd : DiskAt w B p D F) (hfine : D.fine) (frm size next : Nat) (hf : frm ≤ D.N) (hz : 2 ≤ size) (hz2 : size ≤ D.N - frm) (hn1 : 1 ≤ next) (hn2 : next ≤ 1152921504606846976) (hlim : D.l.length ≤ 1000000) :
    Calls Try.prog 53 #[.pointer (some ⟨p, 0, none⟩), .int .i64 (frm : Int), .int .i64 (size : Int), .int .i64 (next : Int)] w fun e w' =>
      ∃ q v G F', e = .returned (.tuple #[.pointer (some ⟨q, 0, none⟩), v, .int .i64 0]) ∧ JAt w' q p (Jr.opened frm size next D) ∧ OBB w' w.heap.size v (openRecs frm size next D) G ∧ Mod F w w' ∧ DiskAt w' B p ((Jr.opened frm size next D).scrub D) F' ∧ (∀ k, F' k → F k ∨ w.heap.size ≤ k) ∧ w.heap.size ≤ q ∧ ¬ F' q ∧ ¬ G q ∧ ∀ k, G k → ¬ F' k := by
  have htop := hd.wf.top
  have i1 : ¬ (frm : Int) < 0 := by omega
  have i2 : (frm : Int) ≤ (D.N : Int) := by omega
  have i3 : (2 : Int) ≤ (size : Int) := by omega
  have i4 : (size : Int) ≤ (D.N : Int) - (frm : Int) := by omega
  have i5 : (1 : Int) ≤ (next : Int) := by omega
  have i6 : (next : Int) ≤ 1152921504606846976 := by omega
  obtain ⟨J, hJ⟩ : ∃ J : Jr, J = ⟨frm, size, next, next, false⟩ := ⟨_, rfl⟩
  obtain ⟨W, hW⟩ : ∃ W, W = w.alloc (.cells #[.pointer (some ⟨p, 0, none⟩), .int .i64 (frm : Int), .int .i64 (size : Int), .int .i64 (next : Int), .int .i64 (next : Int), .bool false] 137) := ⟨_, rfl⟩
  have mW : Mod (fun _ => False) w W := by rw [hW]; exact Mod.alloc _ _ _
  have hjW : JAt W w.heap.size p { J with next := next } := by rw [hW, hJ]; exact heap_alloc_new w _
  have hFq : ¬ F w.heap.size := fun e => by have := (hd.lt _ e).2; omega
  have hsz : W.heap.size = w.heap.size + 1 := by rw [hW]; simp
  obtain ⟨OJ, hOJ⟩ : ∃ OJ, OJ = Jr.opened frm size next D := ⟨_, rfl⟩
  obtain ⟨OR, hOR⟩ : ∃ OR, OR = openRecs frm size next D := ⟨_, rfl⟩
  rw [← hOJ, ← hOR]
  have hOJ' : OJ = { J with next := (J.recs D (size + 1) next).2 } := by rw [hOJ, hJ]; rfl
  have hOR' : OR = (J.recs D (size + 1) next).1 := by rw [hOR, hJ]; rfl
  have jf : J.frm = frm := by rw [hJ]
  have js : J.size = size := by rw [hJ]
  have jst : J.start = next := by rw [hJ]
  have KR : ∀ s w', next ≤ s → s ≤ next + size → JAt w' w.heap.size p { J with next := s } → Mod (fun _ => False) w w' → Calls Try.prog 95 #[.pointer (some ⟨w.heap.size, 0, none⟩), .int .i64 (s : Int)] w' fun e w'' => (∃ v n, e = .returned (.tuple #[v, n]) ∧ RecIn (J.rec_ D s) w'' w.heap.size v n ∧ ∀ k, v.ownBlock = some k → w'.heap.size ≤ k) ∧ Mod (fun _ => False) w' w'' := fun s w' h1 h2 hj hm => by
    have hd' := hd.mod hm (fun _ _ => id)
    refine (record_any hj hd' s (by omega) (by show J.start + J.size ≤ _; rw [jst, js]; omega) (by show s ≤ J.start + J.size; rw [jst, js]; omega) (by show J.start ≤ s; omega) (by show 1 ≤ J.size; omega) (by show J.frm + J.size ≤ D.N; omega) w.heap.size hm.size).mono ?_
    rintro e w'' ⟨hr, hm'⟩
    refine ⟨?_, hm'⟩
    rcases hr with ⟨h1, h2⟩ | ⟨b, n, v, h1, h2, h3, h4⟩
    · exact ⟨_, _, h2, .inl ⟨h1, rfl, rfl⟩, fun k hk => by simp [Value.ownBlock] at hk⟩
    · exact ⟨_, _, h2, .inr ⟨b, n, h1, rfl, h3⟩, h4⟩
  replace KR := Lib.hid KR
  have HOJ := Lib.hid hOJ'
  have HOR := Lib.hid hOR'
  have HJf := Lib.hid jf
  have HJs := Lib.hid js
  have HJst := Lib.hid jst
  have HD := Lib.hid hd
  have HFQ := Lib.hid hFq
  have HF := Lib.hid hfine
  clear hOJ hOR hOJ' hOR' jf js jst hJ
  go_enter Try.func53, Try.ntmps53
  go_wp2_with fail
  refine HD.out.size.mono ?_
  rintro e w' ⟨rfl, rfl⟩
  go_wp2_with fail
  rw [← hW]
  refine (KR.out next W (by omega) (by omega) hjW mW).mono ?_
  rintro e w1 ⟨⟨v14, v15, rfl, hrec, hnr⟩, hm1⟩
  go_upto_block 0 with fail
  go_cut [13] (fun v13 wx => ∃ G, JAt wx w.heap.size p OJ ∧ OBB wx w.heap.size v13 OR G ∧ Mod (fun _ => False) w wx)
  case first =>
    go_wp2_with fail
    go_loopw [13, 14, 15] (fun v13 v14 v15 wr => ∃ (s : Nat) (acc : List (List UInt8)) (G : Nat → Prop), next ≤ s ∧ s ≤ next + size ∧ acc.length ≤ s - next ∧ JAt wr w.heap.size p { J with next := s } ∧ OBB wr w.heap.size v13 acc G ∧ RecIn (J.rec_ D s) wr w.heap.size v14 v15 ∧ Mod (fun _ => False) w wr ∧ OR = acc ++ (J.recs D (next + size + 1 - s) s).1 ∧ OJ = { J with next := (J.recs D (next + size + 1 - s) s).2 }) (fun v13 _ _ _ => size + 1 - slLen v13)
    case atStart => exact ⟨next, [], _, Nat.le_refl _, by omega, Nat.zero_le _, hjW.mod hm1 id, OBB.nil _ _, hrec, mW.trans' hm1, by rw [HOR.out, show next + size + 1 - next = size + 1 by omega]; rfl, by rw [HOJ.out, show next + size + 1 - next = size + 1 by omega]⟩
    case round =>
      obtain ⟨s, acc, G, hs1, hs2, hal, hjr, hacc, hrec, hm, hor, hoj⟩ := hrel
      rcases hrec with ⟨hno, rfl, rfl⟩ | ⟨b, m, hso, rfl, hob⟩
      · have hfu : next + size + 1 - s = (next + size - s) + 1 := by omega
        rw [hfu] at hor hoj
        simp only [Jr.recs, hno, List.append_nil] at hor hoj
        have hjo : JAt wr w.heap.size p OJ := by rw [hoj]; exact hjr
        rw [← hor] at hacc
        have HJO := Lib.hid hjo
        clear hoj hjr hor hno
        go_wp2
        go_meet
        exact ⟨G, HJO.out, hacc, hm⟩
      · have hbd := rec_bounds hso
        rw [HJst.out, HJs.out] at hbd
        obtain ⟨hm1', hm2', -⟩ := hbd
        have hrs : J.recs D (next + size + 1 - s) s = (b :: (J.recs D (next + size + 1 - (s + m)) (s + m)).1, (J.recs D (next + size + 1 - (s + m)) (s + m)).2) := by
          rw [show next + size + 1 - s = (next + size - s) + 1 by omega]
          simp only [Jr.recs, hso]
          rw [recs_fuel J D (next + size - s) (next + size + 1 - (s + m)) (s + m) (by rw [HJst.out, HJs.out]; omega) (by rw [HJst.out, HJs.out]; omega)]
        have hor2 : OR = (acc ++ [b]) ++ (J.recs D (next + size + 1 - (s + m)) (s + m)).1 := by rw [hor, hrs]; simp
        have hoj2 : OJ = { J with next := (J.recs D (next + size + 1 - (s + m)) (s + m)).2 } := by rw [hoj, hrs]
        replace hor2 := Lib.hid hor2
        replace hoj2 := Lib.hid hoj2
        clear hor hoj hso hrs
        obtain ⟨xs, k1, k2, k3, k4⟩ := hacc
        obtain ⟨av, cv, ev, -, -, -⟩ := owns_shape k1
        obtain ⟨ab, cb, eb, -, -, -⟩ := hob.shape
        subst ev eb
        have k5 : 0 < (m : Int) := by omega
        have hle : w.heap.size ≤ wr.heap.size := hm.size
        have hxl : xs.length ≤ 4096 := by rw [k2]; omega
        have hj7 : ∀ o w7, Mod (fun k => some k = (Value.slice av xs.length cv).ownBlock) (wr.alloc o) w7 → JAt w7 w.heap.size p { J with next := s } := fun o w7 hm7 =>
          (hjr.mod (Mod.alloc (fun _ => False) wr o) id).mod hm7 (fun e => own_ne (owns_mod k1 (Mod.alloc (fun _ => False) wr o) (fun _ _ => id)) (hjr.mod (Mod.alloc (fun _ => False) wr o) id) (by decide) e.symm)
        have HJ7 := Lib.hid hj7
        clear hj7
        go_wp2_with (first
          | (at_builtin; refine appR 66 22 _ 1 24 Try.underlying66 info22 rfl (by decide) (by decide) rfl _ _ rfl w.heap.size _ xs.length xs rfl (owns_mod k1 (Mod.alloc (fun _ => False) _ _) (fun _ _ => id)) ⟨wr.heap.size, 0, none⟩ 1 1 _ rfl rfl (cells_new wr _ 22) (slices_oneCell7 _ _ _) (by omega) (by simp; omega) ?_; intro v7 w7 ho7 hm7 hb7; have hj7 := HJ7.out _ _ hm7; have d4 : w7.cell? ⟨w.heap.size, 4, none⟩ = some (.int .i64 (s : Int)) := hj7.cell.2.2.2.2.1; have t4 := thaw_of (i := 4) hj7))
        have hj8 : JAt (w7.setCell ⟨w.heap.size, 4, none⟩ (.int .i64 ((s : Int) + (m : Int)))) w.heap.size p { J with next := s + m } := by
          unfold JAt
          rw [setCell_block hj7]
          simp
        have hm78 : Mod (fun k => k = w.heap.size) w7 (w7.setCell ⟨w.heap.size, 4, none⟩ (.int .i64 ((s : Int) + (m : Int)))) := Mod.setCell _ _ _ rfl
        have hm7' : Mod (fun _ => False) w w7 := (hm.trans' (Mod.alloc _ _ _)).trans hm7 (fun k hk e => by have := (World.ownsRow.lt k1 k e.symm).1; omega)
        have hm8 : Mod (fun _ => False) w (w7.setCell ⟨w.heap.size, 4, none⟩ (.int .i64 ((s : Int) + (m : Int)))) := hm7'.trans hm78 (fun k hk e => by omega)
        obtain ⟨G2, hG2, -⟩ := OBB.push (ls := acc) (G := G) k1 k2 k3 k4 hob ho7 hm7 hb7
        have hG3 := hG2.mod hm78 (fun k hk e => hG2.ne hj7 (by decide) (by decide) (e ▸ hk))
        have hKR := KR.out (s + m) _ (by omega) (by omega) hj8 hm8
        rw [show ((s + m : Nat) : Int) = (s : Int) + (m : Int) by omega] at hKR
        have hxa : xs.length = acc.length := k2
        have hlen : (acc ++ [b]).length = xs.length + 1 := by simp [k2]
        clear hG2 hm78 hm7' hj7 ho7 hm7 hb7 d4 t4 k1 k2 k3 k4 hob
        generalize w7.setCell ⟨w.heap.size, 4, none⟩ (.int .i64 ((s : Int) + (m : Int))) = w8 at *
        refine hKR.mono ?_
        rintro e w9 ⟨⟨v14, v15, rfl, hrec, -⟩, hm9⟩
        go_wp2_with fail
        obtain ⟨a7, c7, e7, -, -⟩ := hG3.shape
        go_roundw
        case rel => exact ⟨s + m, acc ++ [b], G2, by omega, by omega, by omega, hj8.mod hm9 id, hG3.mod hm9 (fun _ _ => id), hrec, hm8.trans' hm9, hor2.out, hoj2.out⟩
        case measure =>
          rw [e7, hlen]
          simp [slLen]
          omega
  case rest =>
    obtain ⟨G, hjo, hacc, hm⟩ := hcut
    go_wp2_with fail
    have hd2 := HD.out.mod hm (fun _ _ => id)
    have hjn : OJ.next ≤ next + size ∧ 1 ≤ OJ.next ∧ OJ.size = size ∧ OJ.frm = frm := by
      have := recs_bounds J D (size + 1) next (by rw [HJst.out, HJs.out]; omega)
      rw [HJst.out, HJs.out] at this
      rw [HOJ.out]
      exact ⟨this.2, by show 1 ≤ (J.recs D (size + 1) next).2; omega, HJs.out, HJf.out⟩
    obtain ⟨n1, n2, n3, n4⟩ := hjn
    refine (scrub_any hjo hd2 HFQ.out HF.out n2 (by omega) (by omega) (by omega) hlim).mono ?_
    rintro e w9 ⟨rfl, hmw, F2, hd4, hF2⟩
    have hjz := hjo.mod hmw HFQ.out
    have hol := hacc.lt
    have hoz := hacc.mod hmw (fun k hk e => by have := (hol k hk).1; have := (HD.out.lt _ e).2; omega)
    have hq := lt_of_block hjo
    go_wp2_with fail
    go_ret3
    refine ⟨w.heap.size, _, G, F2, rfl, hjz, hoz, (hm.mono (fun _ _ e => e.elim)).trans hmw (fun k hk e => e), hd4, fun k hk => ?_, Nat.le_refl _, fun e => ?_, hacc.ne hjo (by decide) (by decide), fun k hk e => ?_⟩
    · rcases hF2 k hk with h | h
      · exact .inl h
      · exact .inr (Nat.le_trans hm.size h)
    · rcases hF2 _ e with h | h
      · exact HFQ.out h
      · omega
    · rcases hF2 k e with h | h
      · have := (HD.out.lt _ h).2; have := (hol k hk).1; omega
      · have := (hol k hk).2; omega
end Go.Proofs.Ytdinnkacilgmmaa
